/- Part of the proof: PA2, PA3, PA4, PA5, PA6, PA7, PA8, PA9, PA10, PA11, PA12, PC1, PC2. -/
import Derived.Test.YtifafejidnjckaaGreatK12
set_option linter.unusedVariables false
set_option linter.unusedSimpArgs false
set_option maxRecDepth 100000
open Bool renaming and_eq_true → aaK, false_eq_true → aaU, true_and → abL, not_true → abM, not_eq_true' → abN
open Int renaming toNat_natCast → aaS
open List renaming getElem?_eq_getElem → aaL, getElem?_eq_some_iff → aaM, mem_of_getElem? → aaP, length_append → aaR, drop_eq_getElem_cons → aaT, getD_eq_getElem?_getD → aaV, length_cons → aaW, getElem?_append_left → aaX, length_map → aaY, getElem?_append_right → aaZ, append_assoc → aa0, all_eq_true → aa1, getElem?_eq_none → aa2, map_cons → aa3, replicate → aa4, mem_singleton → aa5, mem_cons → aa6, length_nil → aba, mem_append → abb, map_append → abc, mem_map → abf, getElem?_cons_zero → abg, take_append_of_le_length → abi, drop_zero → abl, take_succ_eq_append_getElem → abn, nil_append → abr, all_cons → abu, getElem?_of_mem → abv, length_set → abx, length_take → abz, mem_append_left → abA, idxOf_lt_length_of_mem → abD, drop_eq_nil_of_le → abH, ext_getElem? → abO, map_congr_left → abQ, append_nil → abU, set_append_right → abX, mem_cons_of_mem → ab0, take_length → ab3, length_replicate → aca, nodup_append → acd, map_nil → acf
open Nat renaming le_refl → aaN, zero_le → abe, add_sub_cancel_left → abC, sub_self → abT, add_zero → ab5, add_comm → ace
open Option renaming bind_some → aaG
open Option.some renaming injEq → aaJ
namespace Go.Uf
open Go Go.R
open Go.IntKind (i64 u64 u8 u32)
def dh (N:List ai)(n:Int):ai:=N.getD n.toNat ⟨0,0,⟨#[]⟩,[]⟩
def iI (N:List ai)(n:Int):Prop:=(dh N n).kind≠0
instance (N:List ai) (n:Int):Decidable (iI N n):=inferInstanceAs (Decidable (_≠_))
def Bt (N:List ai)(a b:Int):Prop:=(iI N a∧¬iI N b)∨((iI N a↔iI N b)∧a≤b)
def jj (a b:ai):Prop:=a.kind=b.kind∧a.int=b.int∧a.label.data.toList=b.label.data.toList∧a.args.length=b.args.length
structure Cn (N:List ai)(R:Int→Int):Prop where
 rg:∀n,Rg N.length n→Rg N.length (R n)
 id:∀n,Rg N.length n→R (R n)=R n
 bt:∀n,Rg N.length n→Bt N (R n) n
def Cl (N:List ai)(T:Int→Int):Prop:=∀x y,Rg N.length x→Rg N.length y→T x=T y→iI N x→iI N y→jj (dh N x) (dh N y)∧∀(i:Nat) (a b:Int),(dh N x).args[i]? = some a→(dh N y).args[i]? = some b→T a=T b
def iA (N:List ai)(R T:Int→Int):Prop:=∀x y,Rg N.length x→Rg N.length y→R x=R y→T x=T y
def tF (N:List ai)(R:Int→Int)(L:List (Int × Int)):Prop:=∀T,iA N R T→(∀p∈L,T p.1=T p.2)→∀x y,Rg N.length x→Rg N.length y→R x=R y→iI N x→iI N y→jj (dh N x) (dh N y)∧∀(i:Nat) (a b:Int),(dh N x).args[i]? = some a→(dh N y).args[i]? = some b→T a=T b
def Jd (N:List ai):Prop:=∀v∈N,v.args.length≤8∧∀a∈v.args,Rg N.length a
section
variable {N:List ai}{R T:Int→Int}{a b x y n:Int}
theorem zq (h:Rg N.length n):N[n.toNat]? = some (dh N n):=by
 have hl:n.toNat<N.length:=by have:=h.1; have:=h.2; omega
 unfold dh
 rw [aaV,aaL hl]; rfl
theorem vW (h:Rg N.length n):ix N n=some (dh N n):=by
 unfold ix; rw [if_pos h.1,zq h]
theorem gm (h:Rg N.length n):dh N n∈N:=aaP (zq h)
theorem Bt.trans {c:Int}(h1:Bt N a b)(h2:Bt N b c):Bt N a c:=by
 unfold Bt at h1 h2 ⊢
 rcases h1 with h1 | h1<;>rcases h2 with h2 | h2
 ·exact absurd h2.1 h1.2
 ·exact .inl ⟨h1.1,fun h=>h1.2 (h2.1.2 h)⟩
 ·exact .inl ⟨h1.1.2 h2.1,h2.2⟩
 ·exact .inr ⟨h1.1.trans h2.1,om⟩
theorem Bt.refl:Bt N a a:=.inr ⟨Iff.rfl,Int.le_refl _⟩
theorem Cn.val (c:Cn N R)(h:Rg N.length n)(v:iI N n):iI N (R n):=by
 rcases c.bt n h with h1 | h1
 ·exact h1.1
 ·exact h1.1.2 v
def ls (N:List ai)(a b:Int):Int × Int:=if iI N a↔iI N b then (if a<b then (b,a) else (a,b)) else (if iI N b then (a,b) else (b,a))
theorem xC (a b:Int):Bt N (ls N a b).2 (ls N a b).1∧((ls N a b).1=a∧(ls N a b).2=b∨(ls N a b).1=b∧(ls N a b).2=a):=by
 unfold ls
 by_cases h:iI N a↔iI N b
 ·rw [if_pos h]
  by_cases h2:a<b
  ·rw [if_pos h2]; exact⟨.inr ⟨h,by dsimp only; omega⟩,.inr ⟨rfl,rfl⟩⟩
  ·rw [if_neg h2]; exact⟨.inr ⟨h.symm,by dsimp only; omega⟩,.inl ⟨rfl,rfl⟩⟩
 ·rw [if_neg h]
  by_cases h2:iI N b
  ·rw [if_pos h2]; exact⟨.inl ⟨h2,fun h3=>h ⟨fun _=>h2,fun _=>h3⟩⟩,.inl ⟨rfl,rfl⟩⟩
  ·rw [if_neg h2]
   refine⟨.inl ⟨?_,h2⟩,.inr ⟨rfl,rfl⟩⟩
   by_cases h3:iI N a
   ·exact h3
   ·exact absurd ⟨fun h4=>absurd h4 h3,fun h4=>absurd h4 h2⟩ h
def vF (R:Int→Int)(q:Int × Int)(n:Int):Int:=if R n=q.1 then q.2 else R n
theorem N0 (c:Cn N R){q:Int × Int}(h1:Rg N.length q.1)(h2:Rg N.length q.2)(r1:R q.1=q.1)(r2:R q.2=q.2)(hne:q.2≠q.1)(hb:Bt N q.2 q.1):Cn N (vF R q):=by
 refine⟨fun n hn=>?_,fun n hn=>?_,fun n hn=>?_⟩
 ·unfold vF; split
  ·exact h2
  ·exact c.rg n hn
 ·unfold vF
  by_cases h:R n=q.1
  ·rw [if_pos h,r2,if_neg hne]
  ·rw [if_neg h,c.id n hn,if_neg h]
 ·unfold vF
  split
  ·rename_i h
   have:=c.bt n hn
   rw [h] at this
   exact hb.trans this
  ·exact c.bt n hn
theorem EZ {q:Int × Int}:iA N R (vF R q):=fun x y _ _ h=>by unfold vF; rw [h]
theorem zr {q:Int × Int}(ha:R a=q.1)(hb:R b=q.2)(hne:q.2≠q.1):vF R q a=vF R q b:=by
 unfold vF; rw [if_pos ha,hb,if_neg hne]
theorem Gl (c:Cn N R){q:Int × Int}(h1:Rg N.length q.1)(h2:Rg N.length q.2)(s:iA N R T)(h:T q.1=T q.2):iA N (vF R q) T:=by
 have key:∀x,Rg N.length x→T (vF R q x)=T x:=fun x hx=>by
  have e:T (R x)=T x:=s _ _ (c.rg x hx) hx (c.id x hx)
  unfold vF
  split
  ·rename_i h3; rw [←h,←h3,e]
  ·exact e
 intro x y hx hy he
 rw [←key x hx,←key y hy,he]
theorem Gm {p:Int × Int}{L:List (Int × Int)}(h:tF N R (p::L))(Q0:Rg N.length p.1)(Q3:Rg N.length p.2)(he:R p.1=R p.2):tF N R L:=fun T s hL=>h T s fun q hq=>by
 rcases aa6.1 hq with rfl | hq
 ·exact s _ _ Q0 Q3 he
 ·exact hL q hq
theorem Gn (c:Cn N R){p q:Int × Int}{L M:List (Int × Int)}(h:tF N R (p::L))(Q0:Rg N.length p.1)(Q3:Rg N.length p.2)
  (hq:(q.1=R p.1∧q.2=R p.2)∨(q.1=R p.2∧q.2=R p.1)) (hne:q.2≠q.1)
  (hM:iI N (R p.1)→iI N (R p.2)→jj (dh N (R p.1)) (dh N (R p.2))∧∀(i:Nat) (a b:Int),(dh N (R p.1)).args[i]? = some a→(dh N (R p.2)).args[i]? = some b→(a,b)∈M):tF N (vF R q) (L++M):=by
 intro T s hL x y hx hy he vx vy
 have s0:iA N R T:=fun x y hx hy h=>s x y hx hy (EZ x y hx hy h)
 have g1:=c.rg _ Q0
 have g2:=c.rg _ Q3
 have tp:T p.1=T p.2:=s _ _ Q0 Q3 (by
  rcases hq with⟨h1,h2⟩| ⟨h1,h2⟩
  ·exact zr h1.symm h2.symm hne
  ·exact (zr h1.symm h2.symm hne).symm)
 have old:=h T s0 (fun q hq=>by
  rcases aa6.1 hq with rfl | hq
  ·exact tp
  ·exact hL q (abA _ hq))
 have mid:∀x y,Rg N.length x→Rg N.length y→R x=R p.1→R y=R p.2→iI N x→iI N y→jj (dh N x) (dh N y)∧∀(i:Nat) (a b:Int),(dh N x).args[i]? = some a→(dh N y).args[i]? = some b→T a=T b:=by
  intro x y hx hy e1 e2 vx vy
  have v1:iI N (R p.1):=e1 ▸ c.val hx vx
  have v2:iI N (R p.2):=e2 ▸ c.val hy vy
  obtain⟨t0,m0⟩:=hM v1 v2
  obtain⟨t1,m1⟩:=old x (R p.1) hx g1 (by rw [c.id _ Q0,e1]) vx v1
  obtain⟨t2,m2⟩:=old (R p.2) y g2 hy (by rw [c.id _ Q3,e2]) v2 vy
  refine⟨⟨t1.1.trans (t0.1.trans t2.1),t1.2.1.trans (t0.2.1.trans t2.2.1),t1.2.2.1.trans (t0.2.2.1.trans t2.2.2.1),t1.2.2.2.trans (t0.2.2.2.trans t2.2.2.2)⟩,fun i a b ha hb=>?_⟩
  have l1:i<(dh N (R p.1)).args.length:=by rw [←t1.2.2.2]; exact (aaM.1 ha).1
  have l2:i<(dh N (R p.2)).args.length:=by rw [←t0.2.2.2]; exact l1
  have k1:=aaL l1
  have k2:=aaL l2
  rw [m1 i _ _ ha k1,←m2 i _ _ k2 hb]
  exact hL _ (List.mem_append_right _ (m0 i _ _ k1 k2))
 have sym:∀x y,jj (dh N x) (dh N y)∧(∀(i:Nat) (a b:Int),(dh N x).args[i]? = some a→(dh N y).args[i]? = some b→T a=T b)→jj (dh N y) (dh N x)∧∀(i:Nat) (a b:Int),(dh N y).args[i]? = some a→(dh N x).args[i]? = some b→T a=T b:=by
  rintro x y ⟨t,m⟩
  exact⟨⟨t.1.symm,t.2.1.symm,t.2.2.1.symm,t.2.2.2.symm⟩,fun i a b ha hb=>(m i b a hb ha).symm⟩
 by_cases e:R x=R y
 ·exact old x y hx hy e vx vy
 unfold vF at he
 by_cases ex:R x=q.1<;>by_cases ey:R y=q.1
 ·exact absurd (ex.trans ey.symm) e
 ·rw [if_pos ex,if_neg ey] at he
  rcases hq with⟨h1,h2⟩| ⟨h1,h2⟩
  ·exact mid x y hx hy (ex.trans h1) (he.symm.trans h2) vx vy
  ·exact sym _ _ (mid y x hy hx (he.symm.trans h2) (ex.trans h1) vy vx)
 ·rw [if_neg ex,if_pos ey] at he
  rcases hq with⟨h1,h2⟩| ⟨h1,h2⟩
  ·exact sym _ _ (mid y x hy hx (ey.trans h1) (he.trans h2) vy vx)
  ·exact mid x y hx hy (he.trans h2) (ey.trans h1) vx vy
 ·rw [if_neg ex,if_neg ey] at he
  exact absurd he e
theorem Je (h:tF N R []):Cl N R:=fun x y hx hy e vx vy=>h R (fun _ _ _ _ h=>h) (fun _ h=>by cases h) x y hx hy e vx vy
theorem KY {L:List (Int × Int)}(h:Cl N R)(ha:Jd N):tF N R L:=fun T s _ x y hx hy e vx vy=>by
 obtain⟨t,m⟩:=h x y hx hy e vx vy
 exact⟨t,fun i a b h1 h2=>s _ _ ((ha _ (gm hx)).2 a (aaP h1)) ((ha _ (gm hy)).2 b (aaP h2)) (m i a b h1 h2)⟩
end
end Go.Uf
namespace Go.Uf
open Go Go.R
open Go.IntKind (i64 u64 u8 u32)
theorem Q9 (x:Int):i64.wrap x=if x % 18446744073709551616≥9223372036854775808 then x % 18446744073709551616 - 18446744073709551616 else x % 18446744073709551616:=by
 unfold IntKind.wrap; simp [IntKind.signed,IntKind.bits]
theorem jA {x:Int}(h0 : -9223372036854775808≤x)(h1:x<9223372036854775808):i64.wrap x=x:=by
 rw [Q9]; split<;>omega
theorem sQ {α:Type}{l:List α}{i:Nat}{a:α}(h:l[i]? = some a):ix l (i:Int)=some a:=by
 unfold ix; rw [if_pos (Int.natCast_nonneg _),aaS,h]
theorem wR {α:Type}{b:Nat}{l l2:List α}(h:(l.length+l2.length)*(b+1)≤1099511627776):app b l l2=some (l++l2):=by
 unfold app; rw [if_pos h]
end Go.Uf
namespace Go.Proofs.YtifafejidnjckaaGreat
open Go Go.R Go.Uf
open Go.IntKind (i64 u64 u8 u32)
structure Inv (s:ab):Prop where
 made:s.aj=true
 len:s.ae.length=s.aa.length
 max:s.aa.length≤8000
 ok:JR s.ae
 cn:Cn s.aa (rp s.ae)
 args:Jd s.aa
section
variable {m:Nat}{s:ab}{a b n:Int}
theorem Inv.rg (v:Inv s)(h:Rg s.aa.length n):Rg s.ae.length n:=by rw [v.len]; exact h
theorem Jf (v:Inv s)(h:Rg s.aa.length n):∀(k d:Nat),d≤sP s.ae→sP s.ae<k+d→bg.l0 m s k (iz s.ae d n)=some (rp s.ae n)
 | 0,d,h1,h2=>by omega
 | k+1,d,h1,h2=>by
  have hr:=vU v.ok (v.rg h) d
  simp only [bg.l0,zo hr,aaG]
  by_cases he:jk s.ae (iz s.ae d n)=iz s.ae d n
  ·rw [KW h1 he]
   simp [he]
  ·have hd:d<sP s.ae:=by
    rcases Nat.lt_or_ge d (sP s.ae) with h3 | h3
    ·exact h3
    ·have h4:d=sP s.ae:=by omega
     exact absurd (h4 ▸ v.ok.rt n (v.rg h)) he
   have:=Jf v h k (d+1) hd om
   simp only [iz] at this
   rw [this]
   have hb:(jk s.ae (iz s.ae d n)==iz s.ae d n)=false:=by simpa using he
   simp [hb]
theorem Bl (hm:16000≤m)(v:Inv s)(h:Rg s.aa.length n):bg.f m s n=some (rp s.ae n):=by
 have h1:=zn s.ae
 have h2:=v.len
 have h3:=v.max
 have:=Jf (m:=m) v h m 0 (abe _) om
 simp only [iz] at this
 simp only [bg.f,this,aaG]
theorem zt (h:Rg s.aa.length n):b5.f m s n=some ((dh s.aa n).kind==0):=by
 simp only [b5.f,vW h,aaG]
theorem N1 (h1:Rg s.aa.length a)(h2:Rg s.aa.length b)(hl:s.ae.length=s.aa.length):cG.f m s a b=some ((ls s.aa a b).1,⟨s.aj,s.aa,s.ae.set (ls s.aa a b).1.toNat (ls s.aa a b).2⟩):=by
 have i1:ix s.ae a=some (jk s.ae a):=zo (by rw [hl]; exact h1)
 have i2:ix s.ae b=some (jk s.ae b):=zo (by rw [hl]; exact h2)
 simp only [cG.f,jn,zt h1,zt h2,aaG,i1,i2]
 unfold ls iI
 by_cases ha:(dh s.aa a).kind=0<;>by_cases hb:(dh s.aa b).kind=0<;>by_cases MB:a<b
 all_goals
  first
  | have ea:((dh s.aa a).kind==0)=true:=by simpa using ha
  | have ea:((dh s.aa a).kind==0)=false:=by simpa using ha
 all_goals
  first
  | have eb:((dh s.aa b).kind==0)=true:=by simpa using hb
  | have eb:((dh s.aa b).kind==0)=false:=by simpa using hb
 all_goals simp [ha,hb,MB,i1,i2,ea,eb]
theorem E0:cM.f m s n=some (decide (Rg s.aa.length n)):=by
 unfold cM.f Rg
 by_cases h1:n≥0<;>by_cases h2:n<(s.aa.length:Int)<;>simp [h1,h2]
theorem Inv.join (v:Inv s)(h1:Rg s.aa.length a)(h2:Rg s.aa.length b)(r1:rp s.ae a=a)(r2:rp s.ae b=b)(hne:a≠b) :
  Inv ⟨s.aj,s.aa,s.ae.set (ls s.aa a b).1.toNat (ls s.aa a b).2⟩∧(∀n,Rg s.aa.length n→rp (s.ae.set (ls s.aa a b).1.toNat (ls s.aa a b).2) n=vF (rp s.ae) (ls s.aa a b) n)∧sP (s.ae.set (ls s.aa a b).1.toNat (ls s.aa a b).2)=sP s.ae+1:=by
 obtain⟨hb,hq⟩:=xC (N:=s.aa) a b
 generalize ls s.aa a b=q at *
 have g:Rg s.aa.length q.1∧Rg s.aa.length q.2∧rp s.ae q.1=q.1∧rp s.ae q.2=q.2∧q.2≠q.1:=by
  rcases hq with⟨e1,e2⟩| ⟨e1,e2⟩
  ·rw [e1,e2]; exact⟨h1,h2,r1,r2,fun h=>hne h.symm⟩
  ·rw [e1,e2]; exact⟨h2,h1,r2,r1,hne⟩
 obtain⟨g1,g2,g3,g4,g5⟩:=g
 have s1:jk s.ae q.1=q.1:=by have:=v.ok.rt _ (v.rg g1); rwa [g3] at this
 have s2:jk s.ae q.2=q.2:=by have:=v.ok.rt _ (v.rg g2); rwa [g4] at this
 obtain⟨j1,j2⟩:=Uf.QY v.ok (v.rg g1) (v.rg g2) s1 s2 g5
 have j3:∀n,Rg s.aa.length n→rp (s.ae.set q.1.toNat q.2) n=vF (rp s.ae) q n:=fun n hn=>j2 n (v.rg hn)
 have c:=N0 v.cn g1 g2 g3 g4 g5 hb
 refine⟨⟨v.made,by show (List.set _ _ _).length=_; rw [abx]; exact v.len,v.max,j1,⟨fun n hn=>?_,fun n hn=>?_,fun n hn=>?_⟩,v.args⟩,j3,EY (v.rg g1) s1 g5⟩
 ·show Rg _ (rp (s.ae.set q.1.toNat q.2) n)
  rw [j3 n hn]; exact c.rg n hn
 ·show rp (s.ae.set q.1.toNat q.2) (rp (s.ae.set q.1.toNat q.2) n)=_
  rw [j3 n hn,j3 _ (c.rg n hn),c.id n hn]
 ·show Bt _ (rp (s.ae.set q.1.toNat q.2) n) n
  rw [j3 n hn]; exact c.bt n hn
theorem Jg (x y:ai):∃d,fW.f m x y=some d∧(d=false↔jj x y):=by
 unfold fW.f jj
 have h5:(((x.args.length:Int)==(y.args.length:Int))=true)↔x.args.length=y.args.length:=by rw [beq_iff_eq]; omega
 by_cases h1:x.kind=y.kind
 ·by_cases h2:x.int=y.int
  ·by_cases h3:x.label.data.toList=y.label.data.toList
   ·refine⟨!((x.args.length:Int)==(y.args.length:Int)),by simp [h1,h2,h3],?_⟩
    rw [Bool.not_eq_false',h5]
    exact⟨fun h=>⟨h1,h2,h3,h⟩,fun h=>h.2.2.2⟩
   ·have h6:¬x.label.data=y.label.data:=fun h=>h3 (by rw [h])
    exact⟨true,by simp [h1,h2,h6],by simp [h6]⟩
  ·exact⟨true,by simp [h1,h2],by simp [h2]⟩
 ·exact⟨true,by simp [h1],by simp [h1]⟩
end
def zF (p:bF):Int × Int:=(p.lq,p.mH)
def tG (a b:List Int):List bF:=(a.zip b).map fun p=>⟨p.1,p.2⟩
theorem xD {m:Nat}{v2 v3:ai}{s:ab}(hl:v2.args.length=v3.args.length)(h8:v2.args.length≤8):∀(k:Nat) (left:List bF) (i:Nat),i≤v2.args.length→v2.args.length - i<k→left.length+8≤1000000+i→
  ay.l1 m v2 v3 k left (i:Int) s=some (left++tG (v2.args.drop i) (v3.args.drop i),(v2.args.length:Int),s)
 | 0,left,i,h1,h2,_=>by omega
 | k+1,left,i,h1,h2,h3=>by
  simp only [ay.l1]
  by_cases hi:i<v2.args.length
  ·have W9:i<v3.args.length:=by omega
   have e2:=aaL hi
   have e3:=aaL W9
   have d:decide ((i:Int)<(v2.args.length:Int))=true:=by rw [decide_eq_true_eq]; omega
   have ea:app 16 left [(⟨v2.args[i],v3.args[i]⟩:bF)]=some (left++[⟨v2.args[i],v3.args[i]⟩]):=wR (by
    simp only [aaW,aba]; omega)
   have ew:i64.wrap ((i:Int)+1)=((i+1:Nat):Int):=by rw [jA om om]; omega
   rw [if_pos d,sQ e2,sQ e3]
   simp only [aaG,ea,ew]
   rw [xD hl h8 k _ (i+1) om om (by simp only [aaR,aaW,aba]; omega)]
   have e4:tG (v2.args.drop i) (v3.args.drop i)=⟨v2.args[i],v3.args[i]⟩::tG (v2.args.drop (i+1)) (v3.args.drop (i+1)):=by
    unfold tG
    rw [aaT hi,aaT W9]; rfl
   rw [e4,aa0]; rfl
  ·have d:decide ((i:Int)<(v2.args.length:Int))=false:=by rw [decide_eq_false_iff_not]; omega
   have e:i=v2.args.length:=by omega
   rw [if_neg (by rw [d]; decide),e]
   simp [tG]
def Gp (s s':ab)(l:List Int):Prop:=s'.aj=s.aj∧s'.aa=s.aa∧s'.ae.length=s.ae.length∧(∀n∈l,Rg s.ae.length n∧jk s.ae n=n)∧(∀n,Rg s.ae.length n→n∉l→jk s'.ae n=jk s.ae n)∧(∀n∈l,jk s'.ae n≠n)∧l.Nodup
theorem Gp.refl (s:ab):Gp s s []:=⟨rfl,rfl,rfl,fun n h=>absurd h (by simp),fun _ _ _=>rfl,fun n h=>absurd h (by simp),by simp⟩
theorem Gp.step {s s':ab}{l:List Int}{a b:Int}(ha:Rg s.ae.length a)(hr:jk s.ae a=a)(hne:b≠a)(u:Gp ⟨s.aj,s.aa,s.ae.set a.toNat b⟩ s' l):Gp s s' (a::l):=by
 obtain⟨u1,u2,u3,u4,u5,u6,u7⟩:=u
 have hl:(s.ae.set a.toNat b).length=s.ae.length:=abx
 have hs:=zp (b:=b) ha
 have e:∀n,Rg s.ae.length n→n≠a→jk (s.ae.set a.toNat b) n=jk s.ae n:=fun n hn h=>by
  rw [hs,if_neg (fun e=>h (by have:=hn.1; have:=ha.1; omega))]
 refine⟨u1,u2,u3.trans hl,fun n hn=>?_,fun n hn hm=>?_,fun n hn=>?_,?_⟩
 ·rcases aa6.1 hn with rfl | hn
  ·exact⟨ha,hr⟩
  ·obtain⟨g1,g2⟩:=u4 n hn
   have g1:Rg (s.ae.set a.toNat b).length n:=g1
   have g2:jk (s.ae.set a.toNat b) n=n:=g2
   rw [hl] at g1
   refine⟨g1,?_⟩
   by_cases h:n=a
   ·subst h; exact hr
   ·rw [e n g1 h] at g2; exact g2
 ·simp only [aa6,not_or] at hm
  have:=u5 n (by show Rg (s.ae.set a.toNat b).length n; rw [hl]; exact hn) hm.2
  rw [this]
  exact e n hn hm.1
 ·rcases aa6.1 hn with rfl | hn
  ·by_cases hin:n∈l
   ·exact u6 n hin
   ·have:=u5 n (by show Rg (s.ae.set n.toNat b).length n; rw [hl]; exact ha) hin
    rw [this]
    show jk (s.ae.set n.toNat b) n≠n
    rw [hs,if_pos rfl]
    exact hne
  ·exact u6 n hn
 ·rw [List.nodup_cons]
  refine⟨fun hin=>?_,u7⟩
  have:=(u4 a hin).2
  have this:jk (s.ae.set a.toNat b) a=a:=this
  rw [hs,if_pos rfl] at this
  exact hne this
def E1 (s:ab)(L:List (Int × Int))(ch:List Int):Sum ((List Int) × Bool × ab) ((List Int) × (List bF) × Int × ab)→Prop
 | .inl (Jh,b,s')=>b=false∧∃l,Jh=ch++l∧Gp s s' l∧Inv s'∧(ch++l).length≤8000∧∀T,Cl s.aa T→iA s.aa (rp s.ae) T→(∀p∈L,T p.1=T p.2)→False
 | .inr (Jh,_,_,s')=>∃l,Jh=ch++l∧Gp s s' l∧Inv s'∧(ch++l).length≤8000∧Cl s.aa (rp s'.ae)∧iA s.aa (rp s.ae) (rp s'.ae)∧(∀p∈L,rp s'.ae p.1=rp s'.ae p.2)∧∀T,Cl s.aa T→iA s.aa (rp s.ae) T→(∀p∈L,T p.1=T p.2)→iA s.aa (rp s'.ae) T
end Go.Proofs.YtifafejidnjckaaGreat
namespace Go.Uf
open Go Go.R
open Go.IntKind (i64 u64 u8 u32)
theorem iA.trans {N:List ai}{R S T:Int→Int}(a:iA N R S)(b:iA N S T):iA N R T:=fun x y hx hy h=>b x y hx hy (a x y hx hy h)
theorem iA.congr {N:List ai}{R S T:Int→Int}(e:∀n,Rg N.length n→R n=S n)(b:iA N S T):iA N R T:=fun x y hx hy h=>b x y hx hy (by rw [←e x hx,←e y hy,h])
theorem iA.N2 {N:List ai}{R S T:Int→Int}(e:∀n,Rg N.length n→S n=T n)(b:iA N R S):iA N R T:=fun x y hx hy h=>by rw [←e x hx,←e y hy]; exact b x y hx hy h
theorem tF.congr {N:List ai}{R S:Int→Int}{L:List (Int × Int)}(e:∀n,Rg N.length n→R n=S n)(p:tF N S L):tF N R L:=fun T s hL x y hx hy h=>p T (s.congr fun n hn=>(e n hn).symm) hL x y hx hy (by rw [←e x hx,←e y hy,h])
end Go.Uf
namespace Go.Proofs.YtifafejidnjckaaGreat
open Go Go.R Go.Uf
open Go.IntKind (i64 u64 u8 u32)
section
variable {s:ab}
theorem KZ {ch:List Int}{left M:List bF}{i:Nat}{p:bF}{q:Int × Int}{out:Sum ((List Int) × Bool × ab) ((List Int) × (List bF) × Int × ab)}
  (v:Inv s) (hp:left[i]? = some p) (h1:Rg s.aa.length p.lq) (h2:Rg s.aa.length p.mH)
  (hq:(q.1=rp s.ae p.lq∧q.2=rp s.ae p.mH)∨(q.1=rp s.ae p.mH∧q.2=rp s.ae p.lq)) (hne:q.2≠q.1)
  (hr:∀n,Rg s.aa.length n→rp (s.ae.set q.1.toNat q.2) n=vF (rp s.ae) q n)
  (hM:∀T,Cl s.aa T→T (rp s.ae p.lq)=T (rp s.ae p.mH)→∀x∈M,T x.lq=T x.mH)
  (h:E1 ⟨s.aj,s.aa,s.ae.set q.1.toNat q.2⟩ (((left++M).drop (i+1)).map zF) (ch++[q.1]) out):E1 s ((left.drop i).map zF) ch out:=by
 have hi:i<left.length:=(aaM.1 hp).1
 have Sn:left[i]=p:=(aaM.1 hp).2
 have ed:left.drop i=p::left.drop (i+1):=by rw [aaT hi,Sn]
 have N3:(left++M).drop (i+1)=left.drop (i+1)++M:=List.drop_append_of_le_length om
 have g1:=v.cn.rg _ h1
 have g2:=v.cn.rg _ h2
 have gq:Rg s.aa.length q.1∧Rg s.aa.length q.2∧rp s.ae q.1=q.1∧rp s.ae q.2=q.2:=by
  rcases hq with⟨e1,e2⟩| ⟨e1,e2⟩
  ·rw [e1,e2]; exact⟨g1,g2,v.cn.id _ h1,v.cn.id _ h2⟩
  ·rw [e1,e2]; exact⟨g2,g1,v.cn.id _ h2,v.cn.id _ h1⟩
 obtain⟨q1,q2,q3,q4⟩:=gq
 have Fv:jk s.ae q.1=q.1:=by have:=v.ok.rt _ (v.rg q1); rwa [q3] at this
 have Zm:iA s.aa (rp s.ae) (rp (s.ae.set q.1.toNat q.2)):=iA.N2 (fun n hn=>(hr n hn).symm) EZ
 have Zn:rp (s.ae.set q.1.toNat q.2) p.lq=rp (s.ae.set q.1.toNat q.2) p.mH:=by
  rw [hr _ h1,hr _ h2]
  rcases hq with⟨e1,e2⟩| ⟨e1,e2⟩
  ·exact zr e1.symm e2.symm hne
  ·exact (zr e1.symm e2.symm hne).symm
 have Ra:∀T,Cl s.aa T→iA s.aa (rp s.ae) T→(∀x∈(left.drop i).map zF,T x.1=T x.2)→iA s.aa (rp (s.ae.set q.1.toNat q.2)) T∧∀x∈((left++M).drop (i+1)).map zF,T x.1=T x.2:=by
  intro T cT sT hT
  have tp:T p.lq=T p.mH:=hT (zF p) (by rw [ed]; simp)
  have ta:T (rp s.ae p.lq)=T p.lq:=sT _ _ g1 h1 (v.cn.id _ h1)
  have tb:T (rp s.ae p.mH)=T p.mH:=sT _ _ g2 h2 (v.cn.id _ h2)
  have tt:T (rp s.ae p.lq)=T (rp s.ae p.mH):=by rw [ta,tb,tp]
  refine⟨iA.congr hr (Gl v.cn q1 q2 sT ?_),fun x hx=>?_⟩
  ·rcases hq with⟨e1,e2⟩| ⟨e1,e2⟩
   ·rw [e1,e2]; exact tt
   ·rw [e1,e2]; exact tt.symm
  ·rw [N3,abc] at hx
   rcases abb.1 hx with hx | hx
   ·exact hT x (by rw [ed]; simp only [aa3]; exact ab0 _ hx)
   ·obtain⟨y,hy,rfl⟩:=abf.1 hx
    exact hM T cT tt y hy
 match out,h with
 | .inl (Jh,b,s'),⟨hb,l,e,u,v',hl,hT⟩=>
  exact⟨hb,q.1::l,by rw [e]; simp,Gp.step (v.rg q1) Fv hne u,v',by simpa using hl,fun T cT sT pT=>by
   obtain⟨k1,k2⟩:=Ra T cT sT pT
   exact hT T cT k1 k2⟩
 | .inr (Jh,Mb,i',s'),⟨l,e,u,v',hl,hc,hs,R0,hT⟩=>
  refine⟨q.1::l,by rw [e]; simp,Gp.step (v.rg q1) Fv hne u,v',by simpa using hl,hc,Zm.trans hs,fun x hx=>?_,fun T cT sT pT=>?_⟩
  ·rw [ed] at hx
   simp only [aa3] at hx
   rcases aa6.1 hx with rfl | hx
   ·exact hs _ _ h1 h2 Zn
   ·exact R0 x (by rw [N3,abc]; exact abA _ hx)
  ·obtain⟨k1,k2⟩:=Ra T cT sT pT
   exact hT T cT k1 k2
theorem E2 {a b:List Int}{x:bF}(h:x∈tG a b):∃i:Nat,a[i]? = some x.lq∧b[i]? = some x.mH:=by
 unfold tG at h
 obtain⟨p,hp,rfl⟩:=abf.1 h
 obtain⟨i,hi⟩:=abv hp
 rw [List.getElem?_zip_eq_some] at hi
 exact⟨i,hi⟩
theorem Lc {a b:List Int}{i:Nat}{x y:Int}(h1:a[i]? = some x)(h2:b[i]? = some y):(x,y)∈(tG a b).map zF:=by
 unfold tG
 rw [List.map_map]
 refine abf.2 ⟨(x,y),?_,rfl⟩
 exact aaP (i:=i) (List.getElem?_zip_eq_some.2 ⟨h1,h2⟩)
theorem sb {m:Nat}(hm:16000≤m):∀(k:Nat) (s:ab) (ch:List Int) (left:List bF) (i:Nat),i≤left.length→9*(s.aa.length - sP s.ae)+(left.length - i)<k→left.length≤1+8*sP s.ae→ch.length≤sP s.ae→Inv s→
  (∀p∈left,Rg s.aa.length p.lq∧Rg s.aa.length p.mH)→tF s.aa (rp s.ae) ((left.drop i).map zF)→∃out,ay.l0 m k ch left (i:Int) s=some out∧E1 s ((left.drop i).map zF) ch out
 | 0,s,ch,left,i,h1,h2,h3,h4,v,hin,hp=>by omega
 | k+1,s,ch,left,i,h1,h2,h3,h4,v,hin,hp=>by
  have n1:=zn s.ae
  have n2:=v.len
  have n3:=v.max
  simp only [ay.l0]
  by_cases hi:i<left.length
  rotate_left
  ·have d:decide ((i:Int)<(left.length:Int))=false:=by rw [decide_eq_false_iff_not]; omega
   rw [if_neg (by rw [d]; decide)]
   have hd:left.drop i=[]:=abH om
   rw [hd] at hp ⊢
   exact⟨_,rfl,[],by simp,Gp.refl s,v,by simp; omega,Je hp,fun _ _ _ _ h=>h,fun x hx=>by simp at hx,fun T _ s _=>s⟩
  have d:decide ((i:Int)<(left.length:Int))=true:=by rw [decide_eq_true_eq]; omega
  have ep:=aaL hi
  generalize left[i]=p at ep
  obtain⟨ra,rb⟩:=hin p (aaP ep)
  have ed:left.drop i=p::left.drop (i+1):=by
   rw [aaT hi]; congr 1
   exact (aaM.1 ep).2
  have ew:i64.wrap ((i:Int)+1)=((i+1:Nat):Int):=by rw [jA om om]; omega
  rw [if_pos d,sQ ep]
  simp only [aaG,Bl hm v ra,Bl hm v rb,ew]
  have ga:=v.cn.rg _ ra
  have gb:=v.cn.rg _ rb
  have R0:tF s.aa (rp s.ae) (zF p::(left.drop (i+1)).map zF):=by rw [ed] at hp; exact hp
  by_cases he:rp s.ae p.lq=rp s.ae p.mH
  ·have c1:(rp s.ae p.lq==rp s.ae p.lq&&rp s.ae p.mH==rp s.ae p.lq)=true:=by simp [he]
   rw [if_pos c1]
   obtain⟨out,e1,e2⟩:=sb hm k s ch left (i+1) om om h3 h4 v hin (Gm R0 ra rb he)
   refine⟨out,e1,?_⟩
   match out,e2 with
   | .inl (Jh,b,s'),⟨hb,l,e,u,v',hl,hT⟩=>
    exact⟨hb,l,e,u,v',hl,fun T cT sT pT=>hT T cT sT fun x hx=>pT x (by rw [ed]; simp only [aa3]; exact ab0 _ hx)⟩
   | .inr (Jh,Mb,i',s'),⟨l,e,u,v',hl,hc,hs,hq,hT⟩=>
    refine⟨l,e,u,v',hl,hc,hs,fun x hx=>?_,fun T cT sT pT=>hT T cT sT fun x hx=>pT x (by rw [ed]; simp only [aa3]; exact ab0 _ hx)⟩
    rw [ed] at hx
    simp only [aa3] at hx
    rcases aa6.1 hx with rfl | hx
    ·exact hs _ _ ra rb he
    ·exact hq x hx
  ·have c1:¬(rp s.ae p.lq==rp s.ae p.lq&&rp s.ae p.mH==rp s.ae p.lq)=true:=by
    simp only [BEq.rfl,abL,beq_iff_eq]; exact fun h=>he h.symm
   rw [if_neg c1]
   simp only [vW ga,vW gb,aaG]
   obtain⟨jv,jr,jn⟩:=v.join ga gb (v.cn.id _ ra) (v.cn.id _ rb) he
   have ej:=N1 (m:=m) ga gb v.len
   obtain⟨ob,oq⟩:=xC (N:=s.aa) (rp s.ae p.lq) (rp s.ae p.mH)
   have hne:(ls s.aa (rp s.ae p.lq) (rp s.ae p.mH)).2≠(ls s.aa (rp s.ae p.lq) (rp s.ae p.mH)).1:=by
    rcases oq with⟨e1,e2⟩| ⟨e1,e2⟩
    ·rw [e1,e2]; exact fun h=>he h.symm
    ·rw [e1,e2]; exact he
   generalize ls s.aa (rp s.ae p.lq) (rp s.ae p.mH)=q at *
   have Xa:(q.1=rp s.ae p.lq∧q.2=rp s.ae p.mH)∨(q.1=rp s.ae p.mH∧q.2=rp s.ae p.lq):=oq
   have n4:=zn (s.ae.set q.1.toNat q.2)
   rw [abx,jn] at n4
   have Xb:∀M:List bF,M.length≤8→(∀x∈M,Rg s.aa.length x.lq∧Rg s.aa.length x.mH)→
     (∀T,Cl s.aa T→T (rp s.ae p.lq)=T (rp s.ae p.mH)→∀x∈M,T x.lq=T x.mH)→
     (iI s.aa (rp s.ae p.lq)→iI s.aa (rp s.ae p.mH)→jj (dh s.aa (rp s.ae p.lq)) (dh s.aa (rp s.ae p.mH))∧∀(i:Nat) (a b:Int),(dh s.aa (rp s.ae p.lq)).args[i]? = some a→(dh s.aa (rp s.ae p.mH)).args[i]? = some b→(a,b)∈M.map zF)→
     ∃out,((app 8 ch [q.1]).bind fun x=>ay.l0 m k x (left++M) ((i+1:Nat):Int) ⟨s.aj,s.aa,s.ae.set q.1.toNat q.2⟩)=some out∧E1 s ((left.drop i).map zF) ch out:=by
    intro M hM8 Zo Zp Zq
    rw [wR (by simp only [aaW,aba]; omega),aaG]
    have N3:((left++M).drop (i+1)).map zF=(left.drop (i+1)).map zF++M.map zF:=by
     rw [List.drop_append_of_le_length om,abc]
    have jn:sP (s.ae.set q.1.toNat q.2)=sP s.ae+1:=jn
    obtain⟨out,e1,e2⟩:=sb hm k ⟨s.aj,s.aa,s.ae.set q.1.toNat q.2⟩ (ch++[q.1]) (left++M) (i+1) (by rw [aaR]; omega)
     (by show 9*(s.aa.length - sP (s.ae.set q.1.toNat q.2))+_<k; rw [jn,aaR]; omega) (by show _≤1+8*sP (s.ae.set q.1.toNat q.2); rw [jn,aaR]; omega)
     (by show _≤sP (s.ae.set q.1.toNat q.2); rw [jn,aaR]; simp only [aaW,aba]; omega) jv
     (fun x hx=>(abb.1 hx).elim (hin x) (Zo x)) (by
      rw [N3]
      exact tF.congr jr (Gn v.cn (p:=zF p) R0 ra rb Xa hne Zq))
    exact⟨out,e1,KZ v ep ra rb Xa hne jr Zp e2⟩
   have N4:=Xb [] (by simp) (fun x hx=>by simp at hx) (fun T _ _ x hx=>by simp at hx)
   rw [abU] at N4
   by_cases k1:(dh s.aa (rp s.ae p.lq)).kind=0
   ·have b1:(!((dh s.aa (rp s.ae p.lq)).kind==(0:Int)))=false:=by rw [k1]; rfl
    rw [b1,if_neg (by decide),ej]
    exact N4 fun h=>absurd k1 h
   have b1:(!((dh s.aa (rp s.ae p.lq)).kind==(0:Int)))=true:=by simpa using k1
   rw [b1,if_pos rfl]
   by_cases k2:(dh s.aa (rp s.ae p.mH)).kind=0
   ·have b2:(!((dh s.aa (rp s.ae p.mH)).kind==(0:Int)))=false:=by rw [k2]; rfl
    rw [b2,if_neg (by decide),ej]
    exact N4 fun _ h=>absurd k2 h
   have b2:(!((dh s.aa (rp s.ae p.mH)).kind==(0:Int)))=true:=by simpa using k2
   rw [b2,if_pos rfl]
   obtain⟨df,Zr,N3⟩:=Jg (m:=m) (dh s.aa (rp s.ae p.lq)) (dh s.aa (rp s.ae p.mH))
   rw [Zr,aaG]
   cases df with
   | true=>
    refine⟨_,rfl,rfl,[],by simp,Gp.refl s,v,by simp; omega,fun T cT sT pT=>?_⟩
    have tp:T p.lq=T p.mH:=pT (zF p) (by rw [ed]; simp)
    have ta:T (rp s.ae p.lq)=T p.lq:=sT _ _ ga ra (v.cn.id _ ra)
    have tb:T (rp s.ae p.mH)=T p.mH:=sT _ _ gb rb (v.cn.id _ rb)
    have:=(cT _ _ ga gb (by rw [ta,tb,tp]) k1 k2).1
    have:=N3.2 this
    cases this
   | false=>
    have tp:=N3.1 rfl
    have a8:=(v.args _ (gm ga)).1
    have el:ay.l1 m (dh s.aa (rp s.ae p.lq)) (dh s.aa (rp s.ae p.mH)) m left 0 s=some (left++tG ((dh s.aa (rp s.ae p.lq)).args.drop 0) ((dh s.aa (rp s.ae p.mH)).args.drop 0),((dh s.aa (rp s.ae p.lq)).args.length:Int),s):=xD tp.2.2.2 a8 m left 0 (abe _) om om
    rw [if_neg (by decide),el]
    simp only [aaG,abl,ej]
    refine Xb (tG (dh s.aa (rp s.ae p.lq)).args (dh s.aa (rp s.ae p.mH)).args) ?_ (fun x hx=>?_) (fun T cT hT x hx=>?_) (fun _ _=>⟨tp,fun i a b ha hb=>Lc ha hb⟩)
    ·unfold tG; rw [aaY,List.length_zip]; omega
    ·obtain⟨j,j1,j2⟩:=E2 hx
     exact⟨(v.args _ (gm ga)).2 _ (aaP j1),(v.args _ (gm gb)).2 _ (aaP j2)⟩
    ·obtain⟨j,j1,j2⟩:=E2 hx
     exact (cT _ _ ga gb hT k1 k2).2 j _ _ j1 j2
end
section
variable {m:Nat}{s s':ab}
theorem xE {a b:ab}(h1:a.aj=b.aj)(h2:a.aa=b.aa)(h3:a.ae=b.ae):a=b:=by
 cases a; cases b; cases h1; cases h2; cases h3; rfl
theorem N5 {a b:List Int}(hl:a.length=b.length)(h:∀n,Rg b.length n→jk a n=jk b n):a=b:=by
 refine abO fun i=>?_
 by_cases hi:i<b.length
 ·have r:Rg b.length (i:Int):=⟨Int.natCast_nonneg _,om⟩
  have e1:=tV (to:=b) r
  have e2:=tV (to:=a) (n:=(i:Int)) (by rw [hl]; exact r)
  rw [aaS] at e1 e2
  rw [e1,e2,h _ r]
 ·rw [aa2 om,aa2 om]
theorem E3 (l:List Int)(hl:l.length≤8000)(s:ab)(hs:∀n∈l,Rg s.ae.length n∧jk s.ae n=n):∀(k:Nat) (i:Nat) (s':ab),i≤l.length→l.length - i<k→s'.aj=s.aj→s'.aa=s.aa→s'.ae.length=s.ae.length→(∀n,Rg s.ae.length n→n∉l.drop i→jk s'.ae n=jk s.ae n)→
  bl.l0 m l k (i:Int) s'=some ((l.length:Int),s)
 | 0,i,s',h1,h2,_,_,_,_=>by omega
 | k+1,i,s',h1,h2,e1,e2,e3,h=>by
  simp only [bl.l0]
  by_cases hi:i<l.length
  ·have d:decide ((i:Int)<(l.length:Int))=true:=by rw [decide_eq_true_eq]; omega
   have el:=aaL hi
   have ed:l.drop i=l[i]::l.drop (i+1):=aaT hi
   generalize l[i]=n at el ed
   obtain⟨rn,sn⟩:=hs n (aaP el)
   have Xc:Rg s'.ae.length n:=by rw [e3]; exact rn
   have ew:i64.wrap ((i:Int)+1)=((i+1:Nat):Int):=by rw [jA om om]; omega
   rw [if_pos d,sQ el]
   simp only [aaG,zo Xc,ew]
   refine E3 l hl s hs k (i+1) _ om om e1 e2 (by show (List.set _ _ _).length=_; rw [abx,e3]) (fun x hx hm=>?_)
   show jk (s'.ae.set n.toNat n) x=_
   rw [zp Xc]
   by_cases he:x.toNat=n.toNat
   ·have:x=n:=by have:=hx.1; have:=rn.1; omega
    rw [if_pos he,this,sn]
   ·rw [if_neg he]
    refine h x hx ?_
    rw [ed]
    simp only [aa6,not_or]
    exact⟨fun e=>he (by rw [e]),hm⟩
  ·have d:decide ((i:Int)<(l.length:Int))=false:=by rw [decide_eq_false_iff_not]; omega
   rw [if_neg (by rw [d]; decide)]
   have hd:l.drop i=[]:=abH om
   have:s'=s:=xE e1 e2 (N5 e3 fun n hn=>h n hn (by rw [hd]; simp))
   rw [this]
   congr 2; omega
theorem Ji (hm:16000≤m){l:List Int}(hl:l.length≤8000)(u:Gp s s' l):bl.f m s' l=some s:=by
 obtain⟨u1,u2,u3,u4,u5,_⟩:=u
 have:=E3 (m:=m) l hl s u4 m 0 s' (abe _) om u1 u2 u3 (by rw [abl]; exact u5)
 have this:bl.l0 m l m 0 s'=some ((l.length:Int),s):=this
 simp only [bl.f,this,aaG]
theorem Bm {f:Int→Option Bool}{g:Int→Bool}(l:List Int)(hl:l.length≤1000000)(hf:∀x∈l,f x=some (g x)):∀(k i:Nat),i≤l.length→l.length - i<k→
  (∃j:Nat,cP.l0 m l f k (i:Int)=some (.inl (j:Int))∧i≤j∧j<l.length∧(∀x,l[j]? = some x→g x=true)∧∀q,i≤q→q<j→∀x,l[q]? = some x→g x=false)∨
  (∃z,cP.l0 m l f k (i:Int)=some (.inr z)∧∀q,i≤q→∀x,l[q]? = some x→g x=false)
 | 0,i,h1,h2=>by omega
 | k+1,i,h1,h2=>by
  simp only [cP.l0]
  by_cases hi:i<l.length
  ·have d:decide ((i:Int)<(l.length:Int))=true:=by rw [decide_eq_true_eq]; omega
   have el:=aaL hi
   generalize l[i]=n at el
   have ew:i64.wrap ((i:Int)+1)=((i+1:Nat):Int):=by rw [jA om om]; omega
   rw [if_pos d,sQ el]
   simp only [aaG,hf n (aaP el),ew]
   cases hg:g n with
   | true=>
    left
    refine⟨i,by simp,aaN _,hi,fun x hx=>?_,fun q h3 h4=>by omega⟩
    rw [el] at hx; cases hx; exact hg
   | false=>
    rw [if_neg (by decide)]
    have jk:∀q,i≤q→q≠i→i+1≤q:=fun q h3 h4=>by omega
    rcases Bm l hl hf k (i+1) om om with⟨j,e,j1,j2,j3,j4⟩| ⟨z,e,j4⟩
    ·left
     refine⟨j,e,om,j2,j3,fun q h3 h4 x hx=>?_⟩
     by_cases hq:q=i
     ·subst hq; rw [el] at hx; cases hx; exact hg
     ·exact j4 q (jk q h3 hq) h4 x hx
    ·right
     refine⟨z,e,fun q h3 x hx=>?_⟩
     by_cases hq:q=i
     ·subst hq; rw [el] at hx; cases hx; exact hg
     ·exact j4 q (jk q h3 hq) x hx
  ·have d:decide ((i:Int)<(l.length:Int))=false:=by rw [decide_eq_false_iff_not]; omega
   rw [if_neg (by rw [d]; decide)]
   right
   refine⟨_,rfl,fun q h3 x hx=>?_⟩
   rw [aa2 om] at hx; cases hx
theorem E4 {f:Int→Option Bool}{g:Int→Bool}(hm:2000000≤m)(l:List Int)(hl:l.length≤1000000)(hf:∀x∈l,f x=some (g x)) :
  (∃j:Nat,cP.f m l f=some (j:Int)∧j<l.length∧(∀x,l[j]? = some x→g x=true)∧∀q,q<j→∀x,l[q]? = some x→g x=false)∨
  (cP.f m l f=some (-1)∧∀x∈l,g x=false):=by
 rcases Bm (m:=m) l hl hf m 0 (abe _) om with⟨j,e,j1,j2,j3,j4⟩| ⟨z,e,j4⟩
 ·left
  have e:cP.l0 m l f m 0=_:=e
  refine⟨j,by simp only [cP.f,e,aaG],j2,j3,fun q=>j4 q (abe _)⟩
 ·right
  have e:cP.l0 m l f m 0=_:=e
  refine⟨by simp only [cP.f,e,aaG],fun x hx=>?_⟩
  obtain⟨q,hq⟩:=abv hx
  exact j4 q (abe _) x hq
theorem vX {f:Int→Option Bool}{g:Int→Bool}(hm:2000000≤m)(l:List Int)(hl:l.length≤1000000)(hf:∀x∈l,f x=some (g x)):fi.f m l f=some (l.any g):=by
 unfold fi.f
 rcases E4 hm l hl hf with⟨j,e,j1,j2,_⟩| ⟨e,h⟩
 ·rw [e,aaG]
  have h1:=aaL j1
  have:l.any g=true:=List.any_eq_true.2 ⟨_,aaP h1,j2 _ h1⟩
  rw [this]
  rw [show decide ((j:Int)≥0)=true by rw [decide_eq_true_eq]; omega]
 ·rw [e,aaG]
  have:l.any g=false:=by
   rw [List.any_eq_false]
   intro x hx; simp [h x hx]
  rw [this]; rfl
theorem tW (hm:2000000≤m)(hs:s.aj=true)(l:List Int)(hl:l.length≤1000000):b7.f m s l=some (if l.all (fun n=>decide (Rg s.aa.length n)) then 0 else 1):=by
 unfold b7.f b4.f
 rw [hs]
 simp only [aaG,abM,aaU,if_false]
 rw [vX hm l hl (g:=fun n=>!decide (Rg s.aa.length n)) (fun x _=>by simp only [dk.f,E0,aaG])]
 rw [aaG]
 have:(l.any fun n=>!decide (Rg s.aa.length n)) = !(l.all fun n=>decide (Rg s.aa.length n)):=by
  induction l with
  | nil=>rfl
  | cons a l ih=>simp only [List.any_cons,abu,Bool.not_and,ih (by simp only [aaW] at hl; omega)]
 rw [this]
 cases (l.all fun n=>decide (Rg s.aa.length n))<;>rfl
end
section
variable {m:Nat}{s s':ab}
theorem sc {f:Int→Option Bool}{g:Int→Bool}(l:List Int)(hl:l.length≤1000000)(hf:∀x∈l,f x=some (g x)):∀(k:Nat) (s1:List Int) (i j:Nat),i≤j→i<l.length→j≤l.length→l.length - j<k→s1.length=l.length→s1.take i=(l.take j).filter (fun x=>!g x)→s1.drop j=l.drop j→
  ∃(s2:List Int) (i2:Nat) (z:Int),dK.l0 m l f k s1 (i:Int) (j:Int)=some (s2,(i2:Int),z)∧i2≤l.length∧s2.length=l.length∧s2.take i2=l.filter (fun x=>!g x)
 | 0,s1,i,j,h1,_,h2,h3,_,_,_=>by omega
 | k+1,s1,i,j,h1,h0,h2,h3,h4,h5,h6=>by
  simp only [dK.l0]
  by_cases hj:j<l.length
  ·have d:decide ((j:Int)<(l.length:Int))=true:=by rw [decide_eq_true_eq]; omega
   have el:=aaL hj
   have e1:s1[j]? = some l[j]:=by
    have:=congrArg (fun z=>z[0]?) h6
    simp only [List.getElem?_drop,ab5] at this
    rw [this,el]
   have et:l.take (j+1)=l.take j++[l[j]]:=(abn hj)
   have Va:i64.wrap ((j:Int)+1)=((j+1:Nat):Int):=by rw [jA om om]; omega
   have Zs:i64.wrap ((i:Int)+1)=((i+1:Nat):Int):=by rw [jA om om]; omega
   have hd:∀s3:List Int,s3.drop j=l.drop j→s3.drop (j+1)=l.drop (j+1):=fun s3 h=>by
    rw [ace,←List.drop_drop,←List.drop_drop] at *
    rw [ace] at *
    have a1:(s3.drop j).drop 1=(l.drop j).drop 1:=by rw [h]
    simpa [List.drop_drop,ace] using a1
   rw [if_pos d,sQ e1]
   simp only [aaG,hf _ (aaP el),Va,Zs]
   cases hg:g l[j] with
   | true=>
    rw [if_neg (by decide)]
    exact sc l hl hf k s1 i (j+1) om h0 om om h4 (by rw [et,List.filter_append,h5]; simp [hg]) (hd s1 h6)
   | false=>
    rw [if_pos (by decide)]
    have i1:i<s1.length:=by omega
    have e2:=aaL i1
    rw [sQ e2,aaG,aaS]
    by_cases hi:i+1<l.length
    ·refine sc l hl hf k (s1.set i l[j]) (i+1) (j+1) om hi om om (by rw [abx,h4]) ?_ ?_
     ·rw [et,List.filter_append,←h5]
      have:(s1.set i l[j]).take (i+1)=s1.take i++[l[j]]:=by
       rw [abn (by rw [abx]; exact i1)]
       rw [List.take_set_of_le (aaN _),List.getElem_set_self]
      rw [this]; simp [hg]
     ·rw [List.drop_set_of_lt om]
      exact hd s1 h6
    ·
     have JI:j+1=l.length:=by omega
     have BJ:i=j:=by omega
     cases k with
     | zero=>omega
     | succ k=>
      simp only [dK.l0]
      have d2:decide (((j+1:Nat):Int)<(l.length:Int))=false:=by rw [decide_eq_false_iff_not]; omega
      rw [if_neg (by rw [d2]; decide)]
      refine⟨_,i+1,_,rfl,om,by rw [abx,h4],?_⟩
      have:(s1.set i l[j]).take (i+1)=s1.take i++[l[j]]:=by
       rw [abn (by rw [abx]; exact i1)]
       rw [List.take_set_of_le (aaN _),List.getElem_set_self]
      have Rb:l=l.take j++[l[j]]:=by rw [←et,JI,ab3]
      rw [this,h5]
      conv=>rhs; rw [Rb]
      rw [List.filter_append]; simp [hg]
  ·have d:decide ((j:Int)<(l.length:Int))=false:=by rw [decide_eq_false_iff_not]; omega
   rw [if_neg (by rw [d]; decide)]
   have JI:j=l.length:=by omega
   refine⟨_,i,_,rfl,om,h4,?_⟩
   rw [h5,JI,ab3]
theorem Bn {f:Int→Option Bool}{g:Int→Bool}(hm:2000000≤m)(l:List Int)(hl:l.length≤1000000)(hf:∀x∈l,f x=some (g x)):dK.f m l f=some (l.filter fun x=>!g x):=by
 unfold dK.f
 rcases E4 hm l hl hf with⟨j,e,j1,j2,j3⟩| ⟨e,h⟩
 ·rw [e,aaG]
  have hne:((j:Int) == -1)=false:=by rw [beq_eq_false_iff_ne]; omega
  have Va:i64.wrap ((j:Int)+1)=((j+1:Nat):Int):=by rw [jA om om]; omega
  have el:=aaL j1
  obtain⟨s2,i2,z,e2,g1,g2,g3⟩:=sc (m:=m) l hl hf m l j (j+1) om j1 om om rfl (by
   rw [abn j1,List.filter_append]
   have:(l.take j).filter (fun x=>!g x)=l.take j:=by
    rw [List.filter_eq_self]
    intro x hx
    obtain⟨q,hq⟩:=abv hx
    have U0:q<j:=by
     have:=(aaM.1 hq).1
     rw [abz] at this; omega
    rw [List.getElem?_take_of_lt U0] at hq
    rw [j3 q U0 x hq]; rfl
   rw [this]; simp [j2 _ el]) rfl
  rw [hne,if_neg (by decide),Va,e2]
  simp only [aaG]
  have hc:OB s2 (i2:Int)=some (s2.take i2++aa4 (s2.length - i2) 0):=by
   unfold OB; rw [if_pos ⟨Int.natCast_nonneg _,om⟩,aaS]
  rw [hc,aaG]
  have hs:LP (s2.take i2++aa4 (s2.length - i2) 0) 0 (i2:Int)=some (s2.take i2):=by
   unfold LP
   rw [if_pos ⟨Int.le_refl _,Int.natCast_nonneg _,by rw [aaR,abz,aca]; omega⟩]
   congr 1
   simp only [aaS,Int.toNat_zero,abl,Nat.sub_zero]
   rw [abi (by rw [abz]; omega),List.take_take,Nat.min_self]
  rw [hs,g3]; rfl
 ·rw [e,aaG]
  have hb:((-1:Int) == -1)=true:=rfl
  rw [hb,if_pos rfl]
  congr 1
  rw [eq_comm,List.filter_eq_self]
  intro x hx; rw [h x hx]; rfl
def Zt (N:List ai)(l:List Int):List Int:=kZ (l.filter fun n=>(dh N n).kind==0)
theorem E5 (hm:2000000≤m){l:List Int}(hl:l.length≤8000)(hr:∀n∈l,Rg s.aa.length n):cN.f m s l=some (Zt s.aa l):=by
 unfold cN.f
 have h1:Gz 8 (l.length:Int) (0:Int)=some (aa4 l.length 0):=by
  unfold Gz; rw [if_pos ⟨Int.natCast_nonneg _,by rw [aaS]; omega⟩,aaS]
 have h2:PU (aa4 l.length (0:Int)) l=some l:=by
  unfold PU; rw [if_pos (by rw [aca]; exact aaN _)]; simp
 rw [h1,aaG,h2,aaG]
 rw [Bn hm l om (g:=fun n=>!((dh s.aa n).kind==0)) (fun x hx=>by simp only [dn.f,zt (hr x hx),aaG])]
 simp only [aaG,Bool.not_not]
 rfl
theorem Bo (hm:2000000≤m)(v:Inv s)(c:Cl s.aa (rp s.ae)){a b:Int}(ha:Rg s.aa.length a)(hb:Rg s.aa.length b) :
  ∃l ok s',ay.f m s a b=some (l,ok,s')∧Gp s s' l∧Inv s'∧l.length≤8000∧
   (ok=false→∀T,Cl s.aa T→iA s.aa (rp s.ae) T→T a=T b→False)∧
   (ok=true→Cl s.aa (rp s'.ae)∧iA s.aa (rp s.ae) (rp s'.ae)∧rp s'.ae a=rp s'.ae b∧∀T,Cl s.aa T→iA s.aa (rp s.ae) T→T a=T b→iA s.aa (rp s'.ae) T):=by
 have n1:=zn s.ae
 have n2:=v.len
 have n3:=v.max
 obtain⟨out,e1,e2⟩:=sb (m:=m) om m s [] [⟨a,b⟩] 0 (by simp) (by simp only [aaW,aba]; omega) (by simp only [aaW,aba]; omega) (by simp) v
  (fun p hp=>by simp only [aa5] at hp; subst hp; exact⟨ha,hb⟩) (by
   rw [abl]; exact KY c v.args)
 have e1:ay.l0 m m [] [⟨a,b⟩] 0 s=some out:=e1
 unfold ay.f
 rw [e1,aaG]
 match out,e2 with
 | .inl (Jh,b',s'),⟨wk,l,e,u,v',hl,hT⟩=>
  subst wk
  rw [abr] at e hl
  subst e
  exact⟨Jh,false,s',rfl,u,v',hl,fun _ T cT sT pT=>hT T cT sT fun p hp=>by
   simp only [abl,aa3,acf,aa5] at hp; subst hp; exact pT,fun h=>by cases h⟩
 | .inr (Jh,Mb,i',s'),⟨l,e,u,v',hl,hc,hs,hq,hT⟩=>
  rw [abr] at e hl
  subst e
  exact⟨Jh,true,s',rfl,u,v',hl,(fun h=>by cases h),fun _=>⟨hc,hs,hq (a,b) (by simp [zF]),fun T cT sT pT=>hT T cT sT fun p hp=>by
   simp only [abl,aa3,acf,aa5] at hp; subst hp; exact pT⟩⟩
def Zu (N:List ai):Prop:=∀n,Rg N.length n→ec (dh N n) N.length=true∧((dh N n).kind=0→(dh N n).int=n)
structure Inv2 (s:ab):Prop where
 inv:Inv s
 cl:Cl s.aa (rp s.ae)
 vn:Zu s.aa
def py (s:ab)(l:List Int):Bool:=l.all fun n=>decide (Rg s.aa.length n)
theorem Jj {a b:Int}(h:py s [a,b]=true):Rg s.aa.length a∧Rg s.aa.length b:=by
 simpa [py] using h
theorem tX (hm:2000000≤m)(v:Inv2 s)(a b:Int):∃l e s',cm.f m s a b=some (l,e,s')∧Inv2 s'∧s'.aj=s.aj∧s'.aa=s.aa∧
  ((py s [a,b]=false∧e=1∧s'=s)∨
   (py s [a,b]=true∧e=8∧s'=s∧∀T,Cl s.aa T→iA s.aa (rp s.ae) T→T a=T b→False)∨
   (py s [a,b]=true∧e=0∧iA s.aa (rp s.ae) (rp s'.ae)∧rp s'.ae a=rp s'.ae b∧∀T,Cl s.aa T→iA s.aa (rp s.ae) T→T a=T b→iA s.aa (rp s'.ae) T)):=by
 unfold cm.f
 rw [tW hm v.inv.made [a,b] (by simp)]
 show ∃l e s',((some (if py s [a,b]=true then (0:Int) else 1)).bind _)=_∧_
 rw [aaG]
 cases hn:py s [a,b] with
 | false=>
  refine⟨[],1,s,by simp,v,rfl,rfl,.inl ⟨rfl,rfl,rfl⟩⟩
 | true=>
  obtain⟨ra,rb⟩:=Jj hn
  obtain⟨l,ok,s',e,u,v',hl,h1,h2⟩:=Bo hm v.inv v.cl ra rb
  have e0:(!((if true=true then (0:Int) else 1)==0))=false:=rfl
  rw [e0,if_neg (by decide),e,aaG]
  cases ok with
  | false=>
   rw [if_pos (show (!(l,false,s').2.1)=true from rfl)]
   simp only [Ji (m:=m) om hl u,aaG]
   exact⟨_,_,s,rfl,v,rfl,rfl,.inr (.inl ⟨by simp,rfl,rfl,h1 rfl⟩)⟩
  | true=>
   rw [if_neg (show ¬(!(l,true,s').2.1)=true by simp)]
   have eN:s'.aa=s.aa:=u.2.1
   simp only []
   rw [E5 hm hl (fun n hn=>by rw [eN,←v.inv.len]; exact (u.2.2.2.1 n hn).1)]
   obtain⟨k1,k2,k3,k4⟩:=h2 rfl
   exact⟨_,_,s',rfl,⟨v',by rw [eN]; exact k1,by rw [eN]; exact v.vn⟩,u.1,eN,.inr (.inr ⟨by simp,rfl,k2,k3,k4⟩)⟩
theorem Jk (hm:2000000≤m)(v:Inv2 s)(a b:Int):∃t l e,dM.f m s a b=some (t,l,e,s):=by
 unfold dM.f
 rw [tW hm v.inv.made [a,b] (by simp)]
 show ∃t l e,((some (if py s [a,b]=true then (0:Int) else 1)).bind _)=_
 rw [aaG]
 cases hn:py s [a,b] with
 | false=>exact⟨0,[],1,by simp⟩
 | true=>
  obtain⟨ra,rb⟩:=Jj hn
  obtain⟨l,ok,s',e,u,v',hl,h1,h2⟩:=Bo hm v.inv v.cl ra rb
  have e0:(!((if true=true then (0:Int) else 1)==0))=false:=rfl
  rw [e0,if_neg (by decide),e,aaG]
  simp only [Ji (m:=m) om hl u,aaG]
  rw [E5 hm hl (fun n hn=>by rw [←v.inv.len]; exact (u.2.2.2.1 n hn).1)]
  simp only [aaG]
  cases ok with
  | false=>exact⟨0,[],0,by simp⟩
  | true=>
   rw [if_neg (by simp)]
   split
   ·exact⟨_,_,_,rfl⟩
   ·exact⟨_,_,_,rfl⟩
end
end Go.Proofs.YtifafejidnjckaaGreat
namespace Go.Uf
open Go Go.R
open Go.IntKind (i64 u64 u8 u32)
def eQ (a L:Nat):List Int:=(List.range L).map fun i=>((a+i:Nat):Int)
theorem lM (a L:Nat):(eQ a L).length=L:=by simp [eQ]
theorem sd (a L:Nat):eQ a (L+1)=eQ a L++[((a+L:Nat):Int)]:=by
 unfold eQ; rw [List.range_succ,abc]; rfl
theorem Dc {to:List Int}(o:JR to):∀L,JR (to++eQ to.length L)∧(∀n,Rg to.length n→rp (to++eQ to.length L) n=rp to n)∧∀n:Int,(to.length:Int)≤n→n<to.length+L→rp (to++eQ to.length L) n=n
 | 0=>⟨by simpa [eQ] using o,fun n _=>by simp [eQ],fun n h1 h2=>by omega⟩
 | L+1=>by
  obtain⟨a,b,c⟩:=Dc o L
  have hl:(to++eQ to.length L).length=to.length+L:=by rw [aaR,lM]
  have e:to++eQ to.length (L+1)=(to++eQ to.length L)++[(((to++eQ to.length L).length:Nat):Int)]:=by
   rw [sd,←aa0,hl]
  obtain⟨g1,g2,g3⟩:=QZ a
  rw [←e] at g1 g2 g3
  refine⟨g1,fun n h=>?_,fun n h1 h2=>?_⟩
  ·rw [g2 n (by unfold Rg at h ⊢; rw [hl]; omega),b n h]
  ·by_cases h:n=to.length+L
   ·have:n=(((to++eQ to.length L).length:Nat):Int):=by rw [hl]; omega
    rw [this]; exact g3
   ·rw [g2 n (by unfold Rg; rw [hl]; omega)]
    exact c n h1 om
theorem lN {N V:List ai}{n:Int}(h:Rg N.length n):dh (N++V) n=dh N n:=by
 have hl:n.toNat<N.length:=by have:=h.1; have:=h.2; omega
 unfold dh
 rw [aaV,aaV,aaX hl]
end Go.Uf
namespace Go.Proofs.YtifafejidnjckaaGreat
open Go Go.R Go.Uf
open Go.IntKind (i64 u64 u8 u32)
def q7 (s s':ab):Prop:=s.aa.length≤s'.aa.length∧(∀n,Rg s.aa.length n→iI s.aa (rp s.ae n)→jj (dh s.aa (rp s.ae n)) (dh s'.aa (rp s'.ae n)))∧(∀n,Rg s.aa.length n→dh s'.aa n=dh s.aa n)∧iA s.aa (rp s.ae) (rp s'.ae)
theorem jj.refl (a:ai):jj a a:=⟨rfl,rfl,rfl,rfl⟩
theorem q7.refl (s:ab):q7 s s:=⟨aaN _,fun _ _ _=>jj.refl _,fun _ _=>rfl,fun _ _ _ _ h=>h⟩
theorem pe {n:ai}{size vY z:Int}(h:ec n size=true)(f:Int→Int)(hf:∀a∈n.args,0≤f a∧f a<vY)(h0:n.kind=0→0≤z)(h1:n.kind≠0→z=n.int):ec ⟨n.kind,z,n.label,n.args.map f⟩ vY=true:=by
 unfold ec at h ⊢
 simp only at h ⊢
 by_cases k0:n.kind=0
 ·rw [if_pos k0] at h ⊢
  simp only [aaK,decide_eq_true_eq,List.isEmpty_map] at h ⊢
  exact⟨⟨h0 k0,h.1.2⟩,h.2⟩
 ·have hz:=h1 k0
  subst hz
  rw [if_neg k0] at h ⊢
  split at h
  ·rename_i k1; rw [if_pos k1]; simpa using h
  ·rename_i k1; rw [if_neg k1]
   split at h
   ·rename_i k2; rw [if_pos k2]; simpa using h
   ·rename_i k2; rw [if_neg k2]
    split at h
    ·rename_i k3; rw [if_pos k3]
     simp only [aaK,decide_eq_true_eq,aa1,aaY,abf] at h ⊢
     refine⟨h.1,?_⟩
     rintro x ⟨a,ha,rfl⟩
     exact hf a ha
    ·rename_i k3; rw [if_neg k3]
     split at h
     ·rename_i k4; rw [if_pos k4]; simpa using h
     ·cases h
theorem Jl {n:ai}{size vY:Int}(h:ec n size=true)(hs:size≤vY):ec n vY=true:=by
 have:=pe (vY:=vY) (z:=n.int) h id (fun a ha=>by have:=(kI h).2 a ha; simp only [id]; omega) (fun k=>by
  unfold ec at h; rw [if_pos k] at h; simp only [aaK,decide_eq_true_eq] at h; exact h.1.1) (fun _=>rfl)
 rwa [List.map_id] at this
section
variable {m:Nat}{s:ab}
theorem Inv2.more (v:Inv2 s)(V:List ai)(hW:∀(i:Nat) x,V[i]? = some x→ec x ((s.aa.length+V.length:Nat):Int)=true∧(x.kind=0→x.int=((s.aa.length+i:Nat):Int)))(hl:s.aa.length+V.length≤8000) :
  Inv2 ⟨s.aj,s.aa++V,s.ae++eQ s.aa.length V.length⟩∧q7 s ⟨s.aj,s.aa++V,s.ae++eQ s.aa.length V.length⟩:=by
 have hlen:=v.inv.len
 have hV:∀x∈V,x.args.length≤8∧∀a∈x.args,Rg (s.aa.length+V.length) a:=fun x hx=>by
  obtain⟨i,hi⟩:=abv hx
  obtain⟨T,ha⟩:=kI (hW i x hi).1
  exact⟨T.args,fun a h=>by have:=ha a h; unfold Rg; omega⟩
 obtain⟨g1,g2,g3⟩:=Dc v.inv.ok V.length
 rw [hlen] at g1 g2 g3
 have hN:(s.aa++V).length=s.aa.length+V.length:=aaR
 have hc:∀n,Rg (s.aa++V).length n→Rg s.aa.length n∨((s.aa.length:Int)≤n∧n<s.aa.length+V.length):=fun n h=>by
  rw [hN] at h; unfold Rg at h ⊢; omega
 have up:∀n,Rg s.aa.length n→Rg (s.aa++V).length n:=fun n h=>by rw [hN]; unfold Rg at h ⊢; omega
 have old:∀n,Rg s.aa.length n→rp (s.ae++eQ s.aa.length V.length) n=rp s.ae n:=g2
 have new:∀n:Int,(s.aa.length:Int)≤n→n<s.aa.length+V.length→rp (s.ae++eQ s.aa.length V.length) n=n:=g3
 refine⟨⟨⟨v.inv.made,?_,by show (s.aa++V).length≤8000; omega,g1,⟨fun n h=>?_,fun n h=>?_,fun n h=>?_⟩,?_⟩,?_,?_⟩,?_,fun n h hv=>?_,fun n h=>lN h,fun x y hx hy h=>?_⟩
 ·show (_++_:List Int).length=_
  rw [aaR,lM,hN,hlen]
 ·show Rg _ (rp (s.ae++eQ s.aa.length V.length) n)
  rcases hc n h with h | ⟨h1,h2⟩
  ·rw [old n h]; exact up _ (v.inv.cn.rg n h)
  ·rw [new n h1 h2]; exact h
 ·show rp (s.ae++_) (rp (s.ae++eQ s.aa.length V.length) n)=rp (s.ae++_) n
  rcases hc n h with h | ⟨h1,h2⟩
  ·rw [old n h,old _ (v.inv.cn.rg n h),v.inv.cn.id n h]
  ·rw [new n h1 h2,new n h1 h2]
 ·show Bt (s.aa++V) (rp (s.ae++eQ s.aa.length V.length) n) n
  rcases hc n h with h | ⟨h1,h2⟩
  ·rw [old n h]
   have:=v.inv.cn.bt n h
   unfold Bt iI at this ⊢
   rw [lN h,lN (v.inv.cn.rg n h)]; exact this
  ·rw [new n h1 h2]; exact Bt.refl
 ·intro x hx
  rcases abb.1 hx with hx | hx
  ·obtain⟨a1,a2⟩:=v.inv.args x hx
   exact⟨a1,fun a ha=>up a (a2 a ha)⟩
  ·obtain⟨a1,a2⟩:=hV x hx
   exact⟨a1,fun a ha=>by show Rg (s.aa++V).length a; rw [hN]; exact a2 a ha⟩
 ·intro x y hx hy he vx vy
  have he:rp (s.ae++eQ s.aa.length V.length) x=rp (s.ae++eQ s.aa.length V.length) y:=he
  rcases hc x hx with hx1 | ⟨x1,x2⟩<;>rcases hc y hy with OK | ⟨y1,y2⟩
  ·rw [old x hx1,old y OK] at he
   have wx:dh (s.aa++V) x=dh s.aa x:=lN hx1
   have wy:dh (s.aa++V) y=dh s.aa y:=lN OK
   have Zv:iI s.aa x:=by unfold iI at vx ⊢; rw [←wx]; exact vx
   have Zw:iI s.aa y:=by unfold iI at vy ⊢; rw [←wy]; exact vy
   obtain⟨t,q⟩:=v.cl x y hx1 OK he Zv Zw
   show jj (dh (s.aa++V) x) (dh (s.aa++V) y)∧∀(i:Nat) (a b:Int),(dh (s.aa++V) x).args[i]? = some a→(dh (s.aa++V) y).args[i]? = some b→rp (s.ae++eQ s.aa.length V.length) a=rp (s.ae++eQ s.aa.length V.length) b
   rw [wx,wy]
   refine⟨t,fun i a b ha hb=>?_⟩
   rw [old a ((v.inv.args _ (gm hx1)).2 a (aaP ha)),old b ((v.inv.args _ (gm OK)).2 b (aaP hb))]
   exact q i a b ha hb
  ·rw [old x hx1,new y y1 y2] at he
   have:=(v.inv.cn.rg x hx1).2
   omega
  ·rw [old y OK,new x x1 x2] at he
   have:=(v.inv.cn.rg y OK).2
   omega
  ·rw [new x x1 x2,new y y1 y2] at he
   subst he
   refine⟨jj.refl _,fun i a b ha hb=>?_⟩
   rw [ha] at hb; cases hb; rfl
 ·intro n h
  show ec (dh (s.aa++V) n) ((s.aa++V).length:Int)=true∧((dh (s.aa++V) n).kind=0→(dh (s.aa++V) n).int=n)
  rcases hc n h with h3 | ⟨h1,h2⟩
  ·rw [lN h3,hN]
   exact⟨Jl (v.vn n h3).1 om,(v.vn n h3).2⟩
  ·have hg:=zq h
   obtain⟨i,rfl⟩:∃i:Nat,n=((s.aa.length+i:Nat):Int):=⟨(n - s.aa.length).toNat,om⟩
   have hg:(s.aa++V)[s.aa.length+i]? = some (dh (s.aa++V) ((s.aa.length+i:Nat):Int)):=hg
   rw [aaZ om,abC] at hg
   rw [hN]
   exact hW i _ hg
 ·show s.aa.length≤(s.aa++V).length
  omega
 ·show jj _ (dh (s.aa++V) (rp (s.ae++eQ s.aa.length V.length) n))
  rw [old n h,lN (v.inv.cn.rg n h)]
  exact jj.refl _
 ·show rp (s.ae++eQ s.aa.length V.length) x=rp (s.ae++eQ s.aa.length V.length) y
  rw [old x hx,old y hy]; exact h
def Jm (s s':ab)(e:Int):Prop:=Inv2 s'∧q7 s s'∧(e≠0→s'=s)
theorem Jm.none (v:Inv2 s)(e:Int):Jm s s e:=⟨v,q7.refl s,fun _=>rfl⟩
theorem Bp (hm:2000000≤m)(v:Inv2 s)(r:Bool)(n:ai)(h:r=true→ec ⟨n.kind,if n.kind=0 then (s.aa.length:Int) else n.int,n.label,n.args⟩ ((s.aa.length+1:Nat):Int)=true):∃k e s',bT.f m s (some r) n=some (k,e,s')∧Jm s s' e:=by
 have n3:=v.inv.max
 unfold bT.f b4.f
 rw [v.inv.made]
 simp only [aaG,abM,aaU,if_false]
 cases r with
 | false=>exact⟨_,_,_,rfl,Jm.none v _⟩
 | true=>
  have h1:=h rfl
  rw [if_neg (by decide)]
  by_cases hl:s.aa.length≥8000
  ·rw [if_pos (by rw [decide_eq_true_eq]; omega)]
   exact⟨_,_,_,rfl,Jm.none v _⟩
  rw [if_neg (by rw [decide_eq_true_eq]; omega)]
  have key:∀i:Int,i=(if n.kind=0 then (s.aa.length:Int) else n.int)→∃k e s',(((app 56 s.aa [(⟨n.kind,i,n.label,n.args⟩:ai)]).bind fun x1=>(app 8 s.ae [(s.aa.length:Int)]).bind fun x2=>some ((s.aa.length:Int),(0:Int),(ab.mk true x1 x2)))=some (k,e,s'))∧Jm s s' e:=by
   intro i hi
   rw [wR (by simp only [aaW,aba]; omega),aaG,wR (by have:=v.inv.len; simp only [aaW,aba]; omega),aaG]
   obtain⟨w1,w2⟩:=v.more [⟨n.kind,i,n.label,n.args⟩] (fun j x hx=>by
    cases j with
    | succ j=>simp at hx
    | zero=>
     simp only [abg,aaJ] at hx
     subst hx
     refine⟨by rw [hi]; exact h1,fun hk=>?_⟩
     have hk:n.kind=0:=hk
     show i=_
     rw [hi,if_pos hk,ab5]) (by simp only [aaW,aba]; omega)
   have es:eQ s.aa.length 1=[(s.aa.length:Int)]:=by simp [eQ]
   have w1:Inv2 ⟨s.aj,s.aa++[⟨n.kind,i,n.label,n.args⟩],s.ae++eQ s.aa.length 1⟩:=w1
   have w2:q7 s ⟨s.aj,s.aa++[⟨n.kind,i,n.label,n.args⟩],s.ae++eQ s.aa.length 1⟩:=w2
   rw [es,v.inv.made] at w1 w2
   exact⟨_,_,_,rfl,w1,w2,fun h=>absurd rfl h⟩
  simp only [jn]
  by_cases hk:n.kind=0
  ·rw [if_pos (by rw [hk]; rfl)]; exact key _ (by rw [if_pos hk])
  ·rw [if_neg (by simpa using hk)]; exact key _ (by rw [if_neg hk])
end
section
variable {m:Nat}{s:ab}
theorem Ld (hm:2 ^ 41≤m)(t:aI):(∃r,dG.f m t=some (r,0)∧zE r.nodes∧∀n∈r.nodes,ec n r.nodes.length=true)∨∃r,dG.f m t=some (r,2):=by
 have IV:(2:Nat) ^ 30=1073741824:=by decide
 have vM:(2:Nat) ^ 41=2199023255552:=by decide
 unfold dG.f
 rw [lj om,aaG]
 cases h:ca t with
 | false=>exact .inr ⟨_,rfl⟩
 | true=>
  obtain⟨r,R,e,hv,_⟩:=kJ hm h
  rw [if_neg (by simp),e]
  exact .inl ⟨_,rfl,(eJ hv).1,fun n hn=>by
   unfold ca at hv
   simp only [aaK,aa1] at hv
   exact hv.2 n hn⟩
theorem Dd {v:ai}(a8:v.args.length≤8)(aR:∀a∈v.args,0≤a∧a<8000)(hN:s.aa.length≤8000)(s2:ab):∀(k i:Nat),i≤v.args.length→v.args.length - i<k→
  aw.l1 m s v k (i:Int) ((v.args.take i).map (· + (s.aa.length:Int))++v.args.drop i) s2=some ((v.args.length:Int),v.args.map (· + (s.aa.length:Int)),s2)∧
  aw.l2 m s v k (i:Int) ((v.args.take i).map (· + (s.aa.length:Int))++v.args.drop i) s2=some ((v.args.length:Int),v.args.map (· + (s.aa.length:Int)),s2)
 | 0,i,h1,h2=>by omega
 | k+1,i,h1,h2=>by
  simp only [aw.l1,aw.l2]
  by_cases hi:i<v.args.length
  ·have d:decide ((i:Int)<(v.args.length:Int))=true:=by rw [decide_eq_true_eq]; omega
   have hl:((v.args.take i).map (· + (s.aa.length:Int))).length=i:=by rw [aaY,abz]; omega
   have ed:v.args.drop i=v.args[i]::v.args.drop (i+1):=aaT hi
   have et:v.args.take (i+1)=v.args.take i++[v.args[i]]:=abn hi
   have eg:((v.args.take i).map (· + (s.aa.length:Int))++v.args.drop i)[i]? = some v.args[i]:=by
    rw [aaZ om,hl,abT,ed]; rfl
   have es:((v.args.take i).map (· + (s.aa.length:Int))++v.args.drop i).set i (v.args[i]+(s.aa.length:Int))=(v.args.take (i+1)).map (· + (s.aa.length:Int))++v.args.drop (i+1):=by
    rw [abX _ _ om,hl,abT,ed,et,abc,aa0]; rfl
   obtain⟨b1,b2⟩:=aR v.args[i] (List.getElem_mem hi)
   have ew:i64.wrap ((i:Int)+1)=((i+1:Nat):Int):=by rw [jA om om]; omega
   have ev:i64.wrap (v.args[i]+(s.aa.length:Int))=v.args[i]+(s.aa.length:Int):=jA om om
   rw [if_pos d,if_pos d,sQ eg]
   simp only [aaG,ew,ev,aaS,es]
   exact Dd a8 aR hN s2 k (i+1) om om
  ·have d:decide ((i:Int)<(v.args.length:Int))=false:=by rw [decide_eq_false_iff_not]; omega
   have e:i=v.args.length:=by omega
   rw [if_neg (by rw [d]; decide),if_neg (by rw [d]; decide),e]
   simp
theorem Jn (hm:2000000≤m)(v:Inv2 s){x:aI × Int}(ok:zE x.1.nodes)(okB:∀n∈x.1.nodes,ec n x.1.nodes.length=true)(hl:s.aa.length+x.1.nodes.length≤8000):∀(k i:Nat) (V:List ai),i≤x.1.nodes.length→x.1.nodes.length - i<k→V.length=i→(∀(j:Nat) y,V[j]? = some y→ec y ((s.aa.length+x.1.nodes.length:Nat):Int)=true∧(y.kind=0→y.int=((s.aa.length+j:Nat):Int)))→
  ∃V2:List ai,aw.l0 m s x k (i:Int) ⟨s.aj,s.aa++V,s.ae++eQ s.aa.length i⟩=some ((x.1.nodes.length:Int),⟨s.aj,s.aa++V2,s.ae++eQ s.aa.length x.1.nodes.length⟩)∧V2.length=x.1.nodes.length∧∀(j:Nat) y,V2[j]? = some y→ec y ((s.aa.length+x.1.nodes.length:Nat):Int)=true∧(y.kind=0→y.int=((s.aa.length+j:Nat):Int))
 | 0,i,V,h1,h2,_,_=>by omega
 | k+1,i,V,h1,h2,hV,hP=>by
  have hlen:=v.inv.len
  simp only [aw.l0]
  by_cases hi:i<x.1.nodes.length
  ·have d:decide ((i:Int)<(x.1.nodes.length:Int))=true:=by rw [decide_eq_true_eq]; omega
   have eg:=aaL hi
   generalize x.1.nodes[i]=n at eg
   obtain⟨n8,nR⟩:=ok.2 n (aaP eg)
   have nB:=okB n (aaP eg)
   have Vb:∀a∈n.args,0≤a∧a<8000:=fun a ha=>by have:=nR a ha; have:=ok.1; omega
   obtain⟨q1,q2⟩:=Dd (m:=m) (s:=s) n8 Vb om ⟨s.aj,s.aa++V,s.ae++eQ s.aa.length i⟩ m 0 (abe _) om
   have q1:aw.l1 m s n m 0 n.args ⟨s.aj,s.aa++V,s.ae++eQ s.aa.length i⟩=_:=q1
   have q2:aw.l2 m s n m 0 n.args ⟨s.aj,s.aa++V,s.ae++eQ s.aa.length i⟩=_:=q2
   have ew:i64.wrap ((i:Int)+1)=((i+1:Nat):Int):=by rw [jA om om]; omega
   have ef:i64.wrap ((s.aa.length:Int)+(i:Int))=((s.aa.length+i:Nat):Int):=by rw [jA om om]; omega
   rw [if_pos d,sQ eg]
   simp only [aaG,q1,q2,ew,ef]
   have go:∀z:Int,(n.kind=0→z=((s.aa.length+i:Nat):Int))→(n.kind≠0→z=n.int)→∃V2:List ai,((app 56 (s.aa++V) [(⟨n.kind,z,n.label,n.args.map (· + (s.aa.length:Int))⟩:ai)]).bind fun x5=>(app 8 (s.ae++eQ s.aa.length i) [((s.aa.length+i:Nat):Int)]).bind fun x6=>aw.l0 m s x k ((i+1:Nat):Int) (ab.mk s.aj x5 x6))=some ((x.1.nodes.length:Int),⟨s.aj,s.aa++V2,s.ae++eQ s.aa.length x.1.nodes.length⟩)∧V2.length=x.1.nodes.length∧∀(j:Nat) y,V2[j]? = some y→ec y ((s.aa.length+x.1.nodes.length:Nat):Int)=true∧(y.kind=0→y.int=((s.aa.length+j:Nat):Int)):=by
    intro z z0 z1
    rw [wR (by simp only [aaR,aaW,aba]; omega),aaG,wR (by simp only [aaR,lM,aaW,aba]; omega),aaG]
    have:=Jn hm v ok okB hl k (i+1) (V++[⟨n.kind,z,n.label,n.args.map (· + (s.aa.length:Int))⟩]) om om (by simp [hV]) (fun j y hy=>by
     by_cases hj:j<V.length
     ·rw [aaX hj] at hy
      exact hP j y hy
     ·rw [aaZ om] at hy
      obtain⟨q,hq⟩:∃q,j - V.length=q:=⟨_,rfl⟩
      rw [hq] at hy
      cases q with
      | succ q=>simp at hy
      | zero=>
       simp only [abg,aaJ] at hy
       subst hy
       have ej:j=i:=by omega
       subst ej
       refine⟨pe nB _ (fun a ha=>?_) (fun h=>by have:=z0 h; omega) z1,fun h=>z0 h⟩
       have:=nR a ha
       omega)
    rw [sd,←aa0,←aa0] at this
    exact this
   by_cases hk:n.kind=0
   ·rw [if_pos (by rw [hk]; rfl)]; exact go _ (fun _=>rfl) (fun h=>absurd hk h)
   ·rw [if_neg (by simpa using hk)]; exact go _ (fun h=>absurd h hk) (fun _=>rfl)
  ·have d:decide ((i:Int)<(x.1.nodes.length:Int))=false:=by rw [decide_eq_false_iff_not]; omega
   have e:i=x.1.nodes.length:=by omega
   rw [if_neg (by rw [d]; decide),e]
   exact⟨V,rfl,om,hP⟩
theorem Rc (hm:2 ^ 41≤m)(v:Inv2 s)(t:aI):∃k e s',aw.f m s t=some (k,e,s')∧Jm s s' e:=by
 have vM:(2:Nat) ^ 41=2199023255552:=by decide
 have n3:=v.inv.max
 unfold aw.f b4.f
 rw [v.inv.made]
 simp only [aaG,abM,aaU,if_false]
 rcases Ld hm t with⟨r,e,ok,okB⟩| ⟨r,e⟩
 ·rw [e,aaG,if_neg (show ¬(!(((r,0):aI × Int).2==(0:Int)))=true by simp)]
  have hr:=ok.1
  have ew:i64.wrap ((s.aa.length:Int)+(r.nodes.length:Int))=((s.aa.length+r.nodes.length:Nat):Int):=by rw [jA om om]; omega
  rw [ew]
  by_cases hl:s.aa.length+r.nodes.length > 8000
  ·rw [if_pos (by rw [decide_eq_true_eq]; omega)]
   exact⟨_,_,_,rfl,Jm.none v _⟩
  ·rw [if_neg (by rw [decide_eq_true_eq]; omega)]
   obtain⟨V,e1,e2,e3⟩:=Jn (m:=m) om v (x:=(r,0)) ok okB (by show _+r.nodes.length≤8000; omega) m 0 [] (abe _) (by show r.nodes.length - 0<m; omega) rfl (fun j y hy=>by simp at hy)
   have es:s.ae++eQ s.aa.length 0=s.ae:=by simp [eQ]
   rw [abU,es] at e1
   have e1:aw.l0 m s (r,0) m 0 s=some ((r.nodes.length:Int),⟨s.aj,s.aa++V,s.ae++eQ s.aa.length r.nodes.length⟩):=e1
   have e2:V.length=r.nodes.length:=e2
   have e3:∀(j:Nat) y,V[j]? = some y→ec y ((s.aa.length+r.nodes.length:Nat):Int)=true∧(y.kind=0→y.int=((s.aa.length+j:Nat):Int)):=e3
   rw [e1,aaG]
   obtain⟨w1,w2⟩:=v.more V (by rw [e2]; exact e3) om
   rw [e2] at w1 w2
   exact⟨_,_,_,rfl,w1,w2,fun h=>absurd rfl h⟩
 ·rw [e,aaG,if_pos (show (!(((r,2):aI × Int).2==(0:Int)))=true from rfl)]
  exact⟨_,_,_,rfl,Jm.none v _⟩
end
section
variable {m:Nat}{s:ab}
theorem q7.Re (v:Inv2 s){s':ab}(v':Inv2 s')(eN:s'.aa=s.aa)(h:iA s.aa (rp s.ae) (rp s'.ae)):q7 s s':=by
 refine⟨by rw [eN]; exact aaN _,fun n hn hv=>?_,fun n hn=>by rw [eN],h⟩
 have g1:=v.inv.cn.rg n hn
 have R5:=v'.inv.cn
 have Xd:=v'.cl
 rw [eN] at R5 Xd ⊢
 have e1:rp s'.ae (rp s.ae n)=rp s'.ae n:=h _ _ g1 hn (v.inv.cn.id n hn)
 have e2:rp s'.ae (rp s'.ae n)=rp s'.ae n:=R5.id n hn
 have v2:iI s.aa (rp s'.ae n):=e1 ▸ R5.val g1 hv
 exact (Xd _ _ g1 (R5.rg n hn) (e1.trans e2.symm) hv v2).1
def Rf (s s':ab)(e k:Int):Prop:=Inv2 s'∧q7 s s'∧(e≠0∨k=7→s'=s)
theorem Jm.a {s':ab}{e k:Int}(d:Jm s s' e)(hk:k≠7):Rf s s' e k:=⟨d.1,d.2.1,fun h=>h.elim d.2.2 fun h=>absurd h hk⟩
theorem Vc (hm:2 ^ 41≤m)(v:Inv2 s)(x:bb)(hx:x.gz.length≤40):∃e s',iU.f m s x=some (e,s')∧Rf s s' e x.fF:=by
 have vM:(2:Nat) ^ 41=2199023255552:=by decide
 have mF:2000000≤m:=by omega
 have z0:∀a∈([]:List Int),Rg s.aa.length a:=fun a h=>by simp at h
 unfold iU.f
 by_cases k0:x.fF=0
 ·rw [if_pos (by rw [k0]; rfl)]
  obtain⟨k,e,s',e1,d⟩:=Bp mF v true ⟨0,0,⟨#[]⟩,[]⟩ (fun _=>by simp [ec]; try omega)
  refine⟨e,s',?_,d.a om⟩
  simp only [ff.f,dS.f,e1,aaG]
 rw [if_neg (by simpa using k0)]
 by_cases k1:x.fF=1
 ·rw [if_pos (by rw [k1]; rfl)]
  have h1:∃r,dq.f m x.tc=some r∧(r=true→-1099511627776≤x.tc∧x.tc≤1099511627776):=by
   unfold dq.f
   split
   ·rename_i h
    exact⟨_,rfl,fun k=>by simp only [decide_eq_true_eq] at h k; omega⟩
   ·exact⟨_,rfl,fun k=>by cases k⟩
  obtain⟨r,h1,hr⟩:=h1
  obtain⟨k,e,s',e1,d⟩:=Bp mF v r ⟨1,x.tc,⟨#[]⟩,[]⟩ (fun h=>by have:=hr h; simp [ec]; omega)
  refine⟨e,s',?_,d.a om⟩
  simp only [fh.f,h1,e1,aaG]
 rw [if_neg (by simpa using k1)]
 by_cases k2:x.fF=2
 ·rw [if_pos (by rw [k2]; rfl)]
  obtain⟨k,e,s',e1,d⟩:=Bp mF v (lL x.fc) ⟨2,0,x.fc,[]⟩ (fun h=>by simp [ec,h])
  refine⟨e,s',?_,d.a om⟩
  simp only [eH.f,dF.f,oZ (show 20≤m by omega),aaG,e1]
 rw [if_neg (by simpa using k2)]
 by_cases k3:x.fF=3
 ·rw [if_pos (by rw [k3]; rfl)]
  have h1:∃r,cH.f m x.fc x.gz s=some r∧(r=true→lL x.fc=true∧1≤x.gz.length∧x.gz.length≤8∧∀a∈x.gz,Rg s.aa.length a):=by
   unfold cH.f
   rw [oZ (show 20≤m by omega),aaG]
   split
   ·rename_i Ca
    split
    ·rename_i h81
     split
     ·rename_i h8
      rw [vX mF x.gz om (g:=fun n=>!decide (Rg s.aa.length n)) (fun a _=>by simp only [cJ.f,E0,aaG])]
      refine⟨_,rfl,fun h=>⟨Ca,by simp only [decide_eq_true_eq] at h81; omega,by simp only [decide_eq_true_eq] at h8; omega,fun a ha=>?_⟩⟩
      simp only [abN,List.any_eq_false] at h
      have:=h a ha
      simpa using this
     ·exact⟨_,rfl,fun h=>by cases h⟩
    ·exact⟨_,rfl,fun h=>by cases h⟩
   ·exact⟨_,rfl,fun h=>by cases h⟩
  obtain⟨r,h1,h2⟩:=h1
  obtain⟨k,e,s',e1,d⟩:=Bp mF v r ⟨3,0,x.fc,x.gz⟩ (fun h=>by
   obtain⟨q1,q2,q3,q4⟩:=h2 h
   simp only [ec]
   simp [q1,q2,q3]
   intro a ha
   have:=q4 a ha
   unfold Rg at this
   omega)
  have hc:Ky 1 x.gz=some x.gz:=by unfold Ky; rw [if_pos om]
  refine⟨e,s',?_,d.a om⟩
  simp only [dW.f,hc,h1,e1,aaG]
 rw [if_neg (by simpa using k3)]
 by_cases k4:x.fF=4
 ·rw [if_pos (by rw [k4]; rfl)]
  have h1:∃r,cV.f m x.fc x.tc=some r∧(r=true→xr x.fc=true∧0≤x.tc):=by
   unfold cV.f
   rw [xt,aaG]
   split
   ·rename_i h
    exact⟨_,rfl,fun k=>⟨h,by simp only [decide_eq_true_eq] at k; omega⟩⟩
   ·exact⟨_,rfl,fun k=>by cases k⟩
  obtain⟨r,h1,hr⟩:=h1
  obtain⟨k,e,s',e1,d⟩:=Bp mF v r ⟨4,x.tc,x.fc,[]⟩ (fun h=>by obtain⟨q1,q2⟩:=hr h; simp [ec,q1,q2])
  refine⟨e,s',?_,d.a om⟩
  simp only [eG.f,h1,e1,aaG]
 rw [if_neg (by simpa using k4)]
 by_cases k5:x.fF=5
 ·rw [if_pos (by rw [k5]; rfl)]
  obtain⟨k,e,s',e1,d⟩:=Rc hm v x.tR
  refine⟨e,s',?_,d.a om⟩
  simp only [e1,aaG]
 rw [if_neg (by simpa using k5)]
 by_cases k6:x.fF=6
 ·rw [if_pos (by rw [k6]; rfl)]
  obtain⟨l,e,s',e1,v',em,eN,h⟩:=tX mF v x.tc x.D0
  refine⟨e,s',by simp only [e1,aaG],v',?_,fun h'=>?_⟩
  ·rcases h with⟨_,_,rfl⟩| ⟨_,_,rfl,_⟩| ⟨_,_,h,_⟩
   ·exact q7.refl _
   ·exact q7.refl _
   ·exact q7.Re v v' eN h
  ·rcases h with⟨_,_,rfl⟩| ⟨_,_,rfl,_⟩| ⟨_,h0,h,_⟩
   ·rfl
   ·rfl
   ·rcases h' with h' | h'
    ·exact absurd h0 h'
    ·omega
 rw [if_neg (by simpa using k6)]
 by_cases k7:x.fF=7
 ·rw [if_pos (by rw [k7]; rfl)]
  obtain⟨t,l,e,e1⟩:=Jk mF v x.tc x.D0
  exact⟨e,s,by simp only [e1,aaG],v,q7.refl s,fun _=>rfl⟩
 rw [if_neg (by simpa using k7)]
 exact⟨0,s,rfl,v,q7.refl s,fun _=>rfl⟩
def Small (l:List bb):Prop:=l.length≤60∧∀x∈l,x.gz.length≤40
theorem vZ (l:List bb)(hl:l.length<2 ^ 63):∀(k i:Nat),i≤l.length→l.length - i<k→(∃b,bq.l0 m l k (i:Int)=some (.inl b)∧b=true)∨(∃z,bq.l0 m l k (i:Int)=some (.inr z)∧∀j,i≤j→∀x,l[j]? = some x→x.gz.length≤40)
 | 0,i,h1,h2=>by omega
 | k+1,i,h1,h2=>by
  have Rh:(2:Nat) ^ 63=9223372036854775808:=by decide
  simp only [bq.l0]
  by_cases hi:i<l.length
  ·have d:decide ((i:Int)<(l.length:Int))=true:=by rw [decide_eq_true_eq]; omega
   have eg:=aaL hi
   generalize l[i]=n at eg
   have ew:i64.wrap ((i:Int)+1)=((i+1:Nat):Int):=by rw [jA om om]; omega
   rw [if_pos d,sQ eg]
   simp only [aaG,ew]
   split
   ·exact .inl ⟨_,rfl,rfl⟩
   split
   ·exact .inl ⟨_,rfl,rfl⟩
   rename_i h40
   rcases vZ l hl k (i+1) om om with h | ⟨z,e,h⟩
   ·exact .inl h
   ·refine .inr ⟨z,e,fun j hj x hx=>?_⟩
    by_cases hji:j=i
    ·subst hji
     rw [eg] at hx; cases hx
     simp only [decide_eq_true_eq] at h40; omega
    ·exact h j om x hx
  ·have d:decide ((i:Int)<(l.length:Int))=false:=by rw [decide_eq_false_iff_not]; omega
   rw [if_neg (by rw [d]; decide)]
   refine .inr ⟨_,rfl,fun j hj x hx=>?_⟩
   rw [aa2 om] at hx; cases hx
theorem Le (hm:2 ^ 63≤m)(l:List bb)(hl:l.length<2 ^ 63):∃b,bq.f m l=some b∧(b=false→Small l):=by
 have Rh:(2:Nat) ^ 63=9223372036854775808:=by decide
 have Zx:(2:Nat) ^ 63=9223372036854775808:=by decide
 unfold bq.f
 rcases vZ (m:=m) l hl m 0 (abe _) om with⟨b,e,rfl⟩| ⟨z,e,h⟩
 ·have e:bq.l0 m l m 0=_:=e
  rw [e]
  exact⟨true,rfl,fun h=>by cases h⟩
 ·have e:bq.l0 m l m 0=_:=e
  rw [e]
  refine⟨_,rfl,fun hb=>⟨?_,fun x hx=>?_⟩⟩
  ·simp only [decide_eq_false_iff_not] at hb; omega
  ·obtain⟨j,hj⟩:=abv hx
   exact h j (abe _) x hj
theorem Lf:Inv2 ⟨true,[],[]⟩:=by
 have no:∀(P:Int→Prop) (n:Int),Rg ([]:List ai).length n→P n:=fun P n h=>by have:=h.1; have:=h.2; simp at this; omega
 exact⟨⟨rfl,rfl,by simp,KX,⟨fun n h=>no _ n h,fun n h=>no _ n h,fun n h=>no _ n h⟩,fun v h=>by simp at h⟩,fun x y hx=>(no (fun _=>False) x hx).elim,fun n h=>(no (fun _=>False) n h).elim⟩
theorem E6 (a:List Int)(hl:a.length<2 ^ 63):∀(k i:Nat),i≤a.length→a.length - i<k→cw.l0 m a a k (i:Int)=some (.inr (a.length:Int))
 | 0,i,h1,h2=>by omega
 | k+1,i,h1,h2=>by
  have Rh:(2:Nat) ^ 63=9223372036854775808:=by decide
  simp only [cw.l0]
  by_cases hi:i<a.length
  ·have d:decide ((i:Int)<(a.length:Int))=true:=by rw [decide_eq_true_eq]; omega
   have ew:i64.wrap ((i:Int)+1)=((i+1:Nat):Int):=by rw [jA om om]; omega
   rw [if_pos d,sQ (aaL hi)]
   simp only [aaG,ew,BEq.rfl,abM,aaU,if_false]
   exact E6 a hl k (i+1) om om
  ·have d:decide ((i:Int)<(a.length:Int))=false:=by rw [decide_eq_false_iff_not]; omega
   have e:i=a.length:=by omega
   rw [if_neg (by rw [d]; decide),e]
theorem Gq (a:List Int)(hl:a.length<2 ^ 63)(hm:2 ^ 63≤m):cw.f m a a=some true:=by
 have Rh:(2:Nat) ^ 63=9223372036854775808:=by decide
 have Zx:(2:Nat) ^ 63=9223372036854775808:=by decide
 have:=E6 (m:=m) a hl m 0 (abe _) om
 have this:cw.l0 m a a m 0=_:=this
 simp only [cw.f,BEq.rfl,abM,aaU,if_false,this,aaG]
end
section
variable {m:Nat}{s:ab}
theorem Bq (hm:16000≤m)(v:Inv s){l:List Int}(h8:l.length≤8)(hr:∀a∈l,Rg s.aa.length a):∀(k i:Nat),i≤l.length→l.length - i<k→bh.l0 m s l k ((l.take i).map (rp s.ae)++l.drop i) (i:Int)=some (l.map (rp s.ae),(l.length:Int))
 | 0,i,h1,h2=>by omega
 | k+1,i,h1,h2=>by
  simp only [bh.l0]
  by_cases hi:i<l.length
  ·have d:decide ((i:Int)<(l.length:Int))=true:=by rw [decide_eq_true_eq]; omega
   have hl:((l.take i).map (rp s.ae)).length=i:=by rw [aaY,abz]; omega
   have ed:l.drop i=l[i]::l.drop (i+1):=aaT hi
   have et:l.take (i+1)=l.take i++[l[i]]:=abn hi
   have eg:((l.take i).map (rp s.ae)++l.drop i)[i]? = some l[i]:=by
    rw [aaZ om,hl,abT,ed]; rfl
   have es:((l.take i).map (rp s.ae)++l.drop i).set i (rp s.ae l[i])=(l.take (i+1)).map (rp s.ae)++l.drop (i+1):=by
    rw [abX _ _ om,hl,abT,ed,et,abc,aa0]; rfl
   have ew:i64.wrap ((i:Int)+1)=((i+1:Nat):Int):=by rw [jA om om]; omega
   rw [if_pos d,sQ eg]
   simp only [aaG,Bl hm v (hr _ (List.getElem_mem hi)),ew,aaS,es]
   exact Bq hm v h8 hr k (i+1) om om
  ·have d:decide ((i:Int)<(l.length:Int))=false:=by rw [decide_eq_false_iff_not]; omega
   have e:i=l.length:=by omega
   rw [if_neg (by rw [d]; decide),e]
   simp
def Gr (s:ab)(r:Int):ai:=⟨(dh s.aa r).kind,(dh s.aa r).int,(dh s.aa r).label,(dh s.aa r).args.map (rp s.ae)⟩
theorem Lg (hm:16000≤m)(v:Inv s){n:Int}(h:Rg s.aa.length n):bh.f m s n=some (Gr s n):=by
 obtain⟨a1,a2⟩:=v.args _ (gm h)
 have hc:Ky 1 (dh s.aa n).args=some (dh s.aa n).args:=by unfold Ky; rw [if_pos om]
 have:=Bq (m:=m) hm v a1 a2 m 0 (abe _) om
 have this:bh.l0 m s (dh s.aa n).args m (dh s.aa n).args 0=_:=this
 simp only [bh.f,vW h,aaG,hc,this]
 rfl
end
end Go.Proofs.YtifafejidnjckaaGreat
namespace Go.Uf
open Go Go.R
open Go.IntKind (i64 u64 u8 u32)
theorem E7 (l:List (Int × Bool))(k x:Int)(v:Bool):(wJ (CD l k v) x).1=if x=k then v else (wJ l x).1:=by
 induction l with
 | nil=>
  simp only [CD,wJ]
  split<;>rfl
 | cons p l ih=>
  obtain⟨a,b⟩:=p
  simp only [CD]
  by_cases h:k=a
  ·subst h
   rw [if_pos rfl]
   simp only [wJ]
   by_cases hx:x=k
   ·rw [if_pos hx,if_pos hx]
   ·rw [if_neg hx,if_neg hx,if_neg hx]
  ·rw [if_neg h]
   simp only [wJ]
   by_cases hx:x=a
   ·rw [if_pos hx,if_pos hx]
    have:¬x=k:=by omega
    rw [if_neg this]
   ·rw [if_neg hx,if_neg hx,ih]
theorem Lh (l:List (Int × Int))(k x:Int)(v:Int):(nA (zz l k v) x).1=if x=k then v else (nA l x).1:=by
 induction l with
 | nil=>
  simp only [zz,nA]
  split<;>rfl
 | cons p l ih=>
  obtain⟨a,b⟩:=p
  simp only [zz]
  by_cases h:k=a
  ·subst h
   rw [if_pos rfl]
   simp only [nA]
   by_cases hx:x=k
   ·rw [if_pos hx,if_pos hx]
   ·rw [if_neg hx,if_neg hx,if_neg hx]
  ·rw [if_neg h]
   simp only [nA]
   by_cases hx:x=a
   ·rw [if_pos hx,if_pos hx]
    have:¬x=k:=by omega
    rw [if_neg this]
   ·rw [if_neg hx,if_neg hx,ih]
end Go.Uf
namespace Go.Proofs.YtifafejidnjckaaGreat
open Go Go.R Go.Uf
open Go.IntKind (i64 u64 u8 u32)
inductive Ri (N:List ai)(R:Int→Int)(r:Int):Int→Prop
 | refl:Ri N R r r
 | step {x a:Int}:Ri N R r x→a∈(dh N x).args→Ri N R r (R a)
def SI (out:List Int)(seen:List (Int × Bool)):Prop:=∀x,(wJ seen x).1=true↔x∈out
structure RI (s:ab)(r:Int)(out:List Int):Prop where
 nd:out.Nodup
 rt:∀x∈out,Rg s.aa.length x∧rp s.ae x=x∧Ri s.aa (rp s.ae) r x
 hd:out[0]? = some r
section
variable {m:Nat}{s:ab}{r:Int}
theorem RI.Gf {out:List Int}(h:RI s r out):out.length≤s.aa.length:=Ja h.nd fun x hx=>(h.rt x hx).1
theorem wc (hm:16000≤m)(v:Inv s){y:Int}(hy:Rg s.aa.length y)(hr:Ri s.aa (rp s.ae) r y):∀(k i:Nat) (out:List Int) (seen:List (Int × Bool)),i≤(dh s.aa y).args.length→(dh s.aa y).args.length - i<k→SI out seen→RI s r out→(∀j a,j<i→(dh s.aa y).args[j]? = some a→rp s.ae a∈out)→
  ∃nT xF,aF.l1 m s (dh s.aa y) k out seen (i:Int)=some (nT,xF,((dh s.aa y).args.length:Int))∧SI nT xF∧RI s r nT∧(∃t,nT=out++t)∧∀a∈(dh s.aa y).args,rp s.ae a∈nT
 | 0,i,out,seen,h1,h2,_,_,_=>by omega
 | k+1,i,out,seen,h1,h2,hs,hi,hj=>by
  simp only [aF.l1]
  obtain⟨n8,nR⟩:=v.args _ (gm hy)
  by_cases hlt:i<(dh s.aa y).args.length
  ·have d:decide ((i:Int)<((dh s.aa y).args.length:Int))=true:=by rw [decide_eq_true_eq]; omega
   have eg:=aaL hlt
   generalize (dh s.aa y).args[i]=a at eg
   have Xe:=aaP eg
   have ha:=nR a Xe
   have ew:i64.wrap ((i:Int)+1)=((i+1:Nat):Int):=by rw [jA om om]; omega
   rw [if_pos d,sQ eg]
   simp only [aaG,ew,Bl (m:=m) om v ha]
   cases hq:(wJ seen (rp s.ae a)).1 with
   | true=>
    rw [if_neg (by simp)]
    have hin:=(hs _).1 hq
    exact wc hm v hy hr k (i+1) out seen om om hs hi (fun j b Xf hb=>by
     by_cases e:j<i
     ·exact hj j b e hb
     ·have:j=i:=by omega
      subst this
      rw [eg] at hb; cases hb; exact hin)
   | false=>
    have Vd:rp s.ae a∉out:=fun h=>by rw [(hs _).2 h] at hq; cases hq
    have hf:=hi.Gf
    have h8:=v.max
    rw [if_pos (by simp),wR (by simp only [aaW,aba]; omega),aaG]
    have kp:RI s r (out++[rp s.ae a]):=by
     refine⟨?_,fun x hx=>?_,?_⟩
     ·rw [acd]
      refine⟨hi.nd,by simp,fun x hx z hz=>?_⟩
      simp only [aa5] at hz
      subst hz
      intro e
      subst e
      exact Vd hx
     ·rcases abb.1 hx with hx | hx
      ·exact hi.rt x hx
      ·simp only [aa5] at hx
       subst hx
       exact⟨v.cn.rg a ha,v.cn.id a ha,.step hr Xe⟩
     ·have h0:=hi.hd
      have:=(aaM.1 h0).1
      rw [aaX om]; exact h0
    have LC:SI (out++[rp s.ae a]) (CD seen (rp s.ae a) true):=by
     intro x
     rw [E7,abb,aa5]
     by_cases e:x=rp s.ae a
     ·simp [e]
     ·rw [if_neg e,hs x]; simp [e]
    obtain⟨nT,xF,e1,e2,e3,⟨t,e4⟩,e5⟩:=wc hm v hy hr k (i+1) _ _ om om LC kp (fun j b Xf hb=>by
     by_cases e:j<i
     ·exact abA _ (hj j b e hb)
     ·have:j=i:=by omega
      subst this
      rw [eg] at hb; cases hb; exact List.mem_append_right _ (by simp))
    exact⟨nT,xF,e1,e2,e3,⟨_,by rw [e4,aa0]⟩,e5⟩
  ·have d:decide ((i:Int)<((dh s.aa y).args.length:Int))=false:=by rw [decide_eq_false_iff_not]; omega
   have e:i=(dh s.aa y).args.length:=by omega
   subst e
   rw [if_neg (by rw [d]; decide)]
   refine⟨out,seen,rfl,hs,hi,⟨[],by simp⟩,fun a ha=>?_⟩
   obtain⟨j,Rj⟩:=abv ha
   exact hj j a (aaM.1 Rj).1 Rj
theorem Br (hm:16000≤m)(v:Inv s):∀(k i:Nat) (out:List Int) (seen:List (Int × Bool)),i≤out.length→s.aa.length - i<k→SI out seen→RI s r out→(∀j x,j<i→out[j]? = some x→∀a∈(dh s.aa x).args,rp s.ae a∈out)→
  ∃nT z w,aF.l0 m s k out seen (i:Int)=some (nT,z,w)∧RI s r nT∧∀x∈nT,∀a∈(dh s.aa x).args,rp s.ae a∈nT
 | 0,i,out,seen,h1,h2,_,_,_=>by omega
 | k+1,i,out,seen,h1,h2,hs,hi,hj=>by
  simp only [aF.l0]
  have hf:=hi.Gf
  have h8:=v.max
  by_cases hlt:i<out.length
  ·have d:decide ((i:Int)<(out.length:Int))=true:=by rw [decide_eq_true_eq]; omega
   have eg:=aaL hlt
   generalize out[i]=y at eg
   obtain⟨y1,y2,y3⟩:=hi.rt y (aaP eg)
   have ew:i64.wrap ((i:Int)+1)=((i+1:Nat):Int):=by rw [jA om om]; omega
   have n8:=(v.args _ (gm y1)).1
   obtain⟨nT,xF,e1,e2,e3,⟨t,e4⟩,e5⟩:=wc (m:=m) hm v y1 y3 m 0 out seen (abe _) om hs hi (fun j a h=>by omega)
   have e1:aF.l1 m s (dh s.aa y) m out seen 0=_:=e1
   rw [if_pos d,sQ eg,aaG,vW y1,aaG,e1,aaG]
   simp only [ew]
   refine Br hm v k (i+1) nT xF ?_ om e2 e3 (fun j x Xf hx a ha=>?_)
   ·rw [e4,aaR]; omega
   ·rw [e4,aaX om] at hx
    by_cases e:j<i
    ·rw [e4]; exact abA _ (hj j x e hx a ha)
    ·have:j=i:=by omega
     subst this
     rw [eg] at hx; cases hx
     exact e5 a ha
  ·have d:decide ((i:Int)<(out.length:Int))=false:=by rw [decide_eq_false_iff_not]; omega
   rw [if_neg (by rw [d]; decide)]
   refine⟨out,_,_,rfl,hi,fun x hx a ha=>?_⟩
   obtain⟨j,Rj⟩:=abv hx
   exact hj j x (by have:=(aaM.1 Rj).1; omega) Rj a ha
structure Reach (s:ab)(r:Int)(l:List Int):Prop extends RI s r l where
 cl:∀x∈l,∀a∈(dh s.aa x).args,rp s.ae a∈l
theorem E8 (hm:16000≤m)(v:Inv s){n:Int}(h:Rg s.aa.length n):∃l,aF.f m s n=some l∧Reach s (rp s.ae n) l:=by
 have h8:=v.max
 unfold aF.f
 rw [Bl hm v h,aaG]
 have e0:ix [rp s.ae n] (0:Int)=some (rp s.ae n):=rfl
 rw [e0,aaG]
 obtain⟨l,z,w,e1,e2,e3⟩:=Br (m:=m) (r:=rp s.ae n) hm v m 0 [rp s.ae n] (CD [] (rp s.ae n) true) (abe _) om
  (fun x=>by rw [E7,aa5]; by_cases e:x=rp s.ae n<;>simp [e,wJ])
  ⟨by simp,fun x hx=>by simp only [aa5] at hx; subst hx; exact⟨v.cn.rg n h,v.cn.id n h,.refl⟩,rfl⟩ (fun j x h=>by omega)
 have e1:aF.l0 m s m [rp s.ae n] (CD [] (rp s.ae n) true) 0=_:=e1
 rw [e1,aaG]
 exact⟨l,rfl,e2,e3⟩
end
def we (l:List Int)(x:Int):Int:=((l.idxOf x:Nat):Int)
theorem mD {l:List Int}{x:Int}(h:x∈l):l[(we l x).toNat]? = some x:=by
 have:=abD h
 unfold we
 rw [aaS,aaL this,List.getElem_idxOf]
theorem q8 {l:List Int}{x:Int}(h:x∈l):0≤we l x∧we l x<l.length:=by
 have:=abD h
 unfold we; omega
theorem E9 {l:List Int}(hn:l.Nodup){x:Int}{j:Nat}(h:l[j]? = some x):we l x=j:=by
 have hm:=aaP h
 have h1:=abD hm
 obtain⟨h2,h3⟩:=aaM.1 h
 unfold we
 congr 1
 exact (List.getElem_inj hn (h₀:=h1) (h₁:=h2)).1 (by rw [List.getElem_idxOf,h3])
def PI (place:List (Int × Int))(l:List Int)(i:Nat):Prop:=∀(j:Nat) x,j<i→l[j]? = some x→(nA place x).1=j
def sR (s:ab)(l:List Int)(r:Int):ai:=⟨(dh s.aa r).kind,(dh s.aa r).int,(dh s.aa r).label,(dh s.aa r).args.map fun a=>we l (rp s.ae a)⟩
def TN (s:ab)(l:List Int):List ai:=l.map (sR s l)
section
variable {m:Nat}{s:ab}{r:Int}
theorem Fa {l:List Int}(hn:l.Nodup)(h8:l.length≤8000):∀(k i:Nat) (place:List (Int × Int)),i≤l.length→l.length - i<k→PI place l i→∃Jo,az.l0 m l k place (i:Int)=some (Jo,(l.length:Int))∧PI Jo l l.length
 | 0,i,place,h1,h2,_=>by omega
 | k+1,i,place,h1,h2,hp=>by
  simp only [az.l0]
  by_cases hlt:i<l.length
  ·have d:decide ((i:Int)<(l.length:Int))=true:=by rw [decide_eq_true_eq]; omega
   have eg:=aaL hlt
   generalize l[i]=y at eg
   have ew:i64.wrap ((i:Int)+1)=((i+1:Nat):Int):=by rw [jA om om]; omega
   rw [if_pos d,sQ eg,aaG,ew]
   refine Fa hn h8 k (i+1) _ om om fun j x hj hx=>?_
   rw [Lh]
   by_cases e:j<i
   ·have:¬x=y:=fun e2=>by
     subst e2
     have a1:=E9 hn hx
     have a2:=E9 hn eg
     omega
    rw [if_neg this]
    exact hp j x e hx
   ·have:j=i:=by omega
    subst this
    rw [eg] at hx; cases hx
    rw [if_pos rfl]
  ·have d:decide ((i:Int)<(l.length:Int))=false:=by rw [decide_eq_false_iff_not]; omega
   have e:i=l.length:=by omega
   rw [if_neg (by rw [d]; decide),e]
   exact⟨place,rfl,by rw [←e]; exact hp⟩
theorem Fb (place:List (Int × Int))(v:ai)(h8:v.args.length≤8):∀(k i:Nat),i≤v.args.length→v.args.length - i<k→
  az.l2 m place v k ((v.args.take i).map (fun a=>(nA place a).1)++v.args.drop i) (i:Int)=some (v.args.map (fun a=>(nA place a).1),(v.args.length:Int))
 | 0,i,h1,h2=>by omega
 | k+1,i,h1,h2=>by
  simp only [az.l2]
  by_cases hi:i<v.args.length
  ·have d:decide ((i:Int)<(v.args.length:Int))=true:=by rw [decide_eq_true_eq]; omega
   have hl:((v.args.take i).map (fun a=>(nA place a).1)).length=i:=by rw [aaY,abz]; omega
   have ed:v.args.drop i=v.args[i]::v.args.drop (i+1):=aaT hi
   have et:v.args.take (i+1)=v.args.take i++[v.args[i]]:=abn hi
   have eg:((v.args.take i).map (fun a=>(nA place a).1)++v.args.drop i)[i]? = some v.args[i]:=by
    rw [aaZ om,hl,abT,ed]; rfl
   have es:((v.args.take i).map (fun a=>(nA place a).1)++v.args.drop i).set i ((nA place v.args[i]).1)=(v.args.take (i+1)).map (fun a=>(nA place a).1)++v.args.drop (i+1):=by
    rw [abX _ _ om,hl,abT,ed,et,abc,aa0]; rfl
   have ew:i64.wrap ((i:Int)+1)=((i+1:Nat):Int):=by rw [jA om om]; omega
   rw [if_pos d,sQ eg]
   simp only [aaG,ew,aaS,es]
   exact Fb place v h8 k (i+1) om om
  ·have d:decide ((i:Int)<(v.args.length:Int))=false:=by rw [decide_eq_false_iff_not]; omega
   have e:i=v.args.length:=by omega
   rw [if_neg (by rw [d]; decide),e]
   simp
theorem Fc (hm:16000≤m)(v:Inv s){l:List Int}(h:Reach s r l){place:List (Int × Int)}(hp:PI place l l.length):∀(k i:Nat),i≤l.length→l.length - i<k→
  az.l1 m s l place k (i:Int) ((l.take i).map (sR s l)) 0=some ((l.length:Int),TN s l,0)
 | 0,i,h1,h2=>by omega
 | k+1,i,h1,h2=>by
  simp only [az.l1]
  have hf:=h.Gf
  have h8:=v.max
  by_cases hi:i<l.length
  ·have d:decide ((i:Int)<(l.length:Int))=true:=by rw [decide_eq_true_eq]; omega
   have eg:=aaL hi
   have et:l.take (i+1)=l.take i++[l[i]]:=abn hi
   generalize l[i]=y at eg et
   have hy:=aaP eg
   obtain⟨y1,y2,_⟩:=h.rt y hy
   have ew:i64.wrap ((i:Int)+1)=((i+1:Nat):Int):=by rw [jA om om]; omega
   have n8:=(v.args _ (gm y1)).1
   have ea:(Gr s y).args.map (fun a=>(nA place a).1)=(dh s.aa y).args.map fun a=>we l (rp s.ae a):=by
    show ((dh s.aa y).args.map _).map _=_
    rw [List.map_map]
    apply abQ
    intro a ha
    have hin:=h.cl y hy a ha
    have h0:=mD hin
    have h1:=q8 hin
    show (nA place (rp s.ae a)).1=_
    rw [hp _ _ om h0]
    omega
   have hl:(Gr s y).args.length≤8:=by show (List.map _ _).length≤8; rw [aaY]; exact n8
   have e2:=Fb (m:=m) place (Gr s y) hl m 0 (abe _) om
   have e2:az.l2 m place (Gr s y) m (Gr s y).args 0=_:=e2
   rw [if_pos d,sQ eg,aaG,Lg hm v y1,aaG,e2,aaG]
   simp only [ew]
   rw [wR (by simp only [aaY,abz,aaW,aba]; omega),aaG]
   have:=Fc hm v h hp k (i+1) om om
   rw [et,abc] at this
   rw [ea]
   exact this
  ·have d:decide ((i:Int)<(l.length:Int))=false:=by rw [decide_eq_false_iff_not]; omega
   have e:i=l.length:=by omega
   rw [if_neg (by rw [d]; decide),e,ab3]
   rfl
theorem Bs (v:Inv2 s){l:List Int}(h:Reach s r l):ca ⟨TN s l,0⟩=true:=by
 have hf:=h.Gf
 have h8:=v.inv.max
 have h0:=(aaM.1 h.hd).1
 have hl:(TN s l).length=l.length:=aaY ..
 unfold ca
 simp only [aaK,decide_eq_true_eq,aa1]
 refine⟨⟨⟨⟨om,om⟩,om⟩,om⟩,fun n hn=>?_⟩
 obtain⟨y,hy,rfl⟩:=abf.1 hn
 obtain⟨y1,y2,_⟩:=h.rt y hy
 obtain⟨k1,k2⟩:=v.vn y y1
 exact pe k1 _ (fun a ha=>by rw [hl]; exact q8 (h.cl y hy a ha)) (fun hk=>by rw [k2 hk]; exact y1.1) (fun _=>rfl)
theorem N6 (hm:2 ^ 41≤m)(v:Inv2 s){n:Int}(h:Rg s.aa.length n):∃l z,Reach s (rp s.ae n) l∧ca ⟨TN s l,0⟩=true∧bA.f m ⟨TN s l,0⟩=some z∧az.f m s n=some (z,0)∧ca z=true:=by
 have vM:(2:Nat) ^ 41=2199023255552:=by decide
 obtain⟨l,e1,R⟩:=E8 (m:=m) om v.inv h
 have hf:=R.Gf
 have h8:=v.inv.max
 have hV:=Bs v R
 obtain⟨z,_,e4,hz,_⟩:=kJ hm hV
 obtain⟨place,e2,hp⟩:=Fa (m:=m) R.nd om m 0 [] (abe _) om (fun j x hj=>by omega)
 have e2:az.l0 m l m [] 0=_:=e2
 have e3:=Fc (m:=m) om v.inv R hp m 0 (abe _) om
 have e3:az.l1 m s l place m 0 [] 0=_:=e3
 refine⟨l,z,R,hV,e4,?_,hz⟩
 unfold az.f
 rw [tW om v.inv.made [n] (by simp),show ([n].all fun n=>decide (Rg s.aa.length n))=true by simp [h],if_pos rfl,aaG,if_neg (by decide),e1,aaG,e2,aaG]
 simp only []
 rw [e3,aaG]
 simp only []
 unfold dG.f
 rw [lj om,hV,aaG,if_neg (by decide),e4]
 rfl
end
end Go.Proofs.YtifafejidnjckaaGreat
