/- Part of the proof: PA2, PA3, PA4, PA5, PA6, PR1, PS1, PT6, PS2, PS3, PS4, PS5. -/
import Derived.Test.YtifafejidnjckaaGreatK13
set_option linter.unusedVariables false
set_option linter.unusedSimpArgs false
set_option maxRecDepth 100000
open BEq renaming rfl → aj8
open Bool renaming and_eq_true → aiM, false_eq_true → aiW, not_true → ajA, true_and → ajC, or_eq_true → ajE
open Int renaming toNat_natCast → aiP, natCast_nonneg → ajQ
open List renaming getElem?_eq_getElem → aiN, getElem?_eq_some_iff → aiO, mem_of_getElem? → aiS, length_append → aiT, length_cons → aiX, length_map → aiY, drop_eq_getElem_cons → aiZ, getD_eq_getElem?_getD → ai2, mem_append → ai3, length_nil → ai4, map_append → ai5, append_assoc → ai7, getElem?_eq_none → ai8, map_cons → ai9, mem_cons → aja, mem_map → ajc, mem_append_left → ajh, drop_zero → aji, length_set → ajw, getElem?_cons_zero → ajx, all_cons → ajB, ext_getElem? → ajG, getElem?_of_mem → ajH, append_nil → ajJ, drop_eq_nil_of_le → ajL, drop_append_of_le_length → aj4, mem_cons_of_mem → aj7, getElem?_set → aj9, mem_append_right → akq
open Nat renaming le_refl → aiQ, zero_add → ajf, zero_le → ajm, mul_le_mul_right → ajN, add_zero → akj
open Option renaming bind_some → aiI
open Option.some renaming injEq → aiL, inj → ajn
open Prod.mk renaming injEq → aiV
namespace Go.Uf
open Go Go.R
open Go.IntKind (i64 u64 u8 u32)
def dI (N:List ak)(n:Int):ak:=N.getD n.toNat ⟨0,0,⟨#[]⟩,[]⟩
def kj (N:List ak)(n:Int):Prop:=(dI N n).kind≠0
instance (N:List ak) (n:Int):Decidable (kj N n):=inferInstanceAs (Decidable (_≠_))
def Bt (N:List ak)(a b:Int):Prop:=(kj N a∧¬kj N b)∨((kj N a↔kj N b)∧a≤b)
def mr (a b:ak):Prop:=a.kind=b.kind∧a.int=b.int∧a.label.data.toList=b.label.data.toList∧a.args.length=b.args.length
structure Cn (N:List ak)(R:Int→Int):Prop where
 rg:∀n,Rg N.length n→Rg N.length (R n)
 id:∀n,Rg N.length n→R (R n)=R n
 bt:∀n,Rg N.length n→Bt N (R n) n
def Cl (N:List ak)(T:Int→Int):Prop:=∀x y,Rg N.length x→Rg N.length y→T x=T y→kj N x→kj N y→mr (dI N x) (dI N y)∧∀(i:Nat) (a b:Int),(dI N x).args[i]? = some a→(dI N y).args[i]? = some b→T a=T b
def iN (N:List ak)(R T:Int→Int):Prop:=∀x y,Rg N.length x→Rg N.length y→R x=R y→T x=T y
def th (N:List ak)(R:Int→Int)(L:List (Int × Int)):Prop:=∀T,iN N R T→(∀p∈L,T p.1=T p.2)→∀x y,Rg N.length x→Rg N.length y→R x=R y→kj N x→kj N y→mr (dI N x) (dI N y)∧∀(i:Nat) (a b:Int),(dI N x).args[i]? = some a→(dI N y).args[i]? = some b→T a=T b
def OM (N:List ak):Prop:=∀v∈N,v.args.length≤8∧∀a∈v.args,Rg N.length a
section
variable {N:List ak}{R T:Int→Int}{a b x y n:Int}
theorem D6 (h:Rg N.length n):N[n.toNat]? = some (dI N n):=by
 have hl:n.toNat<N.length:=by have:=h.1; have:=h.2; omega
 unfold dI
 rw [ai2,aiN hl]; rfl
theorem mS (h:Rg N.length n):ix N n=some (dI N n):=by
 unfold ix; rw [if_pos h.1,D6 h]
theorem iF (h:Rg N.length n):dI N n∈N:=aiS (D6 h)
theorem Bt.antisymm (h1:Bt N a b)(h2:Bt N b a):a=b:=by
 unfold Bt at h1 h2
 rcases h1 with h1 | h1<;>rcases h2 with h2 | h2
 ·exact absurd h1.1 h2.2
 ·exact absurd (h2.1.2 h1.1) h1.2
 ·exact absurd (h1.1.2 h2.1) h2.2
 ·omega
theorem Bt.trans {c:Int}(h1:Bt N a b)(h2:Bt N b c):Bt N a c:=by
 unfold Bt at h1 h2 ⊢
 rcases h1 with h1 | h1<;>rcases h2 with h2 | h2
 ·exact absurd h2.1 h1.2
 ·exact .inl ⟨h1.1,fun h=>h1.2 (h2.1.2 h)⟩
 ·exact .inl ⟨h1.1.2 h2.1,h2.2⟩
 ·exact .inr ⟨h1.1.trans h2.1,om⟩
theorem Bt.refl:Bt N a a:=.inr ⟨Iff.rfl,Int.le_refl _⟩
theorem Cn.val (c:Cn N R)(h:Rg N.length n)(v:kj N n):kj N (R n):=by
 rcases c.bt n h with h1 | h1
 ·exact h1.1
 ·exact h1.1.2 v
theorem Cn.unique {R2:Int→Int}(c:Cn N R)(c2:Cn N R2)(h1:iN N R R2)(h2:iN N R2 R)(hn:Rg N.length n):R n=R2 n:=by
 have e1:R (R2 n)=R n:=h2 _ _ (c2.rg n hn) hn (c2.id n hn)
 have e2:R2 (R n)=R2 n:=h1 _ _ (c.rg n hn) hn (c.id n hn)
 have b1:=c.bt _ (c2.rg n hn)
 have b2:=c2.bt _ (c.rg n hn)
 rw [e1] at b1
 rw [e2] at b2
 exact b1.antisymm b2
def mu (N:List ak)(a b:Int):Int × Int:=if kj N a↔kj N b then (if a<b then (b,a) else (a,b)) else (if kj N b then (a,b) else (b,a))
theorem xc (a b:Int):Bt N (mu N a b).2 (mu N a b).1∧((mu N a b).1=a∧(mu N a b).2=b∨(mu N a b).1=b∧(mu N a b).2=a):=by
 unfold mu
 by_cases h:kj N a↔kj N b
 ·rw [if_pos h]
  by_cases h2:a<b
  ·rw [if_pos h2]; exact⟨.inr ⟨h,by dsimp only; omega⟩,.inr ⟨rfl,rfl⟩⟩
  ·rw [if_neg h2]; exact⟨.inr ⟨h.symm,by dsimp only; omega⟩,.inl ⟨rfl,rfl⟩⟩
 ·rw [if_neg h]
  by_cases h2:kj N b
  ·rw [if_pos h2]; exact⟨.inl ⟨h2,fun h3=>h ⟨fun _=>h2,fun _=>h3⟩⟩,.inl ⟨rfl,rfl⟩⟩
  ·rw [if_neg h2]
   refine⟨.inl ⟨?_,h2⟩,.inr ⟨rfl,rfl⟩⟩
   by_cases h3:kj N a
   ·exact h3
   ·exact absurd ⟨fun h4=>absurd h4 h3,fun h4=>absurd h4 h2⟩ h
def vF (R:Int→Int)(q:Int × Int)(n:Int):Int:=if R n=q.1 then q.2 else R n
theorem ON (c:Cn N R){q:Int × Int}(h1:Rg N.length q.1)(h2:Rg N.length q.2)(r1:R q.1=q.1)(r2:R q.2=q.2)(hne:q.2≠q.1)(hb:Bt N q.2 q.1):Cn N (vF R q):=by
 refine⟨fun n hn=>?_,fun n hn=>?_,fun n hn=>?_⟩
 ·unfold vF; split
  ·exact h2
  ·exact c.rg n hn
 ·unfold vF
  by_cases h:R n=q.1
  ·rw [if_pos h,r2,if_neg hne]
  ·rw [if_neg h,c.id n hn,if_neg h]
 ·unfold vF
  split
  ·rename_i h
   have:=c.bt n hn
   rw [h] at this
   exact hb.trans this
  ·exact c.bt n hn
theorem D7 {q:Int × Int}:iN N R (vF R q):=fun x y _ _ h=>by unfold vF; rw [h]
theorem xd {q:Int × Int}(ha:R a=q.1)(hb:R b=q.2)(hne:q.2≠q.1):vF R q a=vF R q b:=by
 unfold vF; rw [if_pos ha,hb,if_neg hne]
theorem Cf (c:Cn N R){q:Int × Int}(h1:Rg N.length q.1)(h2:Rg N.length q.2)(s:iN N R T)(h:T q.1=T q.2):iN N (vF R q) T:=by
 have key:∀x,Rg N.length x→T (vF R q x)=T x:=fun x hx=>by
  have e:T (R x)=T x:=s _ _ (c.rg x hx) hx (c.id x hx)
  unfold vF
  split
  ·rename_i h3; rw [←h,←h3,e]
  ·exact e
 intro x y hx hy he
 rw [←key x hx,←key y hy,he]
theorem Cg {p:Int × Int}{L:List (Int × Int)}(h:th N R (p::L))(Ym:Rg N.length p.1)(Yn:Rg N.length p.2)(he:R p.1=R p.2):th N R L:=fun T s hL=>h T s fun q hq=>by
 rcases aja.1 hq with rfl | hq
 ·exact s _ _ Ym Yn he
 ·exact hL q hq
theorem Ch (c:Cn N R){p q:Int × Int}{L M:List (Int × Int)}(h:th N R (p::L))(Ym:Rg N.length p.1)(Yn:Rg N.length p.2)
  (hq:(q.1=R p.1∧q.2=R p.2)∨(q.1=R p.2∧q.2=R p.1)) (hne:q.2≠q.1)
  (hM:kj N (R p.1)→kj N (R p.2)→mr (dI N (R p.1)) (dI N (R p.2))∧∀(i:Nat) (a b:Int),(dI N (R p.1)).args[i]? = some a→(dI N (R p.2)).args[i]? = some b→(a,b)∈M):th N (vF R q) (L++M):=by
 intro T s hL x y hx hy he vx vy
 have s0:iN N R T:=fun x y hx hy h=>s x y hx hy (D7 x y hx hy h)
 have g1:=c.rg _ Ym
 have g2:=c.rg _ Yn
 have tp:T p.1=T p.2:=s _ _ Ym Yn (by
  rcases hq with⟨h1,h2⟩| ⟨h1,h2⟩
  ·exact xd h1.symm h2.symm hne
  ·exact (xd h1.symm h2.symm hne).symm)
 have old:=h T s0 (fun q hq=>by
  rcases aja.1 hq with rfl | hq
  ·exact tp
  ·exact hL q (ajh _ hq))
 have mid:∀x y,Rg N.length x→Rg N.length y→R x=R p.1→R y=R p.2→kj N x→kj N y→mr (dI N x) (dI N y)∧∀(i:Nat) (a b:Int),(dI N x).args[i]? = some a→(dI N y).args[i]? = some b→T a=T b:=by
  intro x y hx hy e1 e2 vx vy
  have v1:kj N (R p.1):=e1 ▸ c.val hx vx
  have v2:kj N (R p.2):=e2 ▸ c.val hy vy
  obtain⟨t0,m0⟩:=hM v1 v2
  obtain⟨t1,m1⟩:=old x (R p.1) hx g1 (by rw [c.id _ Ym,e1]) vx v1
  obtain⟨t2,m2⟩:=old (R p.2) y g2 hy (by rw [c.id _ Yn,e2]) v2 vy
  refine⟨⟨t1.1.trans (t0.1.trans t2.1),t1.2.1.trans (t0.2.1.trans t2.2.1),t1.2.2.1.trans (t0.2.2.1.trans t2.2.2.1),t1.2.2.2.trans (t0.2.2.2.trans t2.2.2.2)⟩,fun i a b ha hb=>?_⟩
  have l1:i<(dI N (R p.1)).args.length:=by rw [←t1.2.2.2]; exact (aiO.1 ha).1
  have l2:i<(dI N (R p.2)).args.length:=by rw [←t0.2.2.2]; exact l1
  have k1:=aiN l1
  have k2:=aiN l2
  rw [m1 i _ _ ha k1,←m2 i _ _ k2 hb]
  exact hL _ (akq _ (m0 i _ _ k1 k2))
 have sym:∀x y,mr (dI N x) (dI N y)∧(∀(i:Nat) (a b:Int),(dI N x).args[i]? = some a→(dI N y).args[i]? = some b→T a=T b)→mr (dI N y) (dI N x)∧∀(i:Nat) (a b:Int),(dI N y).args[i]? = some a→(dI N x).args[i]? = some b→T a=T b:=by
  rintro x y ⟨t,m⟩
  exact⟨⟨t.1.symm,t.2.1.symm,t.2.2.1.symm,t.2.2.2.symm⟩,fun i a b ha hb=>(m i b a hb ha).symm⟩
 by_cases e:R x=R y
 ·exact old x y hx hy e vx vy
 unfold vF at he
 by_cases ex:R x=q.1<;>by_cases ey:R y=q.1
 ·exact absurd (ex.trans ey.symm) e
 ·rw [if_pos ex,if_neg ey] at he
  rcases hq with⟨h1,h2⟩| ⟨h1,h2⟩
  ·exact mid x y hx hy (ex.trans h1) (he.symm.trans h2) vx vy
  ·exact sym _ _ (mid y x hy hx (he.symm.trans h2) (ex.trans h1) vy vx)
 ·rw [if_neg ex,if_pos ey] at he
  rcases hq with⟨h1,h2⟩| ⟨h1,h2⟩
  ·exact sym _ _ (mid y x hy hx (ey.trans h1) (he.trans h2) vy vx)
  ·exact mid x y hx hy (he.trans h2) (ey.trans h1) vx vy
 ·rw [if_neg ex,if_neg ey] at he
  exact absurd he e
theorem F0 (h:th N R []):Cl N R:=fun x y hx hy e vx vy=>h R (fun _ _ _ _ h=>h) (fun _ h=>by cases h) x y hx hy e vx vy
theorem Kl {L:List (Int × Int)}(h:Cl N R)(ha:OM N):th N R L:=fun T s _ x y hx hy e vx vy=>by
 obtain⟨t,m⟩:=h x y hx hy e vx vy
 exact⟨t,fun i a b h1 h2=>s _ _ ((ha _ (iF hx)).2 a (aiS h1)) ((ha _ (iF hy)).2 b (aiS h2)) (m i a b h1 h2)⟩
end
end Go.Uf
namespace Go.Uf
open Go Go.R
open Go.IntKind (i64 u64 u8 u32)
theorem Yo (x:Int):i64.wrap x=if x % 18446744073709551616≥9223372036854775808 then x % 18446744073709551616 - 18446744073709551616 else x % 18446744073709551616:=by
 unfold IntKind.wrap; simp [IntKind.signed,IntKind.bits]
theorem kh {x:Int}(h0 : -9223372036854775808≤x)(h1:x<9223372036854775808):i64.wrap x=x:=by
 rw [Yo]; split<;>omega
theorem tJ {α:Type}{l:List α}{i:Nat}{a:α}(h:l[i]? = some a):ix l (i:Int)=some a:=by
 unfold ix; rw [if_pos (ajQ _),aiP,h]
theorem nX {α:Type}{b:Nat}{l l2:List α}(h:(l.length+l2.length)*(b+1)≤1099511627776):app b l l2=some (l++l2):=by
 unfold app; rw [if_pos h]
end Go.Uf
namespace Go.Proofs.YtifafejidnjckaaGreat
open Go Go.R Go.Uf
open Go.IntKind (i64 u64 u8 u32)
structure Inv (s:ae):Prop where
 made:s.ay=true
 len:s.an.length=s.aa.length
 max:s.aa.length≤8000
 ok:Ql s.an
 cn:Cn s.aa (rp s.an)
 args:OM s.aa
section
variable {m:Nat}{s:ae}{a b n:Int}
theorem Inv.rg (v:Inv s)(h:Rg s.aa.length n):Rg s.an.length n:=by rw [v.len]; exact h
theorem OO (v:Inv s)(h:Rg s.aa.length n):∀(k d:Nat),d≤xP s.an→xP s.an<k+d→bK.l0 m s k (kA s.an d n)=some (rp s.an n)
 | 0,d,h1,h2=>by omega
 | k+1,d,h1,h2=>by
  have hr:=AH v.ok (v.rg h) d
  simp only [bK.l0,D4 hr,aiI]
  by_cases he:lI s.an (kA s.an d n)=kA s.an d n
  ·rw [RL h1 he]
   simp [he]
  ·have hd:d<xP s.an:=by
    rcases Nat.lt_or_ge d (xP s.an) with h3 | h3
    ·exact h3
    ·have h4:d=xP s.an:=by omega
     exact absurd (h4 ▸ v.ok.rt n (v.rg h)) he
   have:=OO v h k (d+1) hd om
   simp only [kA] at this
   rw [this]
   have hb:(lI s.an (kA s.an d n)==kA s.an d n)=false:=by simpa using he
   simp [hb]
theorem AI (hm:16000≤m)(v:Inv s)(h:Rg s.aa.length n):bK.f m s n=some (rp s.an n):=by
 have h1:=D3 s.an
 have h2:=v.len
 have h3:=v.max
 have:=OO (m:=m) v h m 0 (ajm _) om
 simp only [kA] at this
 simp only [bK.f,this,aiI]
theorem D8 (h:Rg s.aa.length n):dt.f m s n=some ((dI s.aa n).kind==0):=by
 simp only [dt.f,mS h,aiI]
theorem Vm (h1:Rg s.aa.length a)(h2:Rg s.aa.length b)(hl:s.an.length=s.aa.length):ec.f m s a b=some ((mu s.aa a b).1,⟨s.ay,s.aa,s.an.set (mu s.aa a b).1.toNat (mu s.aa a b).2⟩):=by
 have i1:ix s.an a=some (lI s.an a):=D4 (by rw [hl]; exact h1)
 have i2:ix s.an b=some (lI s.an b):=D4 (by rw [hl]; exact h2)
 simp only [ec.f,jn,D8 h1,D8 h2,aiI,i1,i2]
 unfold mu kj
 by_cases ha:(dI s.aa a).kind=0<;>by_cases hb:(dI s.aa b).kind=0<;>by_cases Qf:a<b
 all_goals
  first
  | have ea:((dI s.aa a).kind==0)=true:=by simpa using ha
  | have ea:((dI s.aa a).kind==0)=false:=by simpa using ha
 all_goals
  first
  | have eb:((dI s.aa b).kind==0)=true:=by simpa using hb
  | have eb:((dI s.aa b).kind==0)=false:=by simpa using hb
 all_goals simp [ha,hb,Qf,i1,i2,ea,eb]
theorem Km:eG.f m s n=some (decide (Rg s.aa.length n)):=by
 unfold eG.f Rg
 by_cases h1:n≥0<;>by_cases h2:n<(s.aa.length:Int)<;>simp [h1,h2]
theorem Inv.join (v:Inv s)(h1:Rg s.aa.length a)(h2:Rg s.aa.length b)(r1:rp s.an a=a)(r2:rp s.an b=b)(hne:a≠b) :
  Inv ⟨s.ay,s.aa,s.an.set (mu s.aa a b).1.toNat (mu s.aa a b).2⟩∧(∀n,Rg s.aa.length n→rp (s.an.set (mu s.aa a b).1.toNat (mu s.aa a b).2) n=vF (rp s.an) (mu s.aa a b) n)∧xP (s.an.set (mu s.aa a b).1.toNat (mu s.aa a b).2)=xP s.an+1:=by
 obtain⟨hb,hq⟩:=xc (N:=s.aa) a b
 generalize mu s.aa a b=q at *
 have g:Rg s.aa.length q.1∧Rg s.aa.length q.2∧rp s.an q.1=q.1∧rp s.an q.2=q.2∧q.2≠q.1:=by
  rcases hq with⟨e1,e2⟩| ⟨e1,e2⟩
  ·rw [e1,e2]; exact⟨h1,h2,r1,r2,fun h=>hne h.symm⟩
  ·rw [e1,e2]; exact⟨h2,h1,r2,r1,hne⟩
 obtain⟨g1,g2,g3,g4,g5⟩:=g
 have s1:lI s.an q.1=q.1:=by have:=v.ok.rt _ (v.rg g1); rwa [g3] at this
 have s2:lI s.an q.2=q.2:=by have:=v.ok.rt _ (v.rg g2); rwa [g4] at this
 obtain⟨j1,j2⟩:=Uf.Yk v.ok (v.rg g1) (v.rg g2) s1 s2 g5
 have j3:∀n,Rg s.aa.length n→rp (s.an.set q.1.toNat q.2) n=vF (rp s.an) q n:=fun n hn=>j2 n (v.rg hn)
 have c:=ON v.cn g1 g2 g3 g4 g5 hb
 refine⟨⟨v.made,by show (List.set _ _ _).length=_; rw [ajw]; exact v.len,v.max,j1,⟨fun n hn=>?_,fun n hn=>?_,fun n hn=>?_⟩,v.args⟩,j3,Kk (v.rg g1) s1 g5⟩
 ·show Rg _ (rp (s.an.set q.1.toNat q.2) n)
  rw [j3 n hn]; exact c.rg n hn
 ·show rp (s.an.set q.1.toNat q.2) (rp (s.an.set q.1.toNat q.2) n)=_
  rw [j3 n hn,j3 _ (c.rg n hn),c.id n hn]
 ·show Bt _ (rp (s.an.set q.1.toNat q.2) n) n
  rw [j3 n hn]; exact c.bt n hn
theorem OP (x y:ak):∃d,ji.f m x y=some d∧(d=false↔mr x y):=by
 unfold ji.f mr
 have h5:(((x.args.length:Int)==(y.args.length:Int))=true)↔x.args.length=y.args.length:=by rw [beq_iff_eq]; omega
 by_cases h1:x.kind=y.kind
 ·by_cases h2:x.int=y.int
  ·by_cases h3:x.label.data.toList=y.label.data.toList
   ·refine⟨!((x.args.length:Int)==(y.args.length:Int)),by simp [h1,h2,h3],?_⟩
    rw [Bool.not_eq_false',h5]
    exact⟨fun h=>⟨h1,h2,h3,h⟩,fun h=>h.2.2.2⟩
   ·have h6:¬x.label.data=y.label.data:=fun h=>h3 (by rw [h])
    exact⟨true,by simp [h1,h2,h6],by simp [h6]⟩
  ·exact⟨true,by simp [h1,h2],by simp [h2]⟩
 ·exact⟨true,by simp [h1],by simp [h1]⟩
end
def Ew (p:cy):Int × Int:=(p.nW,p.pE)
def yF (a b:List Int):List cy:=(a.zip b).map fun p=>⟨p.1,p.2⟩
theorem Ci {m:Nat}{v2 v3:ak}{s:ae}(hl:v2.args.length=v3.args.length)(h8:v2.args.length≤8):∀(k:Nat) (left:List cy) (i:Nat),i≤v2.args.length→v2.args.length - i<k→left.length+8≤1000000+i→
  aQ.l1 m v2 v3 k left (i:Int) s=some (left++yF (v2.args.drop i) (v3.args.drop i),(v2.args.length:Int),s)
 | 0,left,i,h1,h2,_=>by omega
 | k+1,left,i,h1,h2,h3=>by
  simp only [aQ.l1]
  by_cases hi:i<v2.args.length
  ·have Yp:i<v3.args.length:=by omega
   have e2:=aiN hi
   have e3:=aiN Yp
   have d:decide ((i:Int)<(v2.args.length:Int))=true:=by rw [decide_eq_true_eq]; omega
   have ea:app 16 left [(⟨v2.args[i],v3.args[i]⟩:cy)]=some (left++[⟨v2.args[i],v3.args[i]⟩]):=nX (by
    simp only [aiX,ai4]; omega)
   have ew:i64.wrap ((i:Int)+1)=((i+1:Nat):Int):=by rw [kh om om]; omega
   rw [if_pos d,tJ e2,tJ e3]
   simp only [aiI,ea,ew]
   rw [Ci hl h8 k _ (i+1) om om (by simp only [aiT,aiX,ai4]; omega)]
   have e4:yF (v2.args.drop i) (v3.args.drop i)=⟨v2.args[i],v3.args[i]⟩::yF (v2.args.drop (i+1)) (v3.args.drop (i+1)):=by
    unfold yF
    rw [aiZ hi,aiZ Yp]; rfl
   rw [e4,ai7]; rfl
  ·have d:decide ((i:Int)<(v2.args.length:Int))=false:=by rw [decide_eq_false_iff_not]; omega
   have e:i=v2.args.length:=by omega
   rw [if_neg (by rw [d]; decide),e]
   simp [yF]
def Kn (s s':ae)(l:List Int):Prop:=s'.ay=s.ay∧s'.aa=s.aa∧s'.an.length=s.an.length∧(∀n∈l,Rg s.an.length n∧lI s.an n=n)∧(∀n,Rg s.an.length n→n∉l→lI s'.an n=lI s.an n)∧(∀n∈l,lI s'.an n≠n)∧l.Nodup
theorem Kn.refl (s:ae):Kn s s []:=⟨rfl,rfl,rfl,fun n h=>absurd h (by simp),fun _ _ _=>rfl,fun n h=>absurd h (by simp),by simp⟩
theorem Kn.step {s s':ae}{l:List Int}{a b:Int}(ha:Rg s.an.length a)(hr:lI s.an a=a)(hne:b≠a)(u:Kn ⟨s.ay,s.aa,s.an.set a.toNat b⟩ s' l):Kn s s' (a::l):=by
 obtain⟨u1,u2,u3,u4,u5,u6,u7⟩:=u
 have hl:(s.an.set a.toNat b).length=s.an.length:=ajw
 have hs:=D5 (b:=b) ha
 have e:∀n,Rg s.an.length n→n≠a→lI (s.an.set a.toNat b) n=lI s.an n:=fun n hn h=>by
  rw [hs,if_neg (fun e=>h (by have:=hn.1; have:=ha.1; omega))]
 refine⟨u1,u2,u3.trans hl,fun n hn=>?_,fun n hn hm=>?_,fun n hn=>?_,?_⟩
 ·rcases aja.1 hn with rfl | hn
  ·exact⟨ha,hr⟩
  ·obtain⟨g1,g2⟩:=u4 n hn
   have g1:Rg (s.an.set a.toNat b).length n:=g1
   have g2:lI (s.an.set a.toNat b) n=n:=g2
   rw [hl] at g1
   refine⟨g1,?_⟩
   by_cases h:n=a
   ·subst h; exact hr
   ·rw [e n g1 h] at g2; exact g2
 ·simp only [aja,not_or] at hm
  have:=u5 n (by show Rg (s.an.set a.toNat b).length n; rw [hl]; exact hn) hm.2
  rw [this]
  exact e n hn hm.1
 ·rcases aja.1 hn with rfl | hn
  ·by_cases hin:n∈l
   ·exact u6 n hin
   ·have:=u5 n (by show Rg (s.an.set n.toNat b).length n; rw [hl]; exact ha) hin
    rw [this]
    show lI (s.an.set n.toNat b) n≠n
    rw [hs,if_pos rfl]
    exact hne
  ·exact u6 n hn
 ·rw [List.nodup_cons]
  refine⟨fun hin=>?_,u7⟩
  have:=(u4 a hin).2
  have this:lI (s.an.set a.toNat b) a=a:=this
  rw [hs,if_pos rfl] at this
  exact hne this
def Ko (s:ae)(L:List (Int × Int))(ch:List Int):Sum ((List Int) × Bool × ae) ((List Int) × (List cy) × Int × ae)→Prop
 | .inl (OQ,b,s')=>b=false∧∃l,OQ=ch++l∧Kn s s' l∧Inv s'∧(ch++l).length≤8000∧∀T,Cl s.aa T→iN s.aa (rp s.an) T→(∀p∈L,T p.1=T p.2)→False
 | .inr (OQ,_,_,s')=>∃l,OQ=ch++l∧Kn s s' l∧Inv s'∧(ch++l).length≤8000∧Cl s.aa (rp s'.an)∧iN s.aa (rp s.an) (rp s'.an)∧(∀p∈L,rp s'.an p.1=rp s'.an p.2)∧∀T,Cl s.aa T→iN s.aa (rp s.an) T→(∀p∈L,T p.1=T p.2)→iN s.aa (rp s'.an) T
end Go.Proofs.YtifafejidnjckaaGreat
namespace Go.Uf
open Go Go.R
open Go.IntKind (i64 u64 u8 u32)
theorem iN.trans {N:List ak}{R S T:Int→Int}(a:iN N R S)(b:iN N S T):iN N R T:=fun x y hx hy h=>b x y hx hy (a x y hx hy h)
theorem iN.congr {N:List ak}{R S T:Int→Int}(e:∀n,Rg N.length n→R n=S n)(b:iN N S T):iN N R T:=fun x y hx hy h=>b x y hx hy (by rw [←e x hx,←e y hy,h])
theorem iN.OR {N:List ak}{R S T:Int→Int}(e:∀n,Rg N.length n→S n=T n)(b:iN N R S):iN N R T:=fun x y hx hy h=>by rw [←e x hx,←e y hy]; exact b x y hx hy h
theorem th.congr {N:List ak}{R S:Int→Int}{L:List (Int × Int)}(e:∀n,Rg N.length n→R n=S n)(p:th N S L):th N R L:=fun T s hL x y hx hy h=>p T (s.congr fun n hn=>(e n hn).symm) hL x y hx hy (by rw [←e x hx,←e y hy,h])
end Go.Uf
namespace Go.Proofs.YtifafejidnjckaaGreat
open Go Go.R Go.Uf
open Go.IntKind (i64 u64 u8 u32)
section
variable {s:ae}
theorem RN {ch:List Int}{left M:List cy}{i:Nat}{p:cy}{q:Int × Int}{out:Sum ((List Int) × Bool × ae) ((List Int) × (List cy) × Int × ae)}
  (v:Inv s) (hp:left[i]? = some p) (h1:Rg s.aa.length p.nW) (h2:Rg s.aa.length p.pE)
  (hq:(q.1=rp s.an p.nW∧q.2=rp s.an p.pE)∨(q.1=rp s.an p.pE∧q.2=rp s.an p.nW)) (hne:q.2≠q.1)
  (hr:∀n,Rg s.aa.length n→rp (s.an.set q.1.toNat q.2) n=vF (rp s.an) q n)
  (hM:∀T,Cl s.aa T→T (rp s.an p.nW)=T (rp s.an p.pE)→∀x∈M,T x.nW=T x.pE)
  (h:Ko ⟨s.ay,s.aa,s.an.set q.1.toNat q.2⟩ (((left++M).drop (i+1)).map Ew) (ch++[q.1]) out):Ko s ((left.drop i).map Ew) ch out:=by
 have hi:i<left.length:=(aiO.1 hp).1
 have WG:left[i]=p:=(aiO.1 hp).2
 have ed:left.drop i=p::left.drop (i+1):=by rw [aiZ hi,WG]
 have MC:(left++M).drop (i+1)=left.drop (i+1)++M:=aj4 om
 have g1:=v.cn.rg _ h1
 have g2:=v.cn.rg _ h2
 have gq:Rg s.aa.length q.1∧Rg s.aa.length q.2∧rp s.an q.1=q.1∧rp s.an q.2=q.2:=by
  rcases hq with⟨e1,e2⟩| ⟨e1,e2⟩
  ·rw [e1,e2]; exact⟨g1,g2,v.cn.id _ h1,v.cn.id _ h2⟩
  ·rw [e1,e2]; exact⟨g2,g1,v.cn.id _ h2,v.cn.id _ h1⟩
 obtain⟨q1,q2,q3,q4⟩:=gq
 have uK:lI s.an q.1=q.1:=by have:=v.ok.rt _ (v.rg q1); rwa [q3] at this
 have s01:iN s.aa (rp s.an) (rp (s.an.set q.1.toNat q.2)):=iN.OR (fun n hn=>(hr n hn).symm) D7
 have eab:rp (s.an.set q.1.toNat q.2) p.nW=rp (s.an.set q.1.toNat q.2) p.pE:=by
  rw [hr _ h1,hr _ h2]
  rcases hq with⟨e1,e2⟩| ⟨e1,e2⟩
  ·exact xd e1.symm e2.symm hne
  ·exact (xd e1.symm e2.symm hne).symm
 have OS:∀T,Cl s.aa T→iN s.aa (rp s.an) T→(∀x∈(left.drop i).map Ew,T x.1=T x.2)→iN s.aa (rp (s.an.set q.1.toNat q.2)) T∧∀x∈((left++M).drop (i+1)).map Ew,T x.1=T x.2:=by
  intro T cT sT hT
  have tp:T p.nW=T p.pE:=hT (Ew p) (by rw [ed]; simp)
  have ta:T (rp s.an p.nW)=T p.nW:=sT _ _ g1 h1 (v.cn.id _ h1)
  have tb:T (rp s.an p.pE)=T p.pE:=sT _ _ g2 h2 (v.cn.id _ h2)
  have tt:T (rp s.an p.nW)=T (rp s.an p.pE):=by rw [ta,tb,tp]
  refine⟨iN.congr hr (Cf v.cn q1 q2 sT ?_),fun x hx=>?_⟩
  ·rcases hq with⟨e1,e2⟩| ⟨e1,e2⟩
   ·rw [e1,e2]; exact tt
   ·rw [e1,e2]; exact tt.symm
  ·rw [MC,ai5] at hx
   rcases ai3.1 hx with hx | hx
   ·exact hT x (by rw [ed]; simp only [ai9]; exact aj7 _ hx)
   ·obtain⟨y,hy,rfl⟩:=ajc.1 hx
    exact hM T cT tt y hy
 match out,h with
 | .inl (OQ,b,s'),⟨hb,l,e,u,v',hl,hT⟩=>
  exact⟨hb,q.1::l,by rw [e]; simp,Kn.step (v.rg q1) uK hne u,v',by simpa using hl,fun T cT sT pT=>by
   obtain⟨k1,k2⟩:=OS T cT sT pT
   exact hT T cT k1 k2⟩
 | .inr (OQ,F3,i',s'),⟨l,e,u,v',hl,hc,hs,RP,hT⟩=>
  refine⟨q.1::l,by rw [e]; simp,Kn.step (v.rg q1) uK hne u,v',by simpa using hl,hc,s01.trans hs,fun x hx=>?_,fun T cT sT pT=>?_⟩
  ·rw [ed] at hx
   simp only [ai9] at hx
   rcases aja.1 hx with rfl | hx
   ·exact hs _ _ h1 h2 eab
   ·exact RP x (by rw [MC,ai5]; exact ajh _ hx)
  ·obtain⟨k1,k2⟩:=OS T cT sT pT
   exact hT T cT k1 k2
theorem Kp {a b:List Int}{x:cy}(h:x∈yF a b):∃i:Nat,a[i]? = some x.nW∧b[i]? = some x.pE:=by
 unfold yF at h
 obtain⟨p,hp,rfl⟩:=ajc.1 h
 obtain⟨i,hi⟩:=ajH hp
 rw [List.getElem?_zip_eq_some] at hi
 exact⟨i,hi⟩
theorem RQ {a b:List Int}{i:Nat}{x y:Int}(h1:a[i]? = some x)(h2:b[i]? = some y):(x,y)∈(yF a b).map Ew:=by
 unfold yF
 rw [List.map_map]
 refine ajc.2 ⟨(x,y),?_,rfl⟩
 exact aiS (i:=i) (List.getElem?_zip_eq_some.2 ⟨h1,h2⟩)
theorem xe {m:Nat}(hm:16000≤m):∀(k:Nat) (s:ae) (ch:List Int) (left:List cy) (i:Nat),i≤left.length→9*(s.aa.length - xP s.an)+(left.length - i)<k→left.length≤1+8*xP s.an→ch.length≤xP s.an→Inv s→
  (∀p∈left,Rg s.aa.length p.nW∧Rg s.aa.length p.pE)→th s.aa (rp s.an) ((left.drop i).map Ew)→∃out,aQ.l0 m k ch left (i:Int) s=some out∧Ko s ((left.drop i).map Ew) ch out
 | 0,s,ch,left,i,h1,h2,h3,h4,v,hin,hp=>by omega
 | k+1,s,ch,left,i,h1,h2,h3,h4,v,hin,hp=>by
  have n1:=D3 s.an
  have n2:=v.len
  have n3:=v.max
  simp only [aQ.l0]
  by_cases hi:i<left.length
  rotate_left
  ·have d:decide ((i:Int)<(left.length:Int))=false:=by rw [decide_eq_false_iff_not]; omega
   rw [if_neg (by rw [d]; decide)]
   have hd:left.drop i=[]:=ajL om
   rw [hd] at hp ⊢
   exact⟨_,rfl,[],by simp,Kn.refl s,v,by simp; omega,F0 hp,fun _ _ _ _ h=>h,fun x hx=>by simp at hx,fun T _ s _=>s⟩
  have d:decide ((i:Int)<(left.length:Int))=true:=by rw [decide_eq_true_eq]; omega
  have ep:=aiN hi
  generalize left[i]=p at ep
  obtain⟨ra,rb⟩:=hin p (aiS ep)
  have ed:left.drop i=p::left.drop (i+1):=by
   rw [aiZ hi]; congr 1
   exact (aiO.1 ep).2
  have ew:i64.wrap ((i:Int)+1)=((i+1:Nat):Int):=by rw [kh om om]; omega
  rw [if_pos d,tJ ep]
  simp only [aiI,AI hm v ra,AI hm v rb,ew]
  have ga:=v.cn.rg _ ra
  have gb:=v.cn.rg _ rb
  have RP:th s.aa (rp s.an) (Ew p::(left.drop (i+1)).map Ew):=by rw [ed] at hp; exact hp
  by_cases he:rp s.an p.nW=rp s.an p.pE
  ·have c1:(rp s.an p.nW==rp s.an p.nW&&rp s.an p.pE==rp s.an p.nW)=true:=by simp [he]
   rw [if_pos c1]
   obtain⟨out,e1,e2⟩:=xe hm k s ch left (i+1) om om h3 h4 v hin (Cg RP ra rb he)
   refine⟨out,e1,?_⟩
   match out,e2 with
   | .inl (OQ,b,s'),⟨hb,l,e,u,v',hl,hT⟩=>
    exact⟨hb,l,e,u,v',hl,fun T cT sT pT=>hT T cT sT fun x hx=>pT x (by rw [ed]; simp only [ai9]; exact aj7 _ hx)⟩
   | .inr (OQ,F3,i',s'),⟨l,e,u,v',hl,hc,hs,hq,hT⟩=>
    refine⟨l,e,u,v',hl,hc,hs,fun x hx=>?_,fun T cT sT pT=>hT T cT sT fun x hx=>pT x (by rw [ed]; simp only [ai9]; exact aj7 _ hx)⟩
    rw [ed] at hx
    simp only [ai9] at hx
    rcases aja.1 hx with rfl | hx
    ·exact hs _ _ ra rb he
    ·exact hq x hx
  ·have c1:¬(rp s.an p.nW==rp s.an p.nW&&rp s.an p.pE==rp s.an p.nW)=true:=by
    simp only [aj8,ajC,beq_iff_eq]; exact fun h=>he h.symm
   rw [if_neg c1]
   simp only [mS ga,mS gb,aiI]
   obtain⟨jv,jr,jn⟩:=v.join ga gb (v.cn.id _ ra) (v.cn.id _ rb) he
   have ej:=Vm (m:=m) ga gb v.len
   obtain⟨ob,oq⟩:=xc (N:=s.aa) (rp s.an p.nW) (rp s.an p.pE)
   have hne:(mu s.aa (rp s.an p.nW) (rp s.an p.pE)).2≠(mu s.aa (rp s.an p.nW) (rp s.an p.pE)).1:=by
    rcases oq with⟨e1,e2⟩| ⟨e1,e2⟩
    ·rw [e1,e2]; exact fun h=>he h.symm
    ·rw [e1,e2]; exact he
   generalize mu s.aa (rp s.an p.nW) (rp s.an p.pE)=q at *
   have Vn:(q.1=rp s.an p.nW∧q.2=rp s.an p.pE)∨(q.1=rp s.an p.pE∧q.2=rp s.an p.nW):=oq
   have n4:=D3 (s.an.set q.1.toNat q.2)
   rw [ajw,jn] at n4
   have Yq:∀M:List cy,M.length≤8→(∀x∈M,Rg s.aa.length x.nW∧Rg s.aa.length x.pE)→
     (∀T,Cl s.aa T→T (rp s.an p.nW)=T (rp s.an p.pE)→∀x∈M,T x.nW=T x.pE)→
     (kj s.aa (rp s.an p.nW)→kj s.aa (rp s.an p.pE)→mr (dI s.aa (rp s.an p.nW)) (dI s.aa (rp s.an p.pE))∧∀(i:Nat) (a b:Int),(dI s.aa (rp s.an p.nW)).args[i]? = some a→(dI s.aa (rp s.an p.pE)).args[i]? = some b→(a,b)∈M.map Ew)→
     ∃out,((app 8 ch [q.1]).bind fun x=>aQ.l0 m k x (left++M) ((i+1:Nat):Int) ⟨s.ay,s.aa,s.an.set q.1.toNat q.2⟩)=some out∧Ko s ((left.drop i).map Ew) ch out:=by
    intro M hM8 hMr hMT hMv
    rw [nX (by simp only [aiX,ai4]; omega),aiI]
    have MC:((left++M).drop (i+1)).map Ew=(left.drop (i+1)).map Ew++M.map Ew:=by
     rw [aj4 om,ai5]
    have jn:xP (s.an.set q.1.toNat q.2)=xP s.an+1:=jn
    obtain⟨out,e1,e2⟩:=xe hm k ⟨s.ay,s.aa,s.an.set q.1.toNat q.2⟩ (ch++[q.1]) (left++M) (i+1) (by rw [aiT]; omega)
     (by show 9*(s.aa.length - xP (s.an.set q.1.toNat q.2))+_<k; rw [jn,aiT]; omega) (by show _≤1+8*xP (s.an.set q.1.toNat q.2); rw [jn,aiT]; omega)
     (by show _≤xP (s.an.set q.1.toNat q.2); rw [jn,aiT]; simp only [aiX,ai4]; omega) jv
     (fun x hx=>(ai3.1 hx).elim (hin x) (hMr x)) (by
      rw [MC]
      exact th.congr jr (Ch v.cn (p:=Ew p) RP ra rb Vn hne hMv))
    exact⟨out,e1,RN v ep ra rb Vn hne jr hMT e2⟩
   have H3:=Yq [] (by simp) (fun x hx=>by simp at hx) (fun T _ _ x hx=>by simp at hx)
   rw [ajJ] at H3
   by_cases k1:(dI s.aa (rp s.an p.nW)).kind=0
   ·have b1:(!((dI s.aa (rp s.an p.nW)).kind==(0:Int)))=false:=by rw [k1]; rfl
    rw [b1,if_neg (by decide),ej]
    exact H3 fun h=>absurd k1 h
   have b1:(!((dI s.aa (rp s.an p.nW)).kind==(0:Int)))=true:=by simpa using k1
   rw [b1,if_pos rfl]
   by_cases k2:(dI s.aa (rp s.an p.pE)).kind=0
   ·have b2:(!((dI s.aa (rp s.an p.pE)).kind==(0:Int)))=false:=by rw [k2]; rfl
    rw [b2,if_neg (by decide),ej]
    exact H3 fun _ h=>absurd k2 h
   have b2:(!((dI s.aa (rp s.an p.pE)).kind==(0:Int)))=true:=by simpa using k2
   rw [b2,if_pos rfl]
   obtain⟨df,ed1,MC⟩:=OP (m:=m) (dI s.aa (rp s.an p.nW)) (dI s.aa (rp s.an p.pE))
   rw [ed1,aiI]
   cases df with
   | true=>
    refine⟨_,rfl,rfl,[],by simp,Kn.refl s,v,by simp; omega,fun T cT sT pT=>?_⟩
    have tp:T p.nW=T p.pE:=pT (Ew p) (by rw [ed]; simp)
    have ta:T (rp s.an p.nW)=T p.nW:=sT _ _ ga ra (v.cn.id _ ra)
    have tb:T (rp s.an p.pE)=T p.pE:=sT _ _ gb rb (v.cn.id _ rb)
    have:=(cT _ _ ga gb (by rw [ta,tb,tp]) k1 k2).1
    have:=MC.2 this
    cases this
   | false=>
    have tp:=MC.1 rfl
    have a8:=(v.args _ (iF ga)).1
    have el:aQ.l1 m (dI s.aa (rp s.an p.nW)) (dI s.aa (rp s.an p.pE)) m left 0 s=some (left++yF ((dI s.aa (rp s.an p.nW)).args.drop 0) ((dI s.aa (rp s.an p.pE)).args.drop 0),((dI s.aa (rp s.an p.nW)).args.length:Int),s):=Ci tp.2.2.2 a8 m left 0 (ajm _) om om
    rw [if_neg (by decide),el]
    simp only [aiI,aji,ej]
    refine Yq (yF (dI s.aa (rp s.an p.nW)).args (dI s.aa (rp s.an p.pE)).args) ?_ (fun x hx=>?_) (fun T cT hT x hx=>?_) (fun _ _=>⟨tp,fun i a b ha hb=>RQ ha hb⟩)
    ·unfold yF; rw [aiY,List.length_zip]; omega
    ·obtain⟨j,j1,j2⟩:=Kp hx
     exact⟨(v.args _ (iF ga)).2 _ (aiS j1),(v.args _ (iF gb)).2 _ (aiS j2)⟩
    ·obtain⟨j,j1,j2⟩:=Kp hx
     exact (cT _ _ ga gb hT k1 k2).2 j _ _ j1 j2
end
section
variable {m:Nat}{s s':ae}
theorem xf {a b:ae}(h1:a.ay=b.ay)(h2:a.aa=b.aa)(h3:a.an=b.an):a=b:=by
 cases a; cases b; cases h1; cases h2; cases h3; rfl
theorem Vo {a b:List Int}(hl:a.length=b.length)(h:∀n,Rg b.length n→lI a n=lI b n):a=b:=by
 refine ajG fun i=>?_
 by_cases hi:i<b.length
 ·have r:Rg b.length (i:Int):=⟨ajQ _,om⟩
  have e1:=yY (to:=b) r
  have e2:=yY (to:=a) (n:=(i:Int)) (by rw [hl]; exact r)
  rw [aiP] at e1 e2
  rw [e1,e2,h _ r]
 ·rw [ai8 om,ai8 om]
theorem Kq (l:List Int)(hl:l.length≤8000)(s:ae)(hs:∀n∈l,Rg s.an.length n∧lI s.an n=n):∀(k:Nat) (i:Nat) (s':ae),i≤l.length→l.length - i<k→s'.ay=s.ay→s'.aa=s.aa→s'.an.length=s.an.length→(∀n,Rg s.an.length n→n∉l.drop i→lI s'.an n=lI s.an n)→
  bU.l0 m l k (i:Int) s'=some ((l.length:Int),s)
 | 0,i,s',h1,h2,_,_,_,_=>by omega
 | k+1,i,s',h1,h2,e1,e2,e3,h=>by
  simp only [bU.l0]
  by_cases hi:i<l.length
  ·have d:decide ((i:Int)<(l.length:Int))=true:=by rw [decide_eq_true_eq]; omega
   have el:=aiN hi
   have ed:l.drop i=l[i]::l.drop (i+1):=aiZ hi
   generalize l[i]=n at el ed
   obtain⟨rn,sn⟩:=hs n (aiS el)
   have rn':Rg s'.an.length n:=by rw [e3]; exact rn
   have ew:i64.wrap ((i:Int)+1)=((i+1:Nat):Int):=by rw [kh om om]; omega
   rw [if_pos d,tJ el]
   simp only [aiI,D4 rn',ew]
   refine Kq l hl s hs k (i+1) _ om om e1 e2 (by show (List.set _ _ _).length=_; rw [ajw,e3]) (fun x hx hm=>?_)
   show lI (s'.an.set n.toNat n) x=_
   rw [D5 rn']
   by_cases he:x.toNat=n.toNat
   ·have:x=n:=by have:=hx.1; have:=rn.1; omega
    rw [if_pos he,this,sn]
   ·rw [if_neg he]
    refine h x hx ?_
    rw [ed]
    simp only [aja,not_or]
    exact⟨fun e=>he (by rw [e]),hm⟩
  ·have d:decide ((i:Int)<(l.length:Int))=false:=by rw [decide_eq_false_iff_not]; omega
   rw [if_neg (by rw [d]; decide)]
   have hd:l.drop i=[]:=ajL om
   have:s'=s:=xf e1 e2 (Vo e3 fun n hn=>h n hn (by rw [hd]; simp))
   rw [this]
   congr 2; omega
theorem OU (hm:16000≤m){l:List Int}(hl:l.length≤8000)(u:Kn s s' l):bU.f m s' l=some s:=by
 obtain⟨u1,u2,u3,u4,u5,_⟩:=u
 have:=Kq (m:=m) l hl s u4 m 0 s' (ajm _) om u1 u2 u3 (by rw [aji]; exact u5)
 have this:bU.l0 m l m 0 s'=some ((l.length:Int),s):=this
 simp only [bU.f,this,aiI]
theorem F4 {f:Int→Option Bool}{g:Int→Bool}(l:List Int)(hl:l.length≤1000000)(hf:∀x∈l,f x=some (g x)):∀(k i:Nat),i≤l.length→l.length - i<k→
  (∃j:Nat,eO.l0 m l f k (i:Int)=some (.inl (j:Int))∧i≤j∧j<l.length∧(∀x,l[j]? = some x→g x=true)∧∀q,i≤q→q<j→∀x,l[q]? = some x→g x=false)∨
  (∃z,eO.l0 m l f k (i:Int)=some (.inr z)∧∀q,i≤q→∀x,l[q]? = some x→g x=false)
 | 0,i,h1,h2=>by omega
 | k+1,i,h1,h2=>by
  simp only [eO.l0]
  by_cases hi:i<l.length
  ·have d:decide ((i:Int)<(l.length:Int))=true:=by rw [decide_eq_true_eq]; omega
   have el:=aiN hi
   generalize l[i]=n at el
   have ew:i64.wrap ((i:Int)+1)=((i+1:Nat):Int):=by rw [kh om om]; omega
   rw [if_pos d,tJ el]
   simp only [aiI,hf n (aiS el),ew]
   cases hg:g n with
   | true=>
    left
    refine⟨i,by simp,aiQ _,hi,fun x hx=>?_,fun q h3 h4=>by omega⟩
    rw [el] at hx; cases hx; exact hg
   | false=>
    rw [if_neg (by decide)]
    have lI:∀q,i≤q→q≠i→i+1≤q:=fun q h3 h4=>by omega
    rcases F4 l hl hf k (i+1) om om with⟨j,e,j1,j2,j3,j4⟩| ⟨z,e,j4⟩
    ·left
     refine⟨j,e,om,j2,j3,fun q h3 h4 x hx=>?_⟩
     by_cases hq:q=i
     ·subst hq; rw [el] at hx; cases hx; exact hg
     ·exact j4 q (lI q h3 hq) h4 x hx
    ·right
     refine⟨z,e,fun q h3 x hx=>?_⟩
     by_cases hq:q=i
     ·subst hq; rw [el] at hx; cases hx; exact hg
     ·exact j4 q (lI q h3 hq) x hx
  ·have d:decide ((i:Int)<(l.length:Int))=false:=by rw [decide_eq_false_iff_not]; omega
   rw [if_neg (by rw [d]; decide)]
   right
   refine⟨_,rfl,fun q h3 x hx=>?_⟩
   rw [ai8 om] at hx; cases hx
theorem Kr {f:Int→Option Bool}{g:Int→Bool}(hm:2000000≤m)(l:List Int)(hl:l.length≤1000000)(hf:∀x∈l,f x=some (g x)) :
  (∃j:Nat,eO.f m l f=some (j:Int)∧j<l.length∧(∀x,l[j]? = some x→g x=true)∧∀q,q<j→∀x,l[q]? = some x→g x=false)∨
  (eO.f m l f=some (-1)∧∀x∈l,g x=false):=by
 rcases F4 (m:=m) l hl hf m 0 (ajm _) om with⟨j,e,j1,j2,j3,j4⟩| ⟨z,e,j4⟩
 ·left
  have e:eO.l0 m l f m 0=_:=e
  refine⟨j,by simp only [eO.f,e,aiI],j2,j3,fun q=>j4 q (ajm _)⟩
 ·right
  have e:eO.l0 m l f m 0=_:=e
  refine⟨by simp only [eO.f,e,aiI],fun x hx=>?_⟩
  obtain⟨q,hq⟩:=ajH hx
  exact j4 q (ajm _) x hq
theorem AJ {f:Int→Option Bool}{g:Int→Bool}(hm:2000000≤m)(l:List Int)(hl:l.length≤1000000)(hf:∀x∈l,f x=some (g x)):il.f m l f=some (l.any g):=by
 unfold il.f
 rcases Kr hm l hl hf with⟨j,e,j1,j2,_⟩| ⟨e,h⟩
 ·rw [e,aiI]
  have h1:=aiN j1
  have:l.any g=true:=List.any_eq_true.2 ⟨_,aiS h1,j2 _ h1⟩
  rw [this]
  rw [show decide ((j:Int)≥0)=true by rw [decide_eq_true_eq]; omega]
 ·rw [e,aiI]
  have:l.any g=false:=by
   rw [List.any_eq_false]
   intro x hx; simp [h x hx]
  rw [this]; rfl
theorem sS (hm:2000000≤m)(hs:s.ay=true)(l:List Int)(hl:l.length≤1000000):cQ.f m s l=some (if l.all (fun n=>decide (Rg s.aa.length n)) then 0 else 1):=by
 unfold cQ.f cH.f
 rw [hs]
 simp only [aiI,ajA,aiW,if_false]
 rw [AJ hm l hl (g:=fun n=>!decide (Rg s.aa.length n)) (fun x _=>by simp only [eZ.f,Km,aiI])]
 rw [aiI]
 have:(l.any fun n=>!decide (Rg s.aa.length n)) = !(l.all fun n=>decide (Rg s.aa.length n)):=by
  induction l with
  | nil=>rfl
  | cons a l ih=>simp only [List.any_cons,ajB,Bool.not_and,ih (by simp only [aiX] at hl; omega)]
 rw [this]
 cases (l.all fun n=>decide (Rg s.aa.length n))<;>rfl
end
end Go.Proofs.YtifafejidnjckaaGreat
namespace Go.R
open Go
open Go.IntKind (i64 u64 u8 u32)
theorem OV (x:Int):u64.wrap x=x % 18446744073709551616:=by
 unfold IntKind.wrap; simp [IntKind.signed,IntKind.bits]
theorem Vp {x:Int}(h0:0≤x)(h1:x<18446744073709551616):u64.wrap x=x:=by
 rw [OV,Int.emod_eq_of_lt h0 h1]
theorem OW (x:Int):i64.wrap x=if x % 18446744073709551616≥9223372036854775808 then x % 18446744073709551616 - 18446744073709551616 else x % 18446744073709551616:=by
 unfold IntKind.wrap; simp [IntKind.signed,IntKind.bits]
theorem bL {x:Int}(h0 : -9223372036854775808≤x)(h1:x<9223372036854775808):i64.wrap x=x:=by
 rw [OW]; split<;>omega
end Go.R
namespace Go.Proofs.YtifafejidnjckaaGreat
open Go Go.R
open Go.IntKind (i64 u64 u8 u32)
def gt (l:List Int)(k:Nat):Int:=l.getD k 0
theorem cz {l:List Int}{k:Nat}(h:k<l.length):l[k]? = some (gt l k):=by
 unfold gt; rw [ai2,aiN h]; rfl
theorem bC {l:List Int}{k:Nat}(h:k<l.length):gt l k∈l:=aiS (cz h)
theorem er {l:List Int}{k:Nat}(h:k<l.length):ix l (k:Int)=some (gt l k):=by
 unfold ix; rw [if_pos om,aiP,cz h]
theorem iV {l:List Int}{i:Int}{k:Nat}(hi:i=(k:Int))(h:k<l.length):ix l i=some (gt l k):=by rw [hi,er h]
theorem iG {l:List Int}{i k:Nat}{x:Int}(hi:i<l.length):gt (l.set i x) k=if k=i then x else gt l k:=by
 unfold gt
 simp only [ai2,aj9]
 by_cases h:i=k
 ·subst h; simp [hi]
 ·rw [if_neg h,if_neg om]
theorem H4 {l r:List Int}(hl:l.length=r.length)(h:∀k,k<l.length→gt l k=gt r k):l=r:=by
 apply ajG fun k=>?_
 by_cases hk:k<l.length
 ·rw [cz hk,cz (hl ▸ hk),h k hk]
 ·rw [ai8 om,ai8 om]
def swp (l:List Int)(i j:Nat):List Int:=(l.set i (gt l j)).set j (gt l i)
theorem vK {l:List Int}{i j:Nat}(hi:i<l.length)(hj:j<l.length):(swp l i j).Perm l:=by
 have h1:gt l j=l[j]:=by have:=cz hj; rw [aiN hj] at this; exact (ajn this).symm
 have h2:gt l i=l[i]:=by have:=cz hi; rw [aiN hi] at this; exact (ajn this).symm
 unfold swp; rw [h1,h2]; exact List.set_set_perm hi hj
theorem qG {l:List Int}{i j k:Nat}(hi:i<l.length)(hj:j<l.length):gt (swp l i j) k=if k=j then gt l i else if k=i then gt l j else gt l k:=by
 unfold swp
 rw [iG (by simpa using hj),iG hi]
theorem AK {l:List Int}{i j:Nat}:(swp l i j).length=l.length:=by simp [swp]
theorem F5 {a b:Nat}(h:a+b<9223372036854775808):i64.wrap (mN .u64 (u64.wrap (i64.wrap ((a:Int)+(b:Int)))) 1)=(((a+b) / 2:Nat):Int):=by
 rw [bL (x:=(a:Int)+b) om om,Vp om om]
 have:mN .u64 ((a:Int)+(b:Int)) 1=(((a+b) / 2:Nat):Int):=by
  unfold mN
  rw [Int.fdiv_eq_ediv_of_nonneg _ (by decide)]
  show ((a:Int)+(b:Int)) / 2=_
  omega
 rw [this,bL om om]
theorem OX {m:Nat}{l:List Int}{a b n:Nat}(h1:a+n≤b)(h2:b+n≤l.length)(hl:l.length<2 ^ 40):∀(f i:Nat) (d:List Int),n - i<f→i≤n→d.Perm l→
  (∀k,gt d k=if a≤k∧k<a+i then gt l (k - a+b) else if b≤k∧k<b+i then gt l (k - b+a) else gt l k)→
  ∃d' x,dr.l0 m (a:Int) (b:Int) (n:Int) f d (i:Int)=some (d',x)∧d'.Perm l∧(∀k,gt d' k=if a≤k∧k<a+n then gt l (k - a+b) else if b≤k∧k<b+n then gt l (k - b+a) else gt l k)
 | 0,i,d,hf,_,_,_=>absurd hf om
 | f+1,i,d,hf,hi,hp,hg=>by
  have Bf:(2:Nat) ^ 40=1099511627776:=by decide
  have iC:=hp.length_eq
  unfold dr.l0
  by_cases h:i<n
  ·have e1:i64.wrap ((b:Int)+(i:Int))=((b+i:Nat):Int):=by rw [bL om om]; omega
   have e2:i64.wrap ((a:Int)+(i:Int))=((a+i:Nat):Int):=by rw [bL om om]; omega
   have e3:i64.wrap ((i:Int)+1)=((i+1:Nat):Int):=by rw [bL om om]; omega
   rw [if_pos (by simp; omega),e1,e2,e3,er om,er om,aiP,aiP,aiI,aiI,aiI,er (by simp; omega),aiI]
   show ∃d' x,dr.l0 m (a:Int) (b:Int) (n:Int) f (swp d (a+i) (b+i)) ((i+1:Nat):Int)=some (d',x)∧_
   refine OX h1 h2 hl f (i+1) _ om om ((vK om om).trans hp) fun k=>?_
   rw [qG om om,hg,hg,hg]
   by_cases k1:k=b+i
   ·subst k1
    rw [if_pos rfl,if_neg om,if_neg om,if_neg om,if_pos om]
    congr 1; omega
   ·rw [if_neg k1]
    by_cases k2:k=a+i
    ·subst k2
     rw [if_pos rfl,if_neg om,if_neg om,if_pos om]
     congr 1; omega
    ·rw [if_neg k2]
     by_cases k3:a≤k∧k<a+i
     ·rw [if_pos k3,if_pos om]
     ·rw [if_neg k3,if_neg (show ¬(a≤k∧k<a+(i+1)) by omega)]
      by_cases k4:b≤k∧k<b+i
      ·rw [if_pos k4,if_pos om]
      ·rw [if_neg k4,if_neg om]
  ·have:i=n:=by omega
   subst this
   exact⟨d,i,by rw [if_neg (by simp)],hp,hg⟩
theorem AL {m:Nat}{l:List Int}{a b n:Nat}{cmp:Int→Int→Option Int}(h1:a+n≤b)(h2:b+n≤l.length)(hl:l.length<2 ^ 40)(hm:n<m) :
  ∃d',dr.f m l (a:Int) (b:Int) (n:Int) cmp=some d'∧d'.Perm l∧(∀k,gt d' k=if a≤k∧k<a+n then gt l (k - a+b) else if b≤k∧k<b+n then gt l (k - b+a) else gt l k):=by
 obtain⟨d',x,e,hp,hg⟩:=OX (m:=m) h1 h2 hl m 0 l om om (List.Perm.refl _) (fun k=>by rw [if_neg om,if_neg om])
 have e:dr.l0 m (a:Int) (b:Int) (n:Int) m l 0=_:=e
 exact⟨d',by unfold dr.f; rw [e]; rfl,hp,hg⟩
def Wg (l d:List Int)(p i j:Nat):Prop:=d.Perm l∧(∀k,k<j→gt d (p+k)=gt l (p+i+k))∧(∀k,k<i→gt d (p+j+k)=gt l (p+k))∧∀k,k<p∨p+i+j≤k→gt d k=gt l k
theorem H5 {m:Nat}{q:Nat}{cmp:Int→Int→Option Int}(hm:2 ^ 41≤m):∀(f i j:Nat) (l:List Int),i+j<f→0<i→0<j→i≤q→q+j≤l.length→l.length<2 ^ 40→
  ∃(d':List Int) (x:Nat) (d:List Int),iX.l0 m (q:Int) cmp f l (i:Int) (j:Int)=some (d',(x:Int),(x:Int))∧dr.f m d' (i64.wrap ((q:Int) - (x:Int))) (q:Int) (x:Int) cmp=some d∧Wg l d (q - i) i j
 | 0,i,j,l,hf,_,_,_,_,_=>absurd hf om
 | f+1,i,j,l,hf,hi,hj,hq,hl,hs=>by
  have Bf:(2:Nat) ^ 40=1099511627776:=by decide
  have yG:(2:Nat) ^ 41=2199023255552:=by decide
  unfold iX.l0
  have e1:i64.wrap ((q:Int) - (i:Int))=((q - i:Nat):Int):=by rw [bL om om]; omega
  by_cases h:i=j
  ·subst h
   rw [if_neg (by simp)]
   obtain⟨d,e,hp,hg⟩:=AL (m:=m) (l:=l) (a:=q - i) (b:=q) (n:=i) (cmp:=cmp) om om hs om
   refine⟨l,i,d,rfl,by rw [e1,e],hp,fun k hk=>?_,fun k hk=>?_,fun k hk=>?_⟩
   ·rw [hg,if_pos om]; congr 1; omega
   ·rw [hg,if_neg om,if_pos om]; congr 1; omega
   ·rw [hg,if_neg om,if_neg om]
  ·rw [if_pos (by simp; omega)]
   by_cases h2:j<i
   ·obtain⟨d1,e,hp,hg⟩:=AL (m:=m) (l:=l) (a:=q - i) (b:=q) (n:=j) (cmp:=cmp) om om hs om
    have hd:=hp.length_eq
    have e2:i64.wrap ((i:Int) - (j:Int))=((i - j:Nat):Int):=by rw [bL om om]; omega
    rw [if_pos (by simp; omega),e1,e,aiI,e2]
    obtain⟨d',x,d,k1,k2,k3,k4,k5,k6⟩:=H5 (q:=q) (cmp:=cmp) hm f (i - j) j d1 om om hj om om om
    refine⟨d',x,d,k1,k2,k3.trans hp,fun k hk=>?_,fun k hk=>?_,fun k hk=>?_⟩
    ·rw [k6 _ om,hg,if_pos om]; congr 1; omega
    ·by_cases Wh:k<j
     ·have:=k4 k Wh
      rw [show q - (i - j)+k=q - i+j+k by omega,hg,if_neg om,if_pos om] at this
      rw [this]; congr 1; omega
     ·have:=k5 (k - j) om
      rw [show q - (i - j)+j+(k - j)=q - i+j+k by omega,hg,if_neg om,if_neg om] at this
      rw [this]; congr 1; omega
    ·rw [k6 _ om,hg,if_neg om,if_neg om]
   ·have e2:i64.wrap (i64.wrap ((q:Int)+(j:Int)) - (i:Int))=((q+j - i:Nat):Int):=by rw [bL (x:=(q:Int)+j) om om,bL om om]; omega
    have e3:i64.wrap ((j:Int) - (i:Int))=((j - i:Nat):Int):=by rw [bL om om]; omega
    obtain⟨d1,e,hp,hg⟩:=AL (m:=m) (l:=l) (a:=q - i) (b:=q+j - i) (n:=i) (cmp:=cmp) om om hs om
    have hd:=hp.length_eq
    rw [if_neg (by simp; omega),e1,e2,e,aiI,e3]
    obtain⟨d',x,d,k1,k2,k3,k4,k5,k6⟩:=H5 (q:=q) (cmp:=cmp) hm f i (j - i) d1 om hi om hq om om
    refine⟨d',x,d,k1,k2,k3.trans hp,fun k hk=>?_,fun k hk=>?_,fun k hk=>?_⟩
    ·by_cases Wh:k<j - i
     ·rw [k4 k Wh,hg,if_neg om,if_neg om]
     ·have:=k5 (k - (j - i)) om
      rw [show q - i+(j - i)+(k - (j - i))=q - i+k by omega,hg,if_pos om] at this
      rw [this]; congr 1; omega
    ·rw [k6 _ om,hg,if_neg om,if_pos om]; congr 1; omega
    ·rw [k6 _ om,hg,if_neg om,if_neg om]
theorem OY {m:Nat}{a q b:Nat}{cmp:Int→Int→Option Int}{l:List Int}(hm:2 ^ 41≤m)(h1:a<q)(h2:q<b)(h3:b≤l.length)(hs:l.length<2 ^ 40) :
  ∃d,iX.f m l (a:Int) (q:Int) (b:Int) cmp=some d∧Wg l d a (q - a) (b - q):=by
 have Bf:(2:Nat) ^ 40=1099511627776:=by decide
 have yG:(2:Nat) ^ 41=2199023255552:=by decide
 obtain⟨d',x,d,k1,k2,k3⟩:=H5 (q:=q) (cmp:=cmp) hm m (q - a) (b - q) l om om om om om hs
 rw [show q - (q - a)=a by omega] at k3
 refine⟨d,?_,k3⟩
 unfold iX.f
 rw [show i64.wrap ((q:Int) - (a:Int))=((q - a:Nat):Int) by rw [bL om om]; omega,show i64.wrap ((b:Int) - (q:Int))=((b - q:Nat):Int) by rw [bL om om]; omega,k1,aiI]
 dsimp only
 rw [k2]; rfl
def kJ (c:Int):Bool:=decide (97≤c∧c≤122)||decide (65≤c∧c≤90)||decide (48≤c∧c≤57)||c==95
theorem F6 {m:Nat}(c:Int):jK.f m c=some (kJ c):=by
 unfold jK.f
 by_cases h1:97≤c<;>by_cases h2:c≤122<;>by_cases h3:65≤c<;>by_cases h4:c≤90<;>by_cases h5:48≤c<;>by_cases h6:c≤57<;>simp [kJ,h1,h2,h3,h4,h5,h6]<;>omega
theorem yZ {s:ByteArray}{i:Nat}(h:i<s.size):∃c:UInt8,s.data.toList[i]? = some c∧bt s (i:Int)=some (c.toNat:Int):=by
 have h':i<s.data.toList.length:=by simpa using h
 refine⟨s.data.toList[i],aiN h',?_⟩
 unfold bt; rw [if_pos om,aiP,aiN h']; rfl
theorem Ks {m:Nat}{s:ByteArray}(hs:s.size≤16):∀(f i:Nat),s.size - i<f→i≤s.size→
  ∃o,eU.l0 m s f (i:Int)=some o∧((∃x,o = .inr x)∧((s.data.toList.drop i).all fun c=>kJ (c.toNat:Int))=true∨o = .inl false∧((s.data.toList.drop i).all fun c=>kJ (c.toNat:Int))=false)
 | 0,i,hf,_=>absurd hf om
 | f+1,i,hf,hi=>by
  unfold eU.l0
  by_cases h:i<s.size
  ·obtain⟨c,hc,hb⟩:=yZ h
   obtain⟨h4,h5⟩:=aiO.1 hc
   have hd:s.data.toList.drop i=c::s.data.toList.drop (i+1):=by rw [←h5]; exact aiZ h4
   rw [if_pos dm,hb,aiI,F6,aiI,hd,ajB]
   cases hl:kJ (c.toNat:Int) with
   | false=>exact⟨_,rfl,.inr ⟨rfl,rfl⟩⟩
   | true=>
    obtain⟨o,h1,h2⟩:=Ks (m:=m) hs f (i+1) om om
    rw [if_neg (by simp),bL om om,show (i:Int)+1=((i+1:Nat):Int) by omega,h1]
    exact⟨o,rfl,by simpa using h2⟩
  ·refine⟨_,by rw [if_neg dm],.inl ⟨⟨_,rfl⟩,?_⟩⟩
   rw [ajL (by simp; omega)]; rfl
def F7 (s:ByteArray)(lo hi:Int):Bool:=match s.data.toList with
 | []=>false
 | c::cs=>decide (cs.length≤15)&&decide (lo≤(c.toNat:Int))&&decide ((c.toNat:Int)≤hi)&&((c::cs).all fun c=>kJ (c.toNat:Int))
theorem LZ {m:Nat}(hm:20≤m)(s:ByteArray)(lo hi:Int):eU.f m s lo hi=some (F7 s lo hi):=by
 have hsz:s.size=s.data.toList.length:=by simp
 unfold eU.f F7
 cases hl:s.data.toList with
 | nil=>rw [if_pos (by rw [hl,ai4] at hsz; simp only [decide_eq_true_eq]; omega)]
 | cons c cs=>
  rw [hl,aiX] at hsz
  rw [if_neg dm]
  dsimp only
  by_cases h16:cs.length≤15
  ·obtain⟨c',h1,h2⟩:=yZ (s:=s) (i:=0) om
   rw [hl] at h1
   simp only [ajx,aiL] at h1
   subst h1
   have h2:bt s 0=_:=h2
   rw [if_neg dm,h2,aiI]
   by_cases h3:(c.toNat:Int)<lo
   ·rw [if_pos (by simpa using h3)]
    simp only [aiL]
    rw [show decide (lo≤(c.toNat:Int))=false by simp; omega]; simp
   rw [if_neg (by simpa using h3),aiI]
   by_cases h4:(c.toNat:Int) > hi
   ·rw [if_pos (by simpa using h4)]
    simp only [aiL]
    rw [show decide ((c.toNat:Int)≤hi)=false by simp; omega]; simp
   rw [if_neg (by simpa using h4)]
   obtain⟨o,k1,k2⟩:=Ks (m:=m) (s:=s) om m 0 om om
   have k1:eU.l0 m s m 0=_:=k1
   rw [k1,aiI]
   rw [aji,hl] at k2
   rw [show decide (lo≤(c.toNat:Int))=true by simp; omega,show decide ((c.toNat:Int)≤hi)=true by simp; omega,show decide (cs.length≤15)=true by simpa using h16]
   simp only [ajC]
   rcases k2 with⟨⟨x,rfl⟩,k⟩| ⟨rfl,k⟩
   ·rw [k]
   ·rw [k]
  ·rw [if_pos dm,show decide (cs.length≤15)=false by simp; omega]; rfl
def pz (s:ByteArray):Bool:=s.data.toList==[124]||s.data.toList==[35]||F7 s 97 122
theorem sU {m:Nat}(hm:20≤m)(s:ByteArray):jA.f m s=some (pz s):=by
 unfold jA.f pz
 show (if (s.data.toList==[124])=true then _ else if (s.data.toList==[35])=true then _ else _)=_
 cases h1:s.data.toList==[124] with
 | true=>rfl
 | false=>
  cases h2:s.data.toList==[35] with
  | true=>rfl
  | false=>rw [LZ hm]; rfl
theorem Cj {s:ByteArray}(h:pz s=true):1≤s.size∧s.size≤16:=by
 have hsz:s.size=s.data.toList.length:=by simp
 unfold pz at h
 simp only [ajE,beq_iff_eq] at h
 rcases h with (h | h) | h
 ·rw [h] at hsz; simp at hsz; omega
 ·rw [h] at hsz; simp at hsz; omega
 ·unfold F7 at h
  split at h
  ·cases h
  ·rename_i c cs hl
   rw [hl] at hsz
   simp only [aiM,decide_eq_true_eq] at h
   simp at hsz; omega
def Ck (s:ByteArray):Bool:=s.data.toList==[112,114,111,99]||s.data.toList==[99,101,108,108]||s.data.toList==[112,111,114,116]
theorem Co {m:Nat}(s:ByteArray):jS.f m s=some (Ck s):=by
 unfold jS.f Ck
 show (if (s.data.toList==[112,114,111,99])=true then _ else if (s.data.toList==[99,101,108,108])=true then _ else some (s.data.toList==[112,111,114,116]))=_
 cases h1:s.data.toList==[112,114,111,99] with
 | true=>rfl
 | false=>
  cases h2:s.data.toList==[99,101,108,108] with
  | true=>rfl
  | false=>rfl
theorem OZ {m:Nat}{s:List Int}{f0:Int→Option Bool}{g:Int→Bool}(hs:s.length<2 ^ 40)(C:∀x∈s,f0 x=some (g x)):∀(f i:Nat),s.length - i<f→i≤s.length→
  ∃o,eO.l0 m s f0 f (i:Int)=some o∧((∃x,o = .inr x)∧(s.drop i).any g=false∨(∃x:Nat,o = .inl (x:Int))∧(s.drop i).any g=true)
 | 0,i,hf,_=>absurd hf om
 | f+1,i,hf,hi=>by
  have Bf:(2:Nat) ^ 40=1099511627776:=by decide
  unfold eO.l0
  by_cases h:i<s.length
  ·have hx:ix s (i:Int)=some s[i]:=by unfold ix; rw [if_pos om]; simp [h]
   rw [if_pos dm,hx,aiI,C _ (List.getElem_mem h),aiI,aiZ h,List.any_cons]
   cases g s[i] with
   | true=>exact⟨_,rfl,.inr ⟨⟨i,rfl⟩,rfl⟩⟩
   | false=>
    obtain⟨o,h1,h2⟩:=OZ (m:=m) hs C f (i+1) om om
    rw [if_neg (by simp),bL om om,show (i:Int)+1=((i+1:Nat):Int) by omega,h1]
    exact⟨o,rfl,by simpa using h2⟩
  ·refine⟨_,by rw [if_neg dm],.inl ⟨⟨_,rfl⟩,?_⟩⟩
   rw [ajL om]; rfl
theorem L2 {m:Nat}{s:List Int}{f0:Int→Option Bool}{g:Int→Bool}(hs:s.length<2 ^ 40)(hm:s.length<m)(C:∀x∈s,f0 x=some (g x)):il.f m s f0=some (s.any g):=by
 obtain⟨o,h1,h2⟩:=OZ (m:=m) hs C m 0 om om
 have h1:eO.l0 m s f0 m 0=_:=h1
 unfold il.f eO.f
 rw [h1,aiI]
 rw [aji] at h2
 rcases h2 with⟨⟨x,rfl⟩,k⟩| ⟨⟨x,rfl⟩,k⟩
 ·rw [k]; rfl
 ·rw [k]
  simp only [aiI,aiL]
  simp
theorem O0 {m:Nat}{s:List ak}{f0:ak→Option Bool}{g:ak→Bool}(hs:s.length<2 ^ 40)(C:∀x∈s,f0 x=some (g x)):∀(f i:Nat),s.length - i<f→i≤s.length→
  ∃o,iW.l0 m s f0 f (i:Int)=some o∧((∃x,o = .inr x)∧(s.drop i).any g=false∨(∃x:Nat,o = .inl (x:Int))∧(s.drop i).any g=true)
 | 0,i,hf,_=>absurd hf om
 | f+1,i,hf,hi=>by
  have Bf:(2:Nat) ^ 40=1099511627776:=by decide
  unfold iW.l0
  by_cases h:i<s.length
  ·have hx:ix s (i:Int)=some s[i]:=by unfold ix; rw [if_pos om]; simp [h]
   rw [if_pos dm,hx,aiI,C _ (List.getElem_mem h),aiI,aiZ h,List.any_cons]
   cases g s[i] with
   | true=>exact⟨_,rfl,.inr ⟨⟨i,rfl⟩,rfl⟩⟩
   | false=>
    obtain⟨o,h1,h2⟩:=O0 (m:=m) hs C f (i+1) om om
    rw [if_neg (by simp),bL om om,show (i:Int)+1=((i+1:Nat):Int) by omega,h1]
    exact⟨o,rfl,by simpa using h2⟩
  ·refine⟨_,by rw [if_neg dm],.inl ⟨⟨_,rfl⟩,?_⟩⟩
   rw [ajL om]; rfl
theorem L3 {m:Nat}{s:List ak}{f0:ak→Option Bool}{g:ak→Bool}(hs:s.length<2 ^ 40)(hm:s.length<m)(C:∀x∈s,f0 x=some (g x)):kx.f m s f0=some (s.any g):=by
 obtain⟨o,h1,h2⟩:=O0 (m:=m) hs C m 0 om om
 have h1:iW.l0 m s f0 m 0=_:=h1
 unfold kx.f iW.f
 rw [h1,aiI]
 rw [aji] at h2
 rcases h2 with⟨⟨x,rfl⟩,k⟩| ⟨⟨x,rfl⟩,k⟩
 ·rw [k]; rfl
 ·rw [k]
  simp only [aiI,aiL]
  simp
def gD (n:ak)(size:Int):Bool:=
 if n.kind=0 then decide (0≤n.int)&&n.label.data.toList==[]&&n.args.isEmpty
 else if n.kind=1 then decide (-1099511627776≤n.int)&&decide (n.int≤1099511627776)&&n.label.data.toList==[]&&n.args.isEmpty
 else if n.kind=2 then n.int==0&&pz n.label&&n.args.isEmpty
 else if n.kind=3 then n.int==0&&pz n.label&&decide (1≤n.args.length)&&decide (n.args.length≤8)&&n.args.all fun a=>decide (0≤a)&&decide (a<size)
 else if n.kind=4 then decide (0≤n.int)&&Ck n.label&&n.args.isEmpty
 else false
theorem F8 (l:List Int):((l.length:Int)==(0:Int))=l.isEmpty:=by cases l<;>simp; omega
theorem L4 {m:Nat}(hm:20≤m)(n:ak)(size:Int):lD.f m n size=some (gD n size):=by
 unfold lD.f gD
 by_cases k0:n.kind=0
 ·rw [if_pos (by simpa using k0),if_pos k0]
  by_cases h1:0≤n.int
  ·rw [if_pos (by simpa using h1),show decide (0≤n.int)=true by simpa using h1]
   show (if (n.label.data.toList==[])=true then _ else _)=_
   cases n.label.data.toList==[] with
   | true=>rw [if_pos rfl,F8]; rfl
   | false=>rfl
  ·rw [if_neg (by simpa using h1),show decide (0≤n.int)=false by simp; omega]; rfl
 rw [if_neg (by simpa using k0),if_neg k0]
 by_cases k1:n.kind=1
 ·rw [if_pos (by simpa using k1),if_pos k1]
  by_cases h1 : -1099511627776≤n.int
  ·rw [if_pos (by simpa using h1),show decide (-1099511627776≤n.int)=true by simpa using h1]
   by_cases h3:n.int≤1099511627776
   ·rw [if_pos (by simpa using h3),show decide (n.int≤1099511627776)=true by simpa using h3]
    show (if (n.label.data.toList==[])=true then _ else _)=_
    cases n.label.data.toList==[] with
    | true=>rw [if_pos rfl,F8]; rfl
    | false=>rfl
   ·rw [if_neg (by simpa using h3),show decide (n.int≤1099511627776)=false by simp; omega]; rfl
  ·rw [if_neg (by simpa using h1),show decide (-1099511627776≤n.int)=false by simp; omega]; rfl
 rw [if_neg (by simpa using k1),if_neg k1]
 by_cases k2:n.kind=2
 ·rw [if_pos (by simpa using k2),if_pos k2]
  cases h1:n.int==0 with
  | false=>rfl
  | true=>
   rw [if_pos rfl,sU hm,aiI]
   cases pz n.label with
   | false=>rfl
   | true=>rw [if_pos rfl,F8]; rfl
 rw [if_neg (by simpa using k2),if_neg k2]
 by_cases k3:n.kind=3
 ·rw [if_pos (by simpa using k3),if_pos k3]
  cases h1:n.int==0 with
  | false=>rfl
  | true=>
   rw [if_pos rfl,sU hm,aiI]
   cases pz n.label with
   | false=>rfl
   | true=>
    rw [if_pos rfl]
    by_cases g1:1≤n.args.length
    ·rw [if_pos dm,show decide (1≤n.args.length)=true by simpa using g1]
     by_cases g2:n.args.length≤8
     ·rw [if_pos dm,show decide (n.args.length≤8)=true by simpa using g2]
      rw [L2 (g:=fun a=>!(decide (0≤a)&&decide (a<size))) om om (fun a _=>by
       unfold kq.f
       by_cases w:a<0
       ·rw [if_pos (by simpa using w),show decide (0≤a)=false by simp; omega]; rfl
       ·rw [if_neg (by simpa using w),show decide (0≤a)=true by simp; omega]
        by_cases w2:a<size
        ·rw [show decide (a≥size)=false from decide_eq_false om,show decide (a<size)=true from decide_eq_true w2]; rfl
        ·rw [show decide (a≥size)=true from decide_eq_true om,show decide (a<size)=false from decide_eq_false w2]; rfl),aiI]
      simp [List.not_any_eq_all_not]
     ·rw [if_neg dm,show decide (n.args.length≤8)=false from decide_eq_false g2]; rfl
    ·rw [if_neg dm,show decide (1≤n.args.length)=false from decide_eq_false g1]; rfl
 rw [if_neg (by simpa using k3),if_neg k3]
 by_cases k4:n.kind=4
 ·rw [if_pos (by simpa using k4),if_pos k4]
  by_cases h1:0≤n.int
  ·rw [if_pos (by simpa using h1),show decide (0≤n.int)=true by simpa using h1,Co,aiI]
   cases Ck n.label with
   | false=>rfl
   | true=>rw [if_pos rfl,F8]; rfl
  ·rw [if_neg (by simpa using h1),show decide (0≤n.int)=false by simp; omega]; rfl
 rw [if_neg (by simpa using k4),if_neg k4]
structure Mv (lo hi:Nat)(l d:List Int):Prop where
 perm:d.Perm l
 out:∀k,k<lo∨hi≤k→gt d k=gt l k
 im:∀k,lo≤k→k<hi→∃k',lo≤k'∧k'<hi∧gt d k=gt l k'
theorem Mv.refl {lo hi:Nat}{l:List Int}:Mv lo hi l l:=⟨List.Perm.refl _,fun _ _=>rfl,fun k h1 h2=>⟨k,h1,h2,rfl⟩⟩
theorem Mv.trans {lo hi:Nat}{l d e:List Int}(a:Mv lo hi l d)(b:Mv lo hi d e):Mv lo hi l e:=
 ⟨b.perm.trans a.perm,fun k hk=>(b.out k hk).trans (a.out k hk),fun k h1 h2=>by
  obtain⟨k',g1,g2,g3⟩:=b.im k h1 h2
  obtain⟨k'',g4,g5,g6⟩:=a.im k' g1 g2
  exact⟨k'',g4,g5,g3.trans g6⟩⟩
theorem Mv.length {lo hi:Nat}{l d:List Int}(a:Mv lo hi l d):d.length=l.length:=a.perm.length_eq
theorem Mv.wide {lo hi Qc mZ:Nat}{l d:List Int}(a:Mv lo hi l d)(h1:Qc≤lo)(h2:hi≤mZ):Mv Qc mZ l d:=
 ⟨a.perm,fun k hk=>a.out k om,fun k h3 h4=>by
  by_cases h:lo≤k∧k<hi
  ·obtain⟨k',g1,g2,g3⟩:=a.im k h.1 h.2
   exact⟨k',om,om,g3⟩
  ·exact⟨k,h3,h4,a.out k om⟩⟩
theorem H6 {lo hi i j:Nat}{l:List Int}(Y3:lo≤i)(IE:i<hi)(Va:lo≤j)(Hs:j<hi)(h:hi≤l.length):Mv lo hi l (swp l i j):=
 ⟨vK om om,fun k hk=>by rw [qG om om,if_neg om,if_neg om],fun k h1 h2=>by
  rw [qG om om]
  split
  ·exact⟨i,Y3,IE,rfl⟩
  split
  ·exact⟨j,Va,Hs,rfl⟩
  ·exact⟨k,h1,h2,rfl⟩⟩
def Cm (cmp:Int→Int→Option Int)(c:Int→Int→Int)(l:List Int):Prop:=∀x∈l,∀y∈l,cmp x y=some (c x y)
theorem Cm.perm {cmp c l d}(h:Cm cmp c l)(p:List.Perm d l):Cm cmp c d:=fun x hx y hy=>h x (p.mem_iff.1 hx) y (p.mem_iff.1 hy)
theorem Cm.at {cmp c}{l:List Int}(h:Cm cmp c l){i j:Nat}(hi:i<l.length)(hj:j<l.length):cmp (gt l i) (gt l j)=some (c (gt l i) (gt l j)):=h _ (bC hi) _ (bC hj)
structure Ord (c:Int→Int→Int)(l:List Int):Prop where
 tr:∀x∈l,∀y∈l,∀z∈l,0≤c y x→0≤c z y→0≤c z x
 Wi:∀x∈l,∀y∈l,c x y<0→0≤c y x
theorem Ord.perm {c l d}(h:Ord c l)(p:List.Perm d l):Ord c d:=⟨fun x hx y hy z hz=>h.tr x (p.mem_iff.1 hx) y (p.mem_iff.1 hy) z (p.mem_iff.1 hz),fun x hx y hy=>h.Wi x (p.mem_iff.1 hx) y (p.mem_iff.1 hy)⟩
def Sg (c:Int→Int→Int)(l:List Int)(a b:Nat):Prop:=∀i j,a≤i→i<j→j<b→0≤c (gt l j) (gt l i)
theorem O3 {m:Nat}{a i:Nat}{cmp:Int→Int→Option Int}{c:Int→Int→Int}:∀(f j:Nat) (d:List Int),j - a<f→a≤j→j≤i→i<d.length→d.length<2 ^ 40→Cm cmp c d→
  ∃d' x,bF.l1 m (a:Int) cmp f d (j:Int)=some (d',x)∧Mv a (i+1) d d'∧
   (Ord c d→(∀x y,a≤x→x<y→y≤i→x≠j→y≠j→0≤c (gt d y) (gt d x))→(∀y,j<y→y≤i→0≤c (gt d y) (gt d j))→Sg c d' a (i+1))
 | 0,j,d,hf,_,_,_,_,_=>absurd hf om
 | f+1,j,d,hf,h1,h2,h3,hs,C=>by
  have Bf:(2:Nat) ^ 40=1099511627776:=by decide
  unfold bF.l1
  by_cases h:a<j
  ·have e1:i64.wrap ((j:Int) - 1)=((j - 1:Nat):Int):=by rw [bL om om]; omega
   rw [if_pos (by simp; omega),e1,er om,er om,aiI,aiI,C.at om om,aiI]
   by_cases hc:c (gt d j) (gt d (j - 1))<0
   ·rw [if_pos (by simpa using hc),aiI,aiI,aiI,aiP,aiP,er (by simp; omega),aiI]
    obtain⟨d',x,k1,k2,k3⟩:=O3 (m:=m) (a:=a) (i:=i) (cmp:=cmp) (c:=c) f (j - 1) (swp d j (j - 1)) om om om (by rw [AK]; omega) (by rw [AK]; omega) (C.perm (vK om om))
    refine⟨d',x,k1,(H6 om om om om om).trans k2,fun O g1 g2=>k3 (O.perm (vK om om)) (fun x y x1 x2 x3 x4 x5=>?_) (fun y y1 y2=>?_)⟩
    ·rw [qG om om,qG om om,if_neg x5,if_neg x4]
     by_cases hy:y=j
     ·subst hy
      rw [if_pos rfl,if_neg om]
      exact g1 _ _ om om om om om
     ·rw [if_neg hy]
      by_cases hx:x=j
      ·subst hx
       rw [if_pos rfl]
       exact g1 _ _ om om om om om
      ·rw [if_neg hx]
       exact g1 _ _ om om om om om
    ·rw [qG om om,qG om om,if_neg om,if_pos rfl]
     by_cases hy:y=j
     ·subst hy
      rw [if_pos rfl]
      exact O.Wi _ (bC om) _ (bC om) hc
     ·rw [if_neg hy]
      exact g2 _ om om
   ·rw [if_neg (by simpa using hc)]
    refine⟨d,j,rfl,Mv.refl,fun O g1 g2 x y x1 x2 x3=>?_⟩
    have hc:0≤c (gt d j) (gt d (j - 1)):=by omega
    by_cases hx:x=j
    ·subst hx; exact g2 _ x2 om
    ·by_cases hy:y=j
     ·subst hy
      by_cases hx1:x=y - 1
      ·subst hx1; exact hc
      ·exact O.tr _ (bC om) (gt d (y - 1)) (bC om) _ (bC om) (g1 _ _ x1 om om hx om) hc
     ·exact g1 _ _ x1 x2 om hx hy
  ·have:j=a:=by omega
   subst this
   rw [if_neg (by simp)]
   refine⟨d,j,rfl,Mv.refl,fun O g1 g2 x y x1 x2 x3=>?_⟩
   by_cases hx:x=j
   ·subst hx; exact g2 _ x2 om
   ·exact g1 _ _ x1 x2 om hx om
theorem O4 {m:Nat}{a b:Nat}{cmp:Int→Int→Option Int}{c:Int→Int→Int}(hm:2 ^ 41≤m):∀(f i:Nat) (d:List Int),b - i<f→a<i→b≤d.length→d.length<2 ^ 40→Cm cmp c d→
  ∃d' x,bF.l0 m (a:Int) (b:Int) cmp f d (i:Int)=some (d',x)∧Mv a b d d'∧(Ord c d→Sg c d a i→Sg c d' a b)
 | 0,i,d,hf,_,_,_,_=>absurd hf om
 | f+1,i,d,hf,h1,h2,hs,C=>by
  have Bf:(2:Nat) ^ 40=1099511627776:=by decide
  have yG:(2:Nat) ^ 41=2199023255552:=by decide
  unfold bF.l0
  by_cases h:i<b
  ·obtain⟨d1,x1,k1,k2,k3⟩:=O3 (m:=m) (a:=a) (i:=i) (cmp:=cmp) (c:=c) m i d om om om om hs C
   have e3:i64.wrap ((i:Int)+1)=((i+1:Nat):Int):=by rw [bL om om]; omega
   rw [if_pos (by simp; omega),k1,aiI]
   dsimp only
   rw [e3]
   have hl:=k2.length
   obtain⟨d',x,g1,g2,g3⟩:=O4 (a:=a) (b:=b) (cmp:=cmp) (c:=c) hm f (i+1) d1 om om om om (C.perm k2.perm)
   exact⟨d',x,g1,(k2.wide (aiQ _) om).trans g2,fun O S=>g3 (O.perm k2.perm) (k3 O (fun x y q1 q2 q3 q4 q5=>S x y q1 q2 om) (fun y q1 q2=>absurd q1 om))⟩
  ·exact⟨d,i,by rw [if_neg (by simp; omega)],Mv.refl,fun O S x y q1 q2 q3=>S x y q1 q2 om⟩
theorem F9 {m:Nat}{a b:Nat}{cmp:Int→Int→Option Int}{c:Int→Int→Int}(hm:2 ^ 41≤m){l:List Int}(ha:a≤l.length)(hb:b≤l.length)(hs:l.length<2 ^ 40)(C:Cm cmp c l) :
  ∃d,bF.f m l (a:Int) (b:Int) cmp=some d∧Mv a b l d∧(Ord c l→Sg c d a b):=by
 have Bf:(2:Nat) ^ 40=1099511627776:=by decide
 have yG:(2:Nat) ^ 41=2199023255552:=by decide
 have e3:i64.wrap ((a:Int)+1)=((a+1:Nat):Int):=by rw [bL om om]; omega
 obtain⟨d',x,g1,g2,g3⟩:=O4 (a:=a) (b:=b) (cmp:=cmp) (c:=c) hm m (a+1) l om om hb hs C
 exact⟨d',by unfold bF.f; rw [e3,g1]; rfl,g2,fun O=>g3 O fun x y q1 q2 q3=>absurd q3 om⟩
theorem O5 {α β:Type}{B:α→Option β}{c1 c2:Bool}{X:Option α}{d0:α}{G:β→Prop}(D:α→Prop)(h1:c1=true→c2=true→∃x,X=some x∧D x)(h0:¬(c1=true∧c2=true)→D d0)
  (h:∀x,D x→∃d,B x=some d∧G d):∃d,jn B (fun j=>if c1=true then (if c2=true then (X.bind fun x0=>j x0) else j d0) else j d0)=some d∧G d:=by
 unfold jn
 dsimp only
 by_cases a1:c1=true
 ·by_cases a2:c2=true
  ·obtain⟨x,e,hx⟩:=h1 a1 a2
   rw [if_pos a1,if_pos a2,e]; exact h x hx
  ·rw [if_pos a1,if_neg a2]; exact h _ (h0 fun z=>a2 z.2)
 ·rw [if_neg a1]; exact h _ (h0 fun z=>a1 z.1)
theorem acg {α:Type}{c1 c2:Bool}{X:Option α}{d0:α}{G:α→Prop}(h1:c1=true→c2=true→∃x,X=some x∧G x)(h0:¬(c1=true∧c2=true)→G d0) :
  ∃d,(if c1=true then (if c2=true then (X.bind fun x0=>some x0) else some d0) else some d0)=some d∧G d:=by
 by_cases a1:c1=true
 ·by_cases a2:c2=true
  ·obtain⟨x,e,hx⟩:=h1 a1 a2
   rw [if_pos a1,if_pos a2,e]; exact⟨x,rfl,hx⟩
  ·rw [if_pos a1,if_neg a2]; exact⟨_,rfl,h0 fun z=>a2 z.2⟩
 ·rw [if_neg a1]; exact⟨_,rfl,h0 fun z=>a1 z.1⟩
theorem Vq {α β:Type}{B:α→Option β}{c:Bool}{x y:α}{G:β→Prop}(h:∀z,(c=true∧z=x)∨(c=false∧z=y)→∃d,B z=some d∧G d):∃d,jn B (fun j=>if c=true then j x else j y)=some d∧G d:=by
 unfold jn
 dsimp only
 cases c with
 | true=>exact h _ (.inl ⟨rfl,rfl⟩)
 | false=>exact h _ (.inr ⟨rfl,rfl⟩)
theorem Ord.refl {c:Int→Int→Int}{l:List Int}(O:Ord c l){x:Int}(hx:x∈l):0≤c x x:=by
 by_cases h:c x x<0
 ·exact O.Wi x hx x hx h
 ·omega
theorem Sg.le {c:Int→Int→Int}{l:List Int}{a b:Nat}(S:Sg c l a b)(O:Ord c l){i j:Nat}(h1:a≤i)(h2:i≤j)(h3:j<b)(h4:b≤l.length):0≤c (gt l j) (gt l i):=by
 by_cases h:i=j
 ·subst h; exact O.refl (bC om)
 ·exact S i j h1 om h3
section
variable {m:Nat}{cmp:Int→Int→Option Int}{c:Int→Int→Int}
theorem H7 {l:List Int}{a:Nat}(ha:a<l.length)(hs:l.length<2 ^ 40)(C:Cm cmp c l):∀(f i j:Nat),j - i<f→i≤j→j≤l.length→
  ∃x:Nat,be.l0 m l (a:Int) cmp f (i:Int) (j:Int)=some ((x:Int),(x:Int))∧i≤x∧x≤j∧(i<x→c (gt l (x - 1)) (gt l a)<0)∧(x<j→0≤c (gt l x) (gt l a))
 | 0,i,j,hf,_,_=>absurd hf om
 | f+1,i,j,hf,h1,h2=>by
  have Bf:(2:Nat) ^ 40=1099511627776:=by decide
  unfold be.l0
  by_cases h:i<j
  ·have hh:=F5 (a:=i) (b:=j) om
   rw [if_pos (by simp; omega),hh,er om,er ha,aiI,aiI,C.at om ha,aiI]
   by_cases g:c (gt l ((i+j) / 2)) (gt l a)<0
   ·obtain⟨x,e,x1,x2,x3,x4⟩:=H7 ha hs C f ((i+j) / 2+1) j om om h2
    rw [if_pos (by simpa using g),bL om om,show (((i+j) / 2:Nat):Int)+1=(((i+j) / 2+1:Nat):Int) by omega,e]
    refine⟨x,rfl,om,x2,fun _=>?_,x4⟩
    by_cases hx:x=(i+j) / 2+1
    ·rw [hx]; simpa using g
    ·exact x3 om
   ·obtain⟨x,e,x1,x2,x3,x4⟩:=H7 ha hs C f i ((i+j) / 2) om om om
    rw [if_neg (by simpa using g),e]
    refine⟨x,rfl,x1,om,x3,fun _=>?_⟩
    by_cases hx:x=(i+j) / 2
    ·rw [hx]; omega
    ·exact x4 om
  ·have:i=j:=by omega
   subst this
   exact⟨i,by rw [if_neg (by simp)],aiQ _,aiQ _,fun h=>absurd h om,fun h=>absurd h om⟩
theorem H8 {l:List Int}{q:Nat}(hq:q<l.length)(hs:l.length<2 ^ 40)(C:Cm cmp c l):∀(f i j:Nat),j - i<f→i≤j→j≤l.length→
  ∃x:Nat,be.l2 m l (q:Int) cmp f (i:Int) (j:Int)=some ((x:Int),(x:Int))∧i≤x∧x≤j∧(i<x→0≤c (gt l q) (gt l (x - 1)))∧(x<j→c (gt l q) (gt l x)<0)
 | 0,i,j,hf,_,_=>absurd hf om
 | f+1,i,j,hf,h1,h2=>by
  have Bf:(2:Nat) ^ 40=1099511627776:=by decide
  unfold be.l2
  by_cases h:i<j
  ·have hh:=F5 (a:=i) (b:=j) om
   rw [if_pos (by simp; omega),hh,er hq,er om,aiI,aiI,C.at hq om,aiI]
   by_cases g:c (gt l q) (gt l ((i+j) / 2))<0
   ·obtain⟨x,e,x1,x2,x3,x4⟩:=H8 hq hs C f i ((i+j) / 2) om om om
    rw [if_neg (by simpa using g),e]
    refine⟨x,rfl,x1,om,x3,fun _=>?_⟩
    by_cases hx:x=(i+j) / 2
    ·rw [hx]; omega
    ·exact x4 om
   ·obtain⟨x,e,x1,x2,x3,x4⟩:=H8 hq hs C f ((i+j) / 2+1) j om om h2
    rw [if_pos (by simpa using g),bL om om,show (((i+j) / 2:Nat):Int)+1=(((i+j) / 2+1:Nat):Int) by omega,e]
    refine⟨x,rfl,om,x2,fun _=>?_,x4⟩
    by_cases hx:x=(i+j) / 2+1
    ·rw [hx]; simp; omega
    ·exact x3 om
  ·have:i=j:=by omega
   subst this
   exact⟨i,by rw [if_neg (by simp)],aiQ _,aiQ _,fun h=>absurd h om,fun h=>absurd h om⟩
theorem O6 {l:List Int}{a x:Nat}(hx:x≤l.length)(hax:a<x)(hs:l.length<2 ^ 40):∀(f k:Nat) (d:List Int),x - k<f→a≤k→k<x→Mv a x l d→
  (∀t,gt d t=if a≤t∧t<k then gt l (t+1) else if t=k then gt l a else gt l t)→
  ∃d' y,be.l1 m (x:Int) f d (k:Int)=some (d',y)∧Mv a x l d'∧∀t,gt d' t=if a≤t∧t+1<x then gt l (t+1) else if t+1=x then gt l a else gt l t
 | 0,k,d,hf,_,_,_,_=>absurd hf om
 | f+1,k,d,hf,h1,h2,M,hg=>by
  have Bf:(2:Nat) ^ 40=1099511627776:=by decide
  have hl:=M.length
  unfold be.l1
  have e0:i64.wrap ((x:Int) - 1)=((x - 1:Nat):Int):=by rw [bL om om]; omega
  rw [e0]
  by_cases h:k<x - 1
  ·have e1:i64.wrap ((k:Int)+1)=((k+1:Nat):Int):=by rw [bL om om]; omega
   rw [if_pos (by simp; omega),e1,er om,er om,aiI,aiI,aiI,aiP,aiP,er (by simp; omega),aiI]
   refine O6 hx hax hs f (k+1) (swp d k (k+1)) om om om (M.trans (H6 om om om om om)) fun t=>?_
   rw [qG om om,hg k,hg (k+1),hg t]
   by_cases t1:t=k+1
   ·subst t1; rw [if_pos rfl,if_neg om,if_pos rfl,if_neg om,if_pos rfl]
   ·rw [if_neg t1]
    by_cases t2:t=k
    ·subst t2; rw [if_pos rfl,if_neg om,if_neg om,if_pos om]
    ·rw [if_neg t2,if_neg t2,if_neg t1]
     by_cases t3:a≤t∧t<k
     ·rw [if_pos t3,if_pos om]
     ·rw [if_neg t3,if_neg om]
  ·refine⟨d,k,by rw [if_neg (by simp; omega)],M,fun t=>?_⟩
   rw [hg]
   by_cases t3:a≤t∧t<k
   ·rw [if_pos t3,if_pos om]
   ·rw [if_neg t3,if_neg (show ¬(a≤t∧t+1<x) by omega)]
    by_cases t4:t=k
    ·rw [if_pos t4,if_pos om]
    ·rw [if_neg t4,if_neg om]
theorem O7 {l:List Int}{q x:Nat}(hx:q<l.length)(hax:x≤q)(hs:l.length<2 ^ 40):∀(f k:Nat) (d:List Int),k - x<f→x≤k→k≤q→Mv x (q+1) l d→
  (∀t,gt d t=if k<t∧t≤q then gt l (t - 1) else if t=k then gt l q else gt l t)→
  ∃d' y,be.l3 m (x:Int) f d (k:Int)=some (d',y)∧Mv x (q+1) l d'∧∀t,gt d' t=if x<t∧t≤q then gt l (t - 1) else if t=x then gt l q else gt l t
 | 0,k,d,hf,_,_,_,_=>absurd hf om
 | f+1,k,d,hf,h1,h2,M,hg=>by
  have Bf:(2:Nat) ^ 40=1099511627776:=by decide
  have hl:=M.length
  unfold be.l3
  by_cases h:x<k
  ·have e1:i64.wrap ((k:Int) - 1)=((k - 1:Nat):Int):=by rw [bL om om]; omega
   rw [if_pos (by simp; omega),e1,er om,er om,aiI,aiI,aiI,aiP,aiP,er (by simp; omega),aiI]
   refine O7 hx hax hs f (k - 1) (swp d k (k - 1)) om om om (M.trans (H6 om om om om om)) fun t=>?_
   rw [qG om om,hg k,hg (k - 1),hg t]
   by_cases t1:t=k - 1
   ·subst t1; rw [if_pos rfl,if_neg om,if_pos rfl,if_neg om,if_pos rfl]
   ·rw [if_neg t1]
    by_cases t2:t=k
    ·subst t2; rw [if_pos rfl,if_neg om,if_neg om,if_pos om]
    ·rw [if_neg t2,if_neg t2,if_neg t1]
     by_cases t3:k<t∧t≤q
     ·rw [if_pos t3,if_pos om]
     ·rw [if_neg t3,if_neg om]
  ·have:k=x:=by omega
   subst this
   exact⟨d,k,by rw [if_neg (by simp)],M,hg⟩
theorem H9 {l:List Int}{a b q:Nat}(Qf:a+b<2 ^ 42)(hs:l.length<2 ^ 40)(C:Cm cmp c l):∀(f s r:Nat),r - s<f→s≤r→r≤l.length→r≤(a+b) / 2+q→(a+b) / 2+q≤l.length+s→
  ∃x:Nat,be.l4 m l (a:Int) (q:Int) (b:Int) cmp f (s:Int) (r:Int)=some ((x:Int),(x:Int))∧s≤x∧x≤r∧(s<x→0≤c (gt l ((a+b) / 2+q - x)) (gt l (x - 1)))∧(x<r→c (gt l ((a+b) / 2+q - x - 1)) (gt l x)<0)
 | 0,i,j,hf,_,_,_,_=>absurd hf om
 | f+1,s,r,hf,h1,h2,h3,h4=>by
  have Bf:(2:Nat) ^ 40=1099511627776:=by decide
  have p42:(2:Nat) ^ 42=4398046511104:=by decide
  unfold be.l4
  by_cases h:s<r
  ·have hh:=F5 (a:=s) (b:=r) om
   have Qf:=F5 (a:=a) (b:=b) om
   have e1:i64.wrap (i64.wrap (i64.wrap ((((a+b) / 2:Nat):Int)+(q:Int)) - 1) - (((s+r) / 2:Nat):Int))=(((a+b) / 2+q - (s+r) / 2 - 1:Nat):Int):=by
    rw [bL (x:=(((a+b) / 2:Nat):Int)+(q:Int)) om om,bL (x:=(((a+b) / 2:Nat):Int)+(q:Int) - 1) om om,bL om om]
    omega
   rw [if_pos (by simp; omega),hh,Qf,e1,er om,er om,aiI,aiI,C.at om om,aiI]
   by_cases g:c (gt l ((a+b) / 2+q - (s+r) / 2 - 1)) (gt l ((s+r) / 2))<0
   ·obtain⟨x,e,x1,x2,x3,x4⟩:=H9 (a:=a) (b:=b) (q:=q) om hs C f s ((s+r) / 2) om om om om om
    rw [if_neg (by simpa using g),e]
    refine⟨x,rfl,x1,om,x3,fun _=>?_⟩
    by_cases hx:x=(s+r) / 2
    ·rw [hx]; exact g
    ·exact x4 om
   ·obtain⟨x,e,x1,x2,x3,x4⟩:=H9 (a:=a) (b:=b) (q:=q) om hs C f ((s+r) / 2+1) r om om h2 h3 om
    rw [if_pos (by simpa using g),bL om om,show (((s+r) / 2:Nat):Int)+1=(((s+r) / 2+1:Nat):Int) by omega,e]
    refine⟨x,rfl,om,x2,fun _=>?_,x4⟩
    by_cases hx:x=(s+r) / 2+1
    ·rw [hx,show (a+b) / 2+q - ((s+r) / 2+1)=(a+b) / 2+q - (s+r) / 2 - 1 by omega,Nat.add_sub_cancel]; omega
    ·exact x3 om
  ·have:s=r:=by omega
   subst this
   exact⟨s,by rw [if_neg (by simp)],aiQ _,aiQ _,fun h=>absurd h om,fun h=>absurd h om⟩
end
section
variable {m:Nat}{cmp:Int→Int→Option Int}{c:Int→Int→Int}
theorem AM {l d:List Int}{a q b M E x:Nat}(h1:a≤x)(h2:x≤M)(h3:x≤q)(h4:q≤E)(h5:E≤b)(h6:E+x=M+q)(hb:b≤l.length)
  (R:Wg l d x (q - x) (E - q)) (O:Ord c l) (F1:a<x→E<b→0≤c (gt l E) (gt l (x - 1))) (F2:x<q→q<E→c (gt l (E - 1)) (gt l x)<0)
  (S1:Sg c l a q) (S2:Sg c l q b) :
  Sg c d a x∧Sg c d x M∧Sg c d M E∧Sg c d E b∧(∀i j,a≤i→i<M→M≤j→j<b→0≤c (gt d j) (gt d i)):=by
 obtain⟨R1,R2,R3,R4⟩:=R
 have g1:∀k,k<x→gt d k=gt l k:=fun k hk=>R4 k (.inl hk)
 have g2:∀k,x≤k→k<M→gt d k=gt l (q+(k - x)):=fun k hk wk=>by
  have:=R2 (k - x) om
  rw [show x+(k - x)=k by omega,show x+(q - x)+(k - x)=q+(k - x) by omega] at this
  exact this
 have g3:∀k,M≤k→k<E→gt d k=gt l (x+(k - M)):=fun k hk wk=>by
  have:=R3 (k - M) om
  rw [show x+(E - q)+(k - M)=k by omega] at this
  exact this
 have g4:∀k,E≤k→gt d k=gt l k:=fun k hk=>R4 k (.inr om)
 refine⟨fun i j k1 k2 k3=>?_,fun i j k1 k2 k3=>?_,fun i j k1 k2 k3=>?_,fun i j k1 k2 k3=>?_,fun i j k1 k2 k3 k4=>?_⟩
 ·rw [g1 i om,g1 j om]; exact S1 _ _ k1 k2 om
 ·rw [g2 i om om,g2 j om om]; exact S2 _ _ om om om
 ·rw [g3 i om om,g3 j om om]; exact S1 _ _ om om om
 ·rw [g4 i om,g4 j om]; exact S2 _ _ om om om
 ·by_cases hi:i<x
  ·rw [g1 i hi]
   by_cases hj:j<E
   ·rw [g3 j k3 hj]; exact S1 _ _ k1 om om
   ·rw [g4 j om]
    have f1:=F1 om om
    have f2:=S1.le O k1 (show i≤x - 1 by omega) om om
    have f3:=S2.le O (show q≤E from h4) (show E≤j by omega) k4 hb
    exact O.tr _ (bC om) _ (bC (show E<l.length by omega)) _ (bC om) (O.tr _ (bC om) _ (bC (show x - 1<l.length by omega)) _ (bC om) f2 f1) f3
  ·rw [g2 i om k2]
   by_cases hj:j<E
   ·rw [g3 j k3 hj]
    have f1:=O.Wi _ (bC (show E - 1<l.length by omega)) _ (bC (show x<l.length by omega)) (F2 om om)
    have f2:=S2.le O (show q≤q+(i - x) by omega) (show q+(i - x)≤E - 1 by omega) om hb
    have f3:=S1.le O h1 (show x≤x+(j - M) by omega) om om
    exact O.tr _ (bC om) _ (bC (show x<l.length by omega)) _ (bC om) (O.tr _ (bC om) _ (bC (show E - 1<l.length by omega)) _ (bC om) f2 f1) f3
   ·rw [g4 j om]; exact S2 _ _ om om k4
theorem O8 {l:List Int}{x i j:Nat}(h:i=0∨j=0):Wg l l x i j:=
 ⟨List.Perm.refl _,fun k hk=>by rw [show i=0 by omega,akj],fun k hk=>by rw [show j=0 by omega,akj],fun _ _=>rfl⟩
theorem Vr {l d:List Int}{x i j a b:Nat}(R:Wg l d x i j)(h1:a≤x)(h2:x+i+j≤b):Mv a b l d:=by
 obtain⟨R1,R2,R3,R4⟩:=R
 refine⟨R1,fun k hk=>R4 k om,fun k k1 k2=>?_⟩
 by_cases g1:k<x∨x+i+j≤k
 ·exact⟨k,k1,k2,R4 k g1⟩
 ·by_cases g2:k<x+j
  ·have:=R2 (k - x) om
   rw [show x+(k - x)=k by omega] at this
   exact⟨_,om,om,this⟩
  ·have:=R3 (k - x - j) om
   rw [show x+j+(k - x - j)=k by omega] at this
   exact⟨_,om,om,this⟩
theorem vL (hm:2 ^ 41≤m):∀(f:Nat) (l:List Int) (a q b:Nat),b - a<f→a<q→q<b→b≤l.length→l.length<2 ^ 40→Cm cmp c l→
  ∃d,be.f m f l (a:Int) (q:Int) (b:Int) cmp=some d∧Mv a b l d∧(Ord c l→Sg c l a q→Sg c l q b→Sg c d a b)
 | 0,l,a,q,b,hf,_,_,_,_,_=>absurd hf om
 | f+1,l,a,q,b,hf,h1,h2,h3,hs,C=>by
  have Bf:(2:Nat) ^ 40=1099511627776:=by decide
  have yG:(2:Nat) ^ 41=2199023255552:=by decide
  have p42:(2:Nat) ^ 42=4398046511104:=by decide
  unfold be.f
  unfold be.b
  have e1:i64.wrap ((q:Int) - (a:Int))=((q - a:Nat):Int):=by rw [bL om om]; omega
  have e2:i64.wrap ((b:Int) - (q:Int))=((b - q:Nat):Int):=by rw [bL om om]; omega
  have hM:=F5 (a:=a) (b:=b) om
  rw [e1,e2,hM]
  by_cases hq1:q - a=1
  ·obtain⟨x,k1,k2,k3,k4,k5⟩:=H7 (m:=m) (a:=a) om hs C m q b om om h3
   obtain⟨d,y,g1,g2,g3⟩:=O6 (m:=m) (l:=l) (a:=a) (x:=x) om om hs m a l om (aiQ _) om Mv.refl (fun t=>by rw [if_neg om]; split<;>simp_all)
   rw [if_pos (by simp; omega),k1,aiI]
   dsimp only
   rw [g1]
   refine⟨d,rfl,g2.wide (aiQ _) k3,fun O S1 S2 i j r1 r2 r3=>?_⟩
   have A1:∀t,a≤t→t+1<x→gt d t=gt l (t+1):=fun t w1 w2=>by rw [g3 t,if_pos ⟨w1,w2⟩]
   have A2:∀t,t+1=x→gt d t=gt l a:=fun t w1=>by rw [g3 t,if_neg om,if_pos w1]
   have A3:∀t,x≤t→gt d t=gt l t:=fun t w1=>by rw [g3 t,if_neg om,if_neg om]
   by_cases i1:i+1<x
   ·rw [A1 i r1 i1]
    by_cases j1:j+1<x
    ·rw [A1 j om j1]; exact S2 _ _ om om om
    ·have f1:=O.Wi _ (bC (show x - 1<l.length by omega)) _ (bC (show a<l.length by omega)) (k4 om)
     have f2:=S2.le O (show q≤i+1 by omega) (show i+1≤x - 1 by omega) om h3
     by_cases j2:j+1=x
     ·rw [A2 j j2]
      exact O.tr _ (bC om) _ (bC (show x - 1<l.length by omega)) _ (bC om) f2 f1
     ·rw [A3 j om]; exact S2 _ _ om om om
   ·rw [A3 j om]
    by_cases i2:i+1=x
    ·rw [A2 i i2]
     have f1:=k5 om
     have f2:=S2.le O (show q≤x by omega) (show x≤j by omega) r3 h3
     exact O.tr _ (bC om) _ (bC (show x<l.length by omega)) _ (bC om) f1 f2
    ·rw [A3 i om]; exact S2 _ _ om r2 r3
  rw [if_neg (by simp; omega)]
  by_cases hb1:b - q=1
  ·obtain⟨x,k1,k2,k3,k4,k5⟩:=H8 (m:=m) (q:=q) om hs C m a q om om om
   obtain⟨d,y,g1,g2,g3⟩:=O7 (m:=m) (l:=l) (q:=q) (x:=x) om om hs m q l om om (aiQ _) Mv.refl (fun t=>by rw [if_neg om]; split<;>simp_all)
   rw [if_pos (by simp; omega),k1,aiI]
   dsimp only
   rw [g1]
   refine⟨d,rfl,g2.wide k2 om,fun O S1 S2 i j r1 r2 r3=>?_⟩
   have A1:∀t,x<t→t≤q→gt d t=gt l (t - 1):=fun t w1 w2=>by rw [g3 t,if_pos ⟨w1,w2⟩]
   have A2:gt d x=gt l q:=by rw [g3 x,if_neg om,if_pos rfl]
   have A3:∀t,t<x→gt d t=gt l t:=fun t w1=>by rw [g3 t,if_neg om,if_neg om]
   by_cases i1:x<i
   ·rw [A1 i i1 om,A1 j om om]
    exact S1 _ _ om om om
   ·by_cases i2:i=x
    ·subst i2
     rw [A2,A1 j om om]
     have f1:=O.Wi _ (bC (show q<l.length by omega)) _ (bC (show i<l.length by omega)) (k5 om)
     have f2:=S1.le O r1 (show i≤j - 1 by omega) om om
     exact O.tr _ (bC om) _ (bC (show i<l.length by omega)) _ (bC om) f1 f2
    ·rw [A3 i om]
     by_cases j1:x<j
     ·rw [A1 j j1 om]
      exact S1.le O r1 om om om
     ·have f1:=k4 om
      have f2:=S1.le O r1 (show i≤x - 1 by omega) om om
      by_cases j2:j=x
      ·subst j2
       rw [A2]
       exact O.tr _ (bC om) _ (bC (show j - 1<l.length by omega)) _ (bC om) f2 f1
      ·rw [A3 j om]; exact S1 _ _ r1 r2 om
  rw [if_neg (by simp; omega)]
  refine Vq ?_
  intro z hz
  have Vt:∃s r:Nat,z=((s:Int),(r:Int))∧((q > (a+b) / 2∧s=(a+b) / 2+q - b∧r=(a+b) / 2)∨(q≤(a+b) / 2∧s=a∧r=q)):=by
   rcases hz with⟨hc,rfl⟩| ⟨hc,rfl⟩
   ·refine⟨(a+b) / 2+q - b,(a+b) / 2,?_,.inl ⟨by simp only [decide_eq_true_eq] at hc; omega,rfl,rfl⟩⟩
    simp only [aiV,and_true]
    simp only [decide_eq_true_eq] at hc
    rw [bL (x:=(((a+b) / 2:Nat):Int)+(q:Int)) om om,bL om om]
    omega
   ·refine⟨a,q,rfl,.inr ⟨?_,rfl,rfl⟩⟩
    simp only [decide_eq_false_iff_not] at hc
    omega
  obtain⟨s,r,rfl,Vt⟩:=Vt
  clear hz
  dsimp only
  obtain⟨x,k1,k2,k3,k4,k5⟩:=H9 (m:=m) (a:=a) (b:=b) (q:=q) om hs C m s r om om om om om
  rw [k1,aiI]
  dsimp only
  generalize hMM:(a+b) / 2=M at *
  obtain⟨E,hE⟩:∃E,E=M+q - x:=⟨_,rfl⟩
  have eE:i64.wrap (i64.wrap ((M:Int)+(q:Int)) - (x:Int))=(E:Int):=by
   rw [bL (x:=(M:Int)+(q:Int)) om om,bL om om]
   omega
  rw [eE]
  rw [←hE] at k4 k5
  have c1:a≤x:=by omega
  have c2:x≤M:=by omega
  have c3:x≤q:=by omega
  have c4:q≤E:=by omega
  have c5:E≤b:=by omega
  have c6:E+x=M+q:=by omega
  have c7:M≤E:=by omega
  have F1:a<x→E<b→0≤c (gt l E) (gt l (x - 1)):=fun _ _=>k4 om
  have F2:x<q→q<E→c (gt l (E - 1)) (gt l x)<0:=fun _ _=>k5 om
  refine O5 (fun d=>Wg l d x (q - x) (E - q)) (fun u1 u2=>?_) (fun u=>?_) ?_
  ·simp only [decide_eq_true_eq] at u1 u2
   exact OY hm om om om hs
  ·simp only [decide_eq_true_eq] at u
   exact O8 om
  intro d5 R
  try dsimp only
  have M5:Mv a b l d5:=Vr R c1 om
  have l5:=M5.length
  refine O5 (fun d=>Mv a M d5 d∧(Ord c l→Sg c l a q→Sg c l q b→Sg c d a M)) (fun u1 u2=>?_) (fun u=>?_) ?_
  ·simp only [decide_eq_true_eq] at u1 u2
   obtain⟨d,g1,g2,g3⟩:=vL hm f d5 a x M om om om om om (C.perm M5.perm)
   refine⟨d,g1,g2,fun O S1 S2=>?_⟩
   obtain⟨v1,v2,v3,v4,v5⟩:=AM c1 c2 c3 c4 c5 c6 h3 R O F1 F2 S1 S2
   exact g3 (O.perm M5.perm) v1 v2
  ·simp only [decide_eq_true_eq] at u
   refine⟨Mv.refl,fun O S1 S2=>?_⟩
   obtain⟨v1,v2,v3,v4,v5⟩:=AM c1 c2 c3 c4 c5 c6 h3 R O F1 F2 S1 S2
   by_cases ua:a=x
   ·rw [ua]; exact v2
   ·rw [show M=x by omega]; exact v1
  rintro d6 ⟨M6,S6⟩
  try dsimp only
  have l6:=M6.length
  have M56:=M5.trans (M6.wide (aiQ _) om)
  have fin:∀d,Mv M b d6 d→(Ord c l→Sg c l a q→Sg c l q b→Sg c d M b)→Mv a b l d∧(Ord c l→Sg c l a q→Sg c l q b→Sg c d a b):=by
   intro d M7 S7
   refine⟨M56.trans (M7.wide om (aiQ _)),fun O S1 S2 i j r1 r2 r3=>?_⟩
   obtain⟨v1,v2,v3,v4,v5⟩:=AM c1 c2 c3 c4 c5 c6 h3 R O F1 F2 S1 S2
   by_cases hj:j<M
   ·rw [M7.out i om,M7.out j om]
    exact S6 O S1 S2 _ _ r1 r2 hj
   ·by_cases hi:M≤i
    ·exact S7 O S1 S2 _ _ hi r2 r3
    ·obtain⟨j',y1,y2,y3⟩:=M7.im j om r3
     obtain⟨i',w1,w2,w3⟩:=M6.im i r1 om
     rw [M7.out i om,y3,M6.out j' om,w3]
     exact v5 _ _ w1 w2 y1 y2
  refine acg (fun u1 u2=>?_) (fun u=>?_)
  ·simp only [decide_eq_true_eq] at u1 u2
   obtain⟨d,g1,g2,g3⟩:=vL hm f d6 M E b om om om om om (C.perm M56.perm)
   refine⟨d,g1,fin d g2 fun O S1 S2=>?_⟩
   obtain⟨v1,v2,v3,v4,v5⟩:=AM c1 c2 c3 c4 c5 c6 h3 R O F1 F2 S1 S2
   refine g3 (O.perm M56.perm) (fun i j y1 y2 y3=>?_) (fun i j y1 y2 y3=>?_)
   ·rw [M6.out i om,M6.out j om]; exact v3 _ _ y1 y2 y3
   ·rw [M6.out i om,M6.out j om]; exact v4 _ _ y1 y2 y3
  ·simp only [decide_eq_true_eq] at u
   refine fin d6 Mv.refl fun O S1 S2 i j y1 y2 y3=>?_
   obtain⟨v1,v2,v3,v4,v5⟩:=AM c1 c2 c3 c4 c5 c6 h3 R O F1 F2 S1 S2
   rw [M6.out i om,M6.out j om]
   by_cases ue:M=E
   ·exact v4 _ _ om y2 y3
   ·exact v3 _ _ y1 y2 om
end
section
variable {m:Nat}{cmp:Int→Int→Option Int}{c:Int→Int→Int}
def Yr (c:Int→Int→Int)(d:List Int)(bs n:Nat):Prop:=∀k i j,k*bs≤i→i<j→j<k*bs+bs→j<n→0≤c (gt d j) (gt d i)
theorem O9 (hm:2 ^ 41≤m){n:Nat}{l:List Int}(hn:n=l.length)(hs:l.length<2 ^ 40)(C:Cm cmp c l):∀(f t:Nat) (d:List Int),n - 20*t<f→20*t≤n→Mv 0 (20*t) l d→
  (Ord c l→∀k,k<t→Sg c d (20*k) (20*k+20))→
  ∃d' t' y,dh.l0 m (n:Int) cmp f d ((20*t:Nat):Int) ((20*t+20:Nat):Int)=some (d',((20*t':Nat):Int),y)∧20*t'≤n∧n<20*t'+20∧Mv 0 (20*t') l d'∧(Ord c l→∀k,k<t'→Sg c d' (20*k) (20*k+20))
 | 0,t,d,hf,_,_,_=>absurd hf om
 | f+1,t,d,hf,h1,M,S=>by
  have Bf:(2:Nat) ^ 40=1099511627776:=by decide
  have yG:(2:Nat) ^ 41=2199023255552:=by decide
  have hl:=M.length
  unfold dh.l0
  by_cases h:20*t+20≤n
  ·obtain⟨d1,e1,M1,S1⟩:=F9 (a:=20*t) (b:=20*t+20) (cmp:=cmp) (c:=c) hm (l:=d) om om om (C.perm M.perm)
   rw [if_pos dm,e1,aiI,bL (x:=((20*t+20:Nat):Int)+20) om om]
   have:=O9 hm hn hs C f (t+1) d1 om om ((M.wide (aiQ _) om).trans (M1.wide om om)) (fun O k hk i j k1 k2 k3=>by
    by_cases QD:k=t
    ·subst QD; exact S1 (O.perm M.perm) _ _ k1 k2 k3
    ·rw [M1.out i om,M1.out j om]; exact S O k om _ _ k1 k2 k3)
   rw [show ((20*(t+1):Nat):Int)=((20*t+20:Nat):Int) by omega,show ((20*(t+1)+20:Nat):Int)=((20*t+20:Nat):Int)+20 by omega] at this
   exact this
  ·exact⟨d,t,_,by rw [if_neg dm],h1,om,M,S⟩
theorem Pa (hm:2 ^ 41≤m){n bs:Nat}{l:List Int}(hn:n=l.length)(hs:l.length<2 ^ 40)(hb:0<bs)(Nj:bs<n)(C:Cm cmp c l)(B:Ord c l→Yr c l bs n):∀(f t:Nat) (d:List Int),n - t*(2*bs)<f→t*(2*bs)≤n→Mv 0 (t*(2*bs)) l d→
  (Ord c l→∀k,k<t→Sg c d (k*(2*bs)) (k*(2*bs)+2*bs))→
  ∃d' t' y,dh.l2 m (n:Int) cmp (bs:Int) f d ((t*(2*bs):Nat):Int) ((t*(2*bs)+2*bs:Nat):Int)=some (d',((t'*(2*bs):Nat):Int),y)∧t'*(2*bs)≤n∧n<t'*(2*bs)+2*bs∧Mv 0 (t'*(2*bs)) l d'∧(Ord c l→∀k,k<t'→Sg c d' (k*(2*bs)) (k*(2*bs)+2*bs))
 | 0,t,d,hf,_,_,_=>absurd hf om
 | f+1,t,d,hf,h1,M,S=>by
  have Bf:(2:Nat) ^ 40=1099511627776:=by decide
  have yG:(2:Nat) ^ 41=2199023255552:=by decide
  have hl:=M.length
  unfold dh.l2
  have ht:(t+1)*(2*bs)=t*(2*bs)+2*bs:=Nat.succ_mul _ _
  have q1:(2*t)*bs=t*(2*bs):=by rw [Nat.mul_assoc,Nat.mul_left_comm]
  have q2:(2*t+1)*bs=t*(2*bs)+bs:=by rw [Nat.succ_mul,q1]
  by_cases h:t*(2*bs)+2*bs≤n
  ·have S0:Ord c l→Sg c d (t*(2*bs)) (t*(2*bs)+bs):=fun O i j k1 k2 k3=>by
    rw [M.out i om,M.out j om]; exact B O (2*t) i j om k2 om om
   have S0':Ord c l→Sg c d (t*(2*bs)+bs) (t*(2*bs)+2*bs):=fun O i j k1 k2 k3=>by
    rw [M.out i om,M.out j om]; exact B O (2*t+1) i j om k2 om om
   have hk:∀k,k<t→k*(2*bs)+2*bs≤t*(2*bs):=fun k hk=>by
    rw [←Nat.succ_mul]; exact ajN _ hk
   generalize hA:t*(2*bs)=A at *
   obtain⟨d1,e1,M1,S1⟩:=vL (cmp:=cmp) (c:=c) hm m d A (A+bs) (A+2*bs) om om om om om (C.perm M.perm)
   have e0:i64.wrap ((A:Int)+(bs:Int))=((A+bs:Nat):Int):=by rw [bL om om]; omega
   have e2:i64.wrap ((2:Int)*(bs:Int))=((2*bs:Nat):Int):=by rw [bL om om]; omega
   have e3:i64.wrap (((A+2*bs:Nat):Int)+((2*bs:Nat):Int))=((A+2*bs+2*bs:Nat):Int):=by rw [bL om om]; omega
   rw [if_pos dm,e0,e1,aiI,e2,e3]
   have:=Pa hm hn hs hb Nj C B f (t+1) d1 om om (by rw [ht]; exact (M.wide (aiQ _) om).trans (M1.wide om om)) (fun O k wk i j k1 k2 k3=>by
    by_cases QD:k=t
    ·subst QD; rw [hA] at k1 k3; exact S1 (O.perm M.perm) (S0 O) (S0' O) _ _ k1 k2 k3
    ·have:=hk k om
     rw [M1.out i om,M1.out j om]; exact S O k om _ _ k1 k2 k3)
   rw [ht] at this
   exact this
  ·exact⟨d,t,_,by rw [if_neg dm],h1,om,M,S⟩
theorem Ia (hm:2 ^ 41≤m){n:Nat}:∀(f bs:Nat) (l:List Int),n=l.length→l.length<2 ^ 40→Cm cmp c l→n - bs<f→0<bs→bs<2 ^ 42→(Ord c l→Yr c l bs n)→
  ∃d y,dh.l1 m (n:Int) cmp f l (bs:Int)=some (d,y)∧d.Perm l∧(Ord c l→Sg c d 0 n)
 | 0,bs,l,_,_,_,hf,_,_,_=>absurd hf om
 | f+1,bs,l,hn,hs,C,hf,hb,hb2,B=>by
  have Bf:(2:Nat) ^ 40=1099511627776:=by decide
  have yG:(2:Nat) ^ 41=2199023255552:=by decide
  have p42:(2:Nat) ^ 42=4398046511104:=by decide
  unfold dh.l1
  by_cases h:bs<n
  ·have e2:i64.wrap ((2:Int)*(bs:Int))=((2*bs:Nat):Int):=by rw [bL om om]; omega
   have e3:i64.wrap ((bs:Int)*(2:Int))=((2*bs:Nat):Int):=by rw [bL om om]; omega
   obtain⟨d1,t,y,k1,k2,k3,M1,S1⟩:=Pa (cmp:=cmp) (c:=c) hm hn hs hb h C B m 0 l om om Mv.refl (fun O k hk=>absurd hk om)
   have l1:=M1.length
   simp only [Nat.zero_mul,ajf] at k1
   have k1:dh.l2 m (n:Int) cmp (bs:Int) m l (0:Int) ((2*bs:Nat):Int)=_:=k1
   rw [if_pos dm,e2,k1,aiI]
   dsimp only
   rw [e3]
   have q1:(2*t)*bs=t*(2*bs):=by rw [Nat.mul_assoc,Nat.mul_left_comm]
   have q2:(2*t+1)*bs=t*(2*bs)+bs:=by rw [Nat.succ_mul,q1]
   have hk:∀k,k<t→k*(2*bs)+2*bs≤t*(2*bs):=fun k hk=>by
    rw [←Nat.succ_mul]; exact ajN _ hk
   have wk:∀k,t<k→t*(2*bs)+2*bs≤k*(2*bs):=fun k hk=>by
    rw [←Nat.succ_mul]; exact ajN _ hk
   have e0:i64.wrap (((t*(2*bs):Nat):Int)+(bs:Int))=((t*(2*bs)+bs:Nat):Int):=by rw [bL om om]; omega
   rw [e0]
   by_cases h2:t*(2*bs)+bs<n
   ·obtain⟨d2,e4,M2,S2⟩:=vL (cmp:=cmp) (c:=c) hm m d1 (t*(2*bs)) (t*(2*bs)+bs) n om om om om om (C.perm M1.perm)
    rw [if_pos dm,e4,aiI]
    have P2:=M2.perm.trans M1.perm
    obtain⟨d,y,g1,g2,g3⟩:=Ia (n:=n) hm f (2*bs) d2 (by have:=P2.length_eq; omega) (by have:=P2.length_eq; omega) (C.perm P2) om om om (fun O k i j w1 w2 w3 w4=>by
     have O:=O.perm P2.symm
     by_cases u1:k<t
     ·have:=hk k u1
      rw [M2.out i om,M2.out j om]; exact S1 O k u1 _ _ w1 w2 w3
     ·by_cases u2:k=t
      ·subst u2
       refine S2 (O.perm M1.perm) (fun i j x1 x2 x3=>?_) (fun i j x1 x2 x3=>?_) _ _ w1 w2 w4
       ·rw [M1.out i om,M1.out j om]; exact B O (2*k) i j om x2 om om
       ·rw [M1.out i om,M1.out j om]; exact B O (2*k+1) i j om x2 om om
      ·have:=wk k om; omega)
    exact⟨d,y,g1,g2.trans P2,fun O=>g3 (O.perm P2)⟩
   ·rw [if_neg dm]
    have P2:=M1.perm
    obtain⟨d,y,g1,g2,g3⟩:=Ia (n:=n) hm f (2*bs) d1 (by have:=P2.length_eq; omega) (by have:=P2.length_eq; omega) (C.perm P2) om om om (fun O k i j w1 w2 w3 w4=>by
     have O:=O.perm P2.symm
     by_cases u1:k<t
     ·exact S1 O k u1 _ _ w1 w2 w3
     ·by_cases u2:k=t
      ·subst u2
       rw [M1.out i om,M1.out j om]; exact B O (2*k) i j om w2 om om
      ·have:=wk k om; omega)
    exact⟨d,y,g1,g2.trans P2,fun O=>g3 (O.perm P2)⟩
  ·refine⟨l,bs,by rw [if_neg dm],List.Perm.refl _,fun O i j w1 w2 w3=>B O 0 i j om w2 om w3⟩
theorem L5 (hm:2 ^ 41≤m){l:List Int}(hs:l.length<2 ^ 40)(C:Cm cmp c l):∃d,jl.f m l cmp=some d∧d.Perm l∧(Ord c l→Sg c d 0 l.length):=by
 have Bf:(2:Nat) ^ 40=1099511627776:=by decide
 have yG:(2:Nat) ^ 41=2199023255552:=by decide
 have p42:(2:Nat) ^ 42=4398046511104:=by decide
 unfold jl.f dh.f
 obtain⟨d1,t,y,k1,k2,k3,M1,S1⟩:=O9 (cmp:=cmp) (c:=c) hm rfl hs C m 0 l om om Mv.refl (fun O k hk=>absurd hk om)
 have k1:dh.l0 m (l.length:Int) cmp m l (0:Int) (20:Int)=_:=k1
 have l1:=M1.length
 rw [k1,aiI]
 dsimp only
 obtain⟨d2,e2,M2,S2⟩:=F9 (a:=20*t) (b:=l.length) (cmp:=cmp) (c:=c) hm (l:=d1) om om om (C.perm M1.perm)
 rw [e2,aiI]
 have P2:=M2.perm.trans M1.perm
 obtain⟨d,y,g1,g2,g3⟩:=Ia (cmp:=cmp) (c:=c) (n:=l.length) hm m 20 d2 P2.length_eq.symm (by rw [P2.length_eq]; exact hs) (C.perm P2) om om om (fun O k i j w1 w2 w3 w4=>by
  have O:=O.perm P2.symm
  by_cases u1:k<t
  ·rw [M2.out i om,M2.out j om]; exact S1 O k u1 _ _ om w2 om
  ·exact S2 (O.perm M1.perm) _ _ om w2 om)
 have g1:dh.l1 m (l.length:Int) cmp m d2 (20:Int)=_:=g1
 rw [g1]
 exact⟨d,rfl,g2.trans P2,fun O=>g3 (O.perm P2)⟩
end
end Go.Proofs.YtifafejidnjckaaGreat
