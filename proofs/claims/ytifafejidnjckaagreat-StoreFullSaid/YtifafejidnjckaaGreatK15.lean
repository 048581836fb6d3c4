/- Part of the proof: PA8, PA9, PA10, PA11, PA12, PC1, PC2, PC3, PC4, PC5, PU1, PU2, PB3, PB5, PB6, PB7, PB8, PB10. -/
import Derived.Test.YtifafejidnjckaaGreatK14
set_option linter.unusedVariables false
set_option linter.unusedSimpArgs false
set_option maxRecDepth 100000
open Bool renaming and_eq_true → ae3, false_eq_true → afa, true_and → afP, not_true → afT
open Int renaming toNat_natCast → ae7
open List renaming getElem?_eq_some_iff → ae5, getElem?_eq_getElem → ae8, length_append → afb, length_cons → afc, mem_singleton → afd, drop_eq_getElem_cons → afe, getD_eq_getElem?_getD → aff, getElem?_append_right → afg, replicate → afh, mem_of_getElem? → afj, mem_append → afk, length_map → afl, getElem?_append_left → afm, append_assoc → afn, map_append → afo, getElem?_eq_none → afp, mem_cons → afq, all_eq_true → afr, mem_map → afu, getElem?_map → afv, drop_zero → afw, nil_append → afz, mem_append_left → afE, eq_nil_of_length_eq_zero → afG, length_set → afJ, getElem?_cons_zero → afK, take_succ_eq_append_getElem → afM, length_take → afO, all_cons → afQ, take_length → afS, drop_eq_nil_of_le → afY, append_nil → afZ, ext_getElem? → af0, getElem?_of_mem → af4, range → af7, set_append_right → agf, getElem?_set → agl, take_add_one → agm, idxOf_append → agn, nodup_append → ago, mem_filter → agp, idxOf_lt_length_of_mem → agq, length_range → agE, getElem?_range → agG
open Nat renaming le_refl → ae4, zero_le → afU, le_trans → afV, add_sub_cancel_left → afX, sub_self → aga
open Option renaming bind_some → aeZ, map_some → ae6
open Option.some renaming injEq → ae2, inj → afB
namespace Go.Uf
open Go Go.R
open Go.IntKind (i64 u64 u8 u32)
def dS (a L:Nat):List Int:=(af7 L).map fun i=>((a+i:Nat):Int)
theorem kJ (a L:Nat):(dS a L).length=L:=by simp [dS]
theorem rE (a L:Nat):dS a (L+1)=dS a L++[((a+L:Nat):Int)]:=by
 unfold dS; rw [List.range_succ,afo]; rfl
theorem CD {to:List Int}(o:NK to):∀L,NK (to++dS to.length L)∧(∀n,Rg to.length n→rp (to++dS to.length L) n=rp to n)∧∀n:Int,(to.length:Int)≤n→n<to.length+L→rp (to++dS to.length L) n=n
 | 0=>⟨by simpa [dS] using o,fun n _=>by simp [dS],fun n h1 h2=>by omega⟩
 | L+1=>by
  obtain⟨a,b,c⟩:=CD o L
  have hl:(to++dS to.length L).length=to.length+L:=by rw [afb,kJ]
  have e:to++dS to.length (L+1)=(to++dS to.length L)++[(((to++dS to.length L).length:Nat):Int)]:=by
   rw [rE,←afn,hl]
  obtain⟨g1,g2,g3⟩:=Vp a
  rw [←e] at g1 g2 g3
  refine⟨g1,fun n h=>?_,fun n h1 h2=>?_⟩
  ·rw [g2 n (by unfold Rg at h ⊢; rw [hl]; omega),b n h]
  ·by_cases h:n=to.length+L
   ·have:n=(((to++dS to.length L).length:Nat):Int):=by rw [hl]; omega
    rw [this]; exact g3
   ·rw [g2 n (by unfold Rg; rw [hl]; omega)]
    exact c n h1 om
theorem pq {N V:List ai}{n:Int}(h:Rg N.length n):fJ (N++V) n=fJ N n:=by
 have hl:n.toNat<N.length:=by have:=h.1; have:=h.2; omega
 unfold fJ
 rw [aff,aff,afm hl]
end Go.Uf
namespace Go.Proofs.YtifafejidnjckaaGreat
open Go Go.R Go.Uf
open Go.IntKind (i64 u64 u8 u32)
def Zi (s s':ab):Prop:=s.aa.length≤s'.aa.length∧(∀n,Rg s.aa.length n→jy s.aa (rp s.an n)→pk (fJ s.aa (rp s.an n)) (fJ s'.aa (rp s'.an n)))∧(∀n,Rg s.aa.length n→fJ s'.aa n=fJ s.aa n)∧gO s.aa (rp s.an) (rp s'.an)
theorem pk.refl (a:ai):pk a a:=⟨rfl,rfl,rfl,rfl⟩
theorem vk {n:ai}{size vZ z:Int}(h:dt n size=true)(f:Int→Int)(hf:∀a∈n.args,0≤f a∧f a<vZ)(h0:n.kind=0→0≤z)(h1:n.kind≠0→z=n.int):dt ⟨n.kind,z,n.label,n.args.map f⟩ vZ=true:=by
 unfold dt at h ⊢
 simp only at h ⊢
 by_cases k0:n.kind=0
 ·rw [if_pos k0] at h ⊢
  simp only [ae3,decide_eq_true_eq,List.isEmpty_map] at h ⊢
  exact⟨⟨h0 k0,h.1.2⟩,h.2⟩
 ·have hz:=h1 k0
  subst hz
  rw [if_neg k0] at h ⊢
  split at h
  ·rename_i k1; rw [if_pos k1]; simpa using h
  ·rename_i k1; rw [if_neg k1]
   split at h
   ·rename_i k2; rw [if_pos k2]; simpa using h
   ·rename_i k2; rw [if_neg k2]
    split at h
    ·rename_i k3; rw [if_pos k3]
     simp only [ae3,decide_eq_true_eq,afr,afl,afu] at h ⊢
     refine⟨h.1,?_⟩
     rintro x ⟨a,ha,rfl⟩
     exact hf a ha
    ·rename_i k3; rw [if_neg k3]
     split at h
     ·rename_i k4; rw [if_pos k4]; simpa using h
     ·cases h
theorem Ev {n:ai}{size vZ:Int}(h:dt n size=true)(hs:size≤vZ):dt n vZ=true:=by
 have:=vk (vZ:=vZ) (z:=n.int) h id (fun a ha=>by have:=(jq h).2 a ha; simp only [id]; omega) (fun k=>by
  unfold dt at h; rw [if_pos k] at h; simp only [ae3,decide_eq_true_eq] at h; exact h.1.1) (fun _=>rfl)
 rwa [List.map_id] at this
section
variable {m:Nat}{s:ab}
theorem Inv2.more (v:Inv2 s)(V:List ai)(hW:∀(i:Nat) x,V[i]? = some x→dt x ((s.aa.length+V.length:Nat):Int)=true∧(x.kind=0→x.int=((s.aa.length+i:Nat):Int)))(hl:s.aa.length+V.length≤8000) :
  Inv2 ⟨s.aA,s.aa++V,s.an++dS s.aa.length V.length⟩∧Zi s ⟨s.aA,s.aa++V,s.an++dS s.aa.length V.length⟩:=by
 have hlen:=v.inv.len
 have hV:∀x∈V,x.args.length≤8∧∀a∈x.args,Rg (s.aa.length+V.length) a:=fun x hx=>by
  obtain⟨i,hi⟩:=af4 hx
  obtain⟨T,ha⟩:=jq (hW i x hi).1
  exact⟨T.args,fun a h=>by have:=ha a h; unfold Rg; omega⟩
 obtain⟨g1,g2,g3⟩:=CD v.inv.ok V.length
 rw [hlen] at g1 g2 g3
 have hN:(s.aa++V).length=s.aa.length+V.length:=afb
 have hc:∀n,Rg (s.aa++V).length n→Rg s.aa.length n∨((s.aa.length:Int)≤n∧n<s.aa.length+V.length):=fun n h=>by
  rw [hN] at h; unfold Rg at h ⊢; omega
 have up:∀n,Rg s.aa.length n→Rg (s.aa++V).length n:=fun n h=>by rw [hN]; unfold Rg at h ⊢; omega
 have old:∀n,Rg s.aa.length n→rp (s.an++dS s.aa.length V.length) n=rp s.an n:=g2
 have new:∀n:Int,(s.aa.length:Int)≤n→n<s.aa.length+V.length→rp (s.an++dS s.aa.length V.length) n=n:=g3
 refine⟨⟨⟨v.inv.made,?_,by show (s.aa++V).length≤8000; omega,g1,⟨fun n h=>?_,fun n h=>?_,fun n h=>?_⟩,?_⟩,?_,?_⟩,?_,fun n h hv=>?_,fun n h=>pq h,fun x y hx hy h=>?_⟩
 ·show (_++_:List Int).length=_
  rw [afb,kJ,hN,hlen]
 ·show Rg _ (rp (s.an++dS s.aa.length V.length) n)
  rcases hc n h with h | ⟨h1,h2⟩
  ·rw [old n h]; exact up _ (v.inv.cn.rg n h)
  ·rw [new n h1 h2]; exact h
 ·show rp (s.an++_) (rp (s.an++dS s.aa.length V.length) n)=rp (s.an++_) n
  rcases hc n h with h | ⟨h1,h2⟩
  ·rw [old n h,old _ (v.inv.cn.rg n h),v.inv.cn.id n h]
  ·rw [new n h1 h2,new n h1 h2]
 ·show Bt (s.aa++V) (rp (s.an++dS s.aa.length V.length) n) n
  rcases hc n h with h | ⟨h1,h2⟩
  ·rw [old n h]
   have:=v.inv.cn.bt n h
   unfold Bt jy at this ⊢
   rw [pq h,pq (v.inv.cn.rg n h)]; exact this
  ·rw [new n h1 h2]; exact Bt.refl
 ·intro x hx
  rcases afk.1 hx with hx | hx
  ·obtain⟨a1,a2⟩:=v.inv.args x hx
   exact⟨a1,fun a ha=>up a (a2 a ha)⟩
  ·obtain⟨a1,a2⟩:=hV x hx
   exact⟨a1,fun a ha=>by show Rg (s.aa++V).length a; rw [hN]; exact a2 a ha⟩
 ·intro x y hx hy he vx vy
  have he:rp (s.an++dS s.aa.length V.length) x=rp (s.an++dS s.aa.length V.length) y:=he
  rcases hc x hx with hx1 | ⟨x1,x2⟩<;>rcases hc y hy with Tq | ⟨y1,y2⟩
  ·rw [old x hx1,old y Tq] at he
   have wx:fJ (s.aa++V) x=fJ s.aa x:=pq hx1
   have wy:fJ (s.aa++V) y=fJ s.aa y:=pq Tq
   have vx':jy s.aa x:=by unfold jy at vx ⊢; rw [←wx]; exact vx
   have vy':jy s.aa y:=by unfold jy at vy ⊢; rw [←wy]; exact vy
   obtain⟨t,q⟩:=v.cl x y hx1 Tq he vx' vy'
   show pk (fJ (s.aa++V) x) (fJ (s.aa++V) y)∧∀(i:Nat) (a b:Int),(fJ (s.aa++V) x).args[i]? = some a→(fJ (s.aa++V) y).args[i]? = some b→rp (s.an++dS s.aa.length V.length) a=rp (s.an++dS s.aa.length V.length) b
   rw [wx,wy]
   refine⟨t,fun i a b ha hb=>?_⟩
   rw [old a ((v.inv.args _ (lG hx1)).2 a (afj ha)),old b ((v.inv.args _ (lG Tq)).2 b (afj hb))]
   exact q i a b ha hb
  ·rw [old x hx1,new y y1 y2] at he
   have:=(v.inv.cn.rg x hx1).2
   omega
  ·rw [old y Tq,new x x1 x2] at he
   have:=(v.inv.cn.rg y Tq).2
   omega
  ·rw [new x x1 x2,new y y1 y2] at he
   subst he
   refine⟨pk.refl _,fun i a b ha hb=>?_⟩
   rw [ha] at hb; cases hb; rfl
 ·intro n h
  show dt (fJ (s.aa++V) n) ((s.aa++V).length:Int)=true∧((fJ (s.aa++V) n).kind=0→(fJ (s.aa++V) n).int=n)
  rcases hc n h with h3 | ⟨h1,h2⟩
  ·rw [pq h3,hN]
   exact⟨Ev (v.vn n h3).1 om,(v.vn n h3).2⟩
  ·have hg:=Cq h
   obtain⟨i,rfl⟩:∃i:Nat,n=((s.aa.length+i:Nat):Int):=⟨(n - s.aa.length).toNat,om⟩
   have hg:(s.aa++V)[s.aa.length+i]? = some (fJ (s.aa++V) ((s.aa.length+i:Nat):Int)):=hg
   rw [afg om,afX] at hg
   rw [hN]
   exact hW i _ hg
 ·show s.aa.length≤(s.aa++V).length
  omega
 ·show pk _ (fJ (s.aa++V) (rp (s.an++dS s.aa.length V.length) n))
  rw [old n h,pq (v.inv.cn.rg n h)]
  exact pk.refl _
 ·show rp (s.an++dS s.aa.length V.length) x=rp (s.an++dS s.aa.length V.length) y
  rw [old x hx,old y hy]; exact h
end
section
variable {m:Nat}{s:ab}
theorem MZ {v:ai}(a8:v.args.length≤8)(aR:∀a∈v.args,0≤a∧a<8000)(hN:s.aa.length≤8000)(s2:ab):∀(k i:Nat),i≤v.args.length→v.args.length - i<k→
  aO.l1 m s v k (i:Int) ((v.args.take i).map (· + (s.aa.length:Int))++v.args.drop i) s2=some ((v.args.length:Int),v.args.map (· + (s.aa.length:Int)),s2)∧
  aO.l2 m s v k (i:Int) ((v.args.take i).map (· + (s.aa.length:Int))++v.args.drop i) s2=some ((v.args.length:Int),v.args.map (· + (s.aa.length:Int)),s2)
 | 0,i,h1,h2=>by omega
 | k+1,i,h1,h2=>by
  simp only [aO.l1,aO.l2]
  by_cases hi:i<v.args.length
  ·have d:decide ((i:Int)<(v.args.length:Int))=true:=by rw [decide_eq_true_eq]; omega
   have hl:((v.args.take i).map (· + (s.aa.length:Int))).length=i:=by rw [afl,afO]; omega
   have ed:v.args.drop i=v.args[i]::v.args.drop (i+1):=afe hi
   have et:v.args.take (i+1)=v.args.take i++[v.args[i]]:=afM hi
   have eg:((v.args.take i).map (· + (s.aa.length:Int))++v.args.drop i)[i]? = some v.args[i]:=by
    rw [afg om,hl,aga,ed]; rfl
   have es:((v.args.take i).map (· + (s.aa.length:Int))++v.args.drop i).set i (v.args[i]+(s.aa.length:Int))=(v.args.take (i+1)).map (· + (s.aa.length:Int))++v.args.drop (i+1):=by
    rw [agf _ _ om,hl,aga,ed,et,afo,afn]; rfl
   obtain⟨b1,b2⟩:=aR v.args[i] (List.getElem_mem hi)
   have ew:i64.wrap ((i:Int)+1)=((i+1:Nat):Int):=by rw [mf om om]; omega
   have ev:i64.wrap (v.args[i]+(s.aa.length:Int))=v.args[i]+(s.aa.length:Int):=mf om om
   rw [if_pos d,if_pos d,CS eg]
   simp only [aeZ,ew,ev,ae7,es]
   exact MZ a8 aR hN s2 k (i+1) om om
  ·have d:decide ((i:Int)<(v.args.length:Int))=false:=by rw [decide_eq_false_iff_not]; omega
   have e:i=v.args.length:=by omega
   rw [if_neg (by rw [d]; decide),if_neg (by rw [d]; decide),e]
   simp
end
section
variable {m:Nat}{s:ab}
def Small (l:List cH):Prop:=l.length≤60∧∀x∈l,x.fO.length≤40
theorem Ew (l:List cH)(hl:l.length<2 ^ 63):∀(k i:Nat),i≤l.length→l.length - i<k→(∃b,cp.l0 m l k (i:Int)=some (.inl b)∧b=true)∨(∃z,cp.l0 m l k (i:Int)=some (.inr z)∧∀j,i≤j→∀x,l[j]? = some x→x.fO.length≤40)
 | 0,i,h1,h2=>by omega
 | k+1,i,h1,h2=>by
  have Zj:(2:Nat) ^ 63=9223372036854775808:=by decide
  simp only [cp.l0]
  by_cases hi:i<l.length
  ·have d:decide ((i:Int)<(l.length:Int))=true:=by rw [decide_eq_true_eq]; omega
   have eg:=ae8 hi
   generalize l[i]=n at eg
   have ew:i64.wrap ((i:Int)+1)=((i+1:Nat):Int):=by rw [mf om om]; omega
   rw [if_pos d,CS eg]
   simp only [aeZ,ew]
   split
   ·exact .inl ⟨_,rfl,rfl⟩
   split
   ·exact .inl ⟨_,rfl,rfl⟩
   rename_i h40
   rcases Ew l hl k (i+1) om om with h | ⟨z,e,h⟩
   ·exact .inl h
   ·refine .inr ⟨z,e,fun j hj x hx=>?_⟩
    by_cases hji:j=i
    ·subst hji
     rw [eg] at hx; cases hx
     simp only [decide_eq_true_eq] at h40; omega
    ·exact h j om x hx
  ·have d:decide ((i:Int)<(l.length:Int))=false:=by rw [decide_eq_false_iff_not]; omega
   rw [if_neg (by rw [d]; decide)]
   refine .inr ⟨_,rfl,fun j hj x hx=>?_⟩
   rw [afp om] at hx; cases hx
theorem O7 (hm:2 ^ 63≤m)(l:List cH)(hl:l.length<2 ^ 63):∃b,cp.f m l=some b∧(b=false→Small l):=by
 have Zj:(2:Nat) ^ 63=9223372036854775808:=by decide
 have p51:(2:Nat) ^ 63=9223372036854775808:=by decide
 unfold cp.f
 rcases Ew (m:=m) l hl m 0 (afU _) om with⟨b,e,rfl⟩| ⟨z,e,h⟩
 ·have e:cp.l0 m l m 0=_:=e
  rw [e]
  exact⟨true,rfl,fun h=>by cases h⟩
 ·have e:cp.l0 m l m 0=_:=e
  rw [e]
  refine⟨_,rfl,fun hb=>⟨?_,fun x hx=>?_⟩⟩
  ·simp only [decide_eq_false_iff_not] at hb; omega
  ·obtain⟨j,hj⟩:=af4 hx
   exact h j (afU _) x hj
theorem O8:Inv2 ⟨true,[],[]⟩:=by
 have no:∀(P:Int→Prop) (n:Int),Rg ([]:List ai).length n→P n:=fun P n h=>by have:=h.1; have:=h.2; simp at this; omega
 exact⟨⟨rfl,rfl,by simp,H3,⟨fun n h=>no _ n h,fun n h=>no _ n h,fun n h=>no _ n h⟩,fun v h=>by simp at h⟩,fun x y hx=>(no (fun _=>False) x hx).elim,fun n h=>(no (fun _=>False) n h).elim⟩
def gx (s:ab):List Int:=(af7 s.aa.length).map fun (i:Nat)=>rp s.an (i:Int)
theorem Io (a:List Int)(hl:a.length<2 ^ 63):∀(k i:Nat),i≤a.length→a.length - i<k→db.l0 m a a k (i:Int)=some (.inr (a.length:Int))
 | 0,i,h1,h2=>by omega
 | k+1,i,h1,h2=>by
  have Zj:(2:Nat) ^ 63=9223372036854775808:=by decide
  simp only [db.l0]
  by_cases hi:i<a.length
  ·have d:decide ((i:Int)<(a.length:Int))=true:=by rw [decide_eq_true_eq]; omega
   have ew:i64.wrap ((i:Int)+1)=((i+1:Nat):Int):=by rw [mf om om]; omega
   rw [if_pos d,CS (ae8 hi)]
   simp only [aeZ,ew,BEq.rfl,afT,afa,if_false]
   exact Io a hl k (i+1) om om
  ·have d:decide ((i:Int)<(a.length:Int))=false:=by rw [decide_eq_false_iff_not]; omega
   have e:i=a.length:=by omega
   rw [if_neg (by rw [d]; decide),e]
theorem AM (a:List Int)(hl:a.length<2 ^ 63)(hm:2 ^ 63≤m):db.f m a a=some true:=by
 have Zj:(2:Nat) ^ 63=9223372036854775808:=by decide
 have p51:(2:Nat) ^ 63=9223372036854775808:=by decide
 have:=Io (m:=m) a hl m 0 (afU _) om
 have this:db.l0 m a a m 0=_:=this
 simp only [db.f,BEq.rfl,afT,afa,if_false,this,aeZ]
theorem Su (v:Inv s):ec.f m s=some (s.aa.length:Int):=by
 simp only [ec.f,cw.f,v.made,aeZ,afT,afa,if_false]
end
section
variable {m:Nat}{s:ab}
theorem CE {n:Int}(h:Rg s.aa.length n):ix (gx s) n=some (rp s.an n):=by
 have hl:n.toNat<s.aa.length:=by have:=h.1; have:=h.2; omega
 have hn:((n.toNat:Nat):Int)=n:=by have:=h.1; omega
 unfold ix gx
 rw [if_pos h.1,afv,agG hl,ae6,hn]
theorem gN:(gx s).length=s.aa.length:=by unfold gx; rw [afl,agE]
end
end Go.Proofs.YtifafejidnjckaaGreat
namespace Go.Uf
open Go Go.R
open Go.IntKind (i64 u64 u8 u32)
end Go.Uf
namespace Go.Proofs.YtifafejidnjckaaGreat
open Go Go.R Go.Uf
open Go.IntKind (i64 u64 u8 u32)
structure VH (s:ab)(a b:Int)(l:List Int)(ok:Bool)(s':ab):Prop where
 un:H6 s s' l
 inv:Inv s'
 len:l.length≤8000
 no:ok=false→∀T,Cl s.aa T→gO s.aa (rp s.an) T→T a=T b→False
 yes:ok=true→Cl s.aa (rp s'.an)∧gO s.aa (rp s.an) (rp s'.an)∧rp s'.an a=rp s'.an b∧∀T,Cl s.aa T→gO s.aa (rp s.an) T→T a=T b→gO s.aa (rp s'.an) T
section
variable {m:Nat}{s:ab}{a b:Int}
theorem Ip (hm:2000000≤m)(v:Inv2 s)(a b:Int) :
  (qZ s [a,b]=false∧dG.f m s a b=some (0,[],1,s)∧di.f m s a b=some ([],1,s))∨
  (qZ s [a,b]=true∧∃l ok s',VH s a b l ok s'∧dG.f m s a b=some (if ok=true then (if MM s.aa l=[] then (1,[],0,s) else (-1,MM s.aa l,0,s)) else (0,[],0,s))∧
   di.f m s a b=some (if ok=true then (MM s.aa l,0,s') else ([],8,s))):=by
 unfold dG.f di.f
 rw [OX hm v.inv.made [a,b] (by simp)]
 show _∨(_∧∃l ok s',_∧((some (if qZ s [a,b]=true then (0:Int) else 1)).bind _)=_∧((some (if qZ s [a,b]=true then (0:Int) else 1)).bind _)=_)
 cases hn:qZ s [a,b] with
 | false=>
  refine .inl ⟨rfl,?_,?_⟩
  ·show ((some (if qZ s [a,b]=true then (0:Int) else 1)).bind _)=_
   rw [hn,aeZ]; rfl
  ·show ((some (if qZ s [a,b]=true then (0:Int) else 1)).bind _)=_
   rw [hn,aeZ]; rfl
 | true=>
  obtain⟨ra,rb⟩:=Gd hn
  obtain⟨l,ok,s',e,u,v',hl,h1,h2⟩:=MN hm v.inv v.cl ra rb
  have eN:s'.aa=s.aa:=u.2.1
  refine .inr ⟨rfl,l,ok,s',⟨u,v',hl,h1,h2⟩,?_,?_⟩
  ·rw [if_pos rfl,aeZ,if_neg (by decide),e,aeZ]
   simp only [Ml (m:=m) om hl u,aeZ]
   rw [Ig hm hl (fun n hn=>by rw [←v.inv.len]; exact (u.2.2.2.1 n hn).1)]
   simp only [aeZ]
   cases ok with
   | false=>rfl
   | true=>
    rw [if_neg (by simp),if_pos rfl]
    by_cases hb:MM s.aa l=[]
    ·rw [if_pos hb,hb]; rfl
    ·rw [if_neg hb,if_neg]
     intro h
     apply hb
     have:((MM s.aa l).length:Int)=0:=by simpa using h
     exact afG om
  ·rw [if_pos rfl,aeZ,if_neg (by decide),e,aeZ]
   cases ok with
   | false=>
    simp only [Ml (m:=m) om hl u,aeZ]
    rfl
   | true=>
    rw [if_neg (show ¬(!(l,true,s').2.1)=true by simp)]
    simp only []
    rw [Ig hm hl (fun n hn=>by rw [eN,←v.inv.len]; exact (u.2.2.2.1 n hn).1),eN]
    rfl
end
section
variable {m:Nat}{s:ab}{a b:Int}
theorem VI {l:List Int}{k:Nat}{x:Int}(h:l[k]? = some x):gt l k=x:=by
 unfold gt
 rw [aff,h]; rfl
end
end Go.Proofs.YtifafejidnjckaaGreat
namespace Go.Proofs.YtifafejidnjckaaGreat
open Go Go.R
open Go.IntKind (i64 u64 u8 u32)
theorem CF {m:Nat}(c:Int):ig.f m c=some (jT c):=by
 unfold ig.f
 by_cases h1:97≤c<;>by_cases h2:c≤122<;>by_cases h3:65≤c<;>by_cases h4:c≤90<;>by_cases h5:48≤c<;>by_cases h6:c≤57<;>simp [jT,h1,h2,h3,h4,h5,h6]<;>omega
theorem Ey {m:Nat}{s:ByteArray}(hs:s.size≤16):∀(f i:Nat),s.size - i<f→i≤s.size→
  ∃o,dp.l0 m s f (i:Int)=some o∧((∃x,o = .inr x)∧((s.data.toList.drop i).all fun c=>jT (c.toNat:Int))=true∨o = .inl false∧((s.data.toList.drop i).all fun c=>jT (c.toNat:Int))=false)
 | 0,i,hf,_=>absurd hf om
 | f+1,i,hf,hi=>by
  unfold dp.l0
  by_cases h:i<s.size
  ·obtain⟨c,hc,hb⟩:=xl h
   obtain⟨h4,h5⟩:=ae5.1 hc
   have hd:s.data.toList.drop i=c::s.data.toList.drop (i+1):=by rw [←h5]; exact afe h4
   rw [if_pos dm,hb,aeZ,CF,aeZ,hd,afQ]
   cases hl:jT (c.toNat:Int) with
   | false=>exact⟨_,rfl,.inr ⟨rfl,rfl⟩⟩
   | true=>
    obtain⟨o,h1,h2⟩:=Ey (m:=m) hs f (i+1) om om
    rw [if_neg (by simp),br om om,show (i:Int)+1=((i+1:Nat):Int) by omega,h1]
    exact⟨o,rfl,by simpa using h2⟩
  ·refine⟨_,by rw [if_neg dm],.inl ⟨⟨_,rfl⟩,?_⟩⟩
   rw [afY (by simp; omega)]; rfl
def M3 (s:ByteArray):Bool:=decide (1≤s.data.toList.length)&&decide (s.data.toList.length≤16)&&s.data.toList.all fun c=>jT (c.toNat:Int)
theorem Gi {m:Nat}(hm:20≤m)(s:ByteArray):dp.f m s=some (M3 s):=by
 have hsz:s.size=s.data.toList.length:=by simp
 unfold dp.f M3
 by_cases h1:1≤s.data.toList.length
 ·by_cases h2:s.data.toList.length≤16
  ·obtain⟨o,k1,k2⟩:=Ey (m:=m) (s:=s) om m 0 om om
   have k1:dp.l0 m s m 0=_:=k1
   rw [afw] at k2
   rw [if_neg dm,if_neg dm,k1,aeZ,decide_eq_true h1,decide_eq_true h2]
   simp only [afP]
   rcases k2 with⟨⟨x,rfl⟩,k⟩| ⟨rfl,k⟩
   ·rw [k]
   ·rw [k]
  ·rw [if_neg dm,if_pos dm,decide_eq_false h2,Bool.and_false]; rfl
 ·rw [if_pos dm,decide_eq_false h1]; rfl
theorem wa {m:Nat}(hm:20≤m)(s:ByteArray):gJ.f m s=some (oo s):=by
 have hsz:s.size=s.data.toList.length:=by simp
 unfold gJ.f oo
 show (if (s.data.toList==[124])=true then _ else if (s.data.toList==[35])=true then _ else _)=_
 cases h1:s.data.toList==[124] with
 | true=>rfl
 | false=>
  cases h2:s.data.toList==[35] with
  | true=>rfl
  | false=>
   simp only [afa,if_false,Bool.false_or]
   rw [Gi hm,aeZ]
   unfold M3 Ej
   cases hl:s.data.toList with
   | nil=>rfl
   | cons c cs=>
    obtain⟨c',g1,g2⟩:=xl (s:=s) (i:=0) (by rw [hsz,hl]; simp)
    rw [hl] at g1
    simp only [afK,ae2] at g1
    subst g1
    have g2:bt s 0=_:=g2
    rw [g2]
    simp only [aeZ,afc]
    cases ha:(c::cs).all fun c=>jT (c.toNat:Int) with
    | false=>simp
    | true=>
     by_cases h3:cs.length≤15
     ·rw [decide_eq_true (show 1≤cs.length+1 by omega),decide_eq_true (show cs.length+1≤16 by omega),decide_eq_true h3]
      simp only [Bool.and_self,if_true,Bool.and_true,afP]
      by_cases h4:(97:Int)≤(c.toNat:Int)
      ·rw [if_pos (by simpa using h4),decide_eq_true h4]; rfl
      ·rw [if_neg (by simpa using h4),decide_eq_false h4]; rfl
     ·rw [decide_eq_false (show ¬cs.length+1≤16 by omega),decide_eq_false h3]; simp
theorem Ez {m:Nat}{n:ai}{size:Int}(h8:n.args.length≤8):∀(f i:Nat),n.args.length - i<f→i≤n.args.length→
  ∃o,ca.l0 m n size f (i:Int)=some o∧((∃x,o = .inr x)∧((n.args.drop i).all fun a=>decide (0≤a)&&decide (a<size))=true∨o = .inl false∧((n.args.drop i).all fun a=>decide (0≤a)&&decide (a<size))=false)
 | 0,i,hf,_=>absurd hf om
 | f+1,i,hf,hi=>by
  unfold ca.l0
  by_cases h:i<n.args.length
  ·have hd:n.args.drop i=gt n.args i::n.args.drop (i+1):=by
    obtain⟨h4,h5⟩:=ae5.1 (bZ h)
    rw [←h5]; exact afe h4
   rw [if_pos dm,dR h,aeZ,hd,afQ,aeZ]
   by_cases h1:gt n.args i<0
   ·rw [if_pos (by simpa using h1),decide_eq_false (show ¬0≤gt n.args i by omega)]
    exact⟨_,rfl,.inr ⟨rfl,rfl⟩⟩
   ·rw [if_neg (by simpa using h1),decide_eq_true (show 0≤gt n.args i by omega)]
    by_cases h2:gt n.args i<size
    ·obtain⟨o,k1,k2⟩:=Ez (m:=m) (size:=size) h8 f (i+1) om om
     rw [if_neg dm,decide_eq_true h2,br om om,show (i:Int)+1=((i+1:Nat):Int) by omega,k1]
     exact⟨o,rfl,by simpa using k2⟩
    ·rw [if_pos dm,decide_eq_false h2]
     exact⟨_,rfl,.inr ⟨rfl,rfl⟩⟩
  ·refine⟨_,by rw [if_neg dm],.inl ⟨⟨_,rfl⟩,?_⟩⟩
   rw [afY om]; rfl
theorem sH {m:Nat}(hm:20≤m)(n:ai)(size:Int):ca.f m n size=some (dt n size):=by
 unfold ca.f dt
 by_cases k0:n.kind=0
 ·rw [if_pos (by simpa using k0),if_pos k0]
  by_cases h1:0≤n.int
  ·rw [if_pos (by simpa using h1),show decide (0≤n.int)=true by simpa using h1]
   show (if (n.label.data.toList==[])=true then _ else _)=_
   cases n.label.data.toList==[] with
   | true=>rw [if_pos rfl,Ek]; rfl
   | false=>rfl
  ·rw [if_neg (by simpa using h1),show decide (0≤n.int)=false by simp; omega]; rfl
 rw [if_neg (by simpa using k0),if_neg k0]
 by_cases k1:n.kind=1
 ·rw [if_pos (by simpa using k1),if_pos k1]
  by_cases h1 : -1099511627776≤n.int
  ·rw [if_pos (by simpa using h1),show decide (-1099511627776≤n.int)=true by simpa using h1]
   by_cases h3:n.int≤1099511627776
   ·rw [if_pos (by simpa using h3),show decide (n.int≤1099511627776)=true by simpa using h3]
    show (if (n.label.data.toList==[])=true then _ else _)=_
    cases n.label.data.toList==[] with
    | true=>rw [if_pos rfl,Ek]; rfl
    | false=>rfl
   ·rw [if_neg (by simpa using h3),show decide (n.int≤1099511627776)=false by simp; omega]; rfl
  ·rw [if_neg (by simpa using h1),show decide (-1099511627776≤n.int)=false by simp; omega]; rfl
 rw [if_neg (by simpa using k1),if_neg k1]
 by_cases k2:n.kind=2
 ·rw [if_pos (by simpa using k2),if_pos k2,wa hm,aeZ]
  cases oo n.label with
  | false=>simp
  | true=>
   rw [if_pos rfl]
   cases h1:n.int==0 with
   | false=>rfl
   | true=>rw [if_pos rfl,Ek]; rfl
 rw [if_neg (by simpa using k2),if_neg k2]
 by_cases k4:n.kind=4
 ·rw [if_pos (by simpa using k4),if_neg (show ¬n.kind=3 by omega),if_pos k4]
  unfold AH
  show (if (n.label.data.toList==[112,114,111,99])=true then _ else if (n.label.data.toList==[99,101,108,108])=true then _ else if (n.label.data.toList==[112,111,114,116])=true then _ else _)=_
  by_cases h1:0≤n.int
  ·have d1:decide (n.int≥0)=true:=decide_eq_true h1
   rw [d1]
   cases n.label.data.toList==[112,114,111,99]<;>cases n.label.data.toList==[99,101,108,108]<;>cases n.label.data.toList==[112,111,114,116]<;>first | rfl | (show some ((n.args.length:Int)==(0:Int))=_; rw [Ek]; rfl)
  ·have d1:decide (n.int≥0)=false:=decide_eq_false h1
   rw [d1]
   cases n.label.data.toList==[112,114,111,99]<;>cases n.label.data.toList==[99,101,108,108]<;>cases n.label.data.toList==[112,111,114,116]<;>rfl
 rw [if_neg (by simpa using k4)]
 by_cases k3:n.kind=3
 ·rw [if_pos (by simpa using k3),if_pos k3,wa hm,aeZ]
  cases oo n.label with
  | false=>simp
  | true=>
   cases h1:n.int==0 with
   | false=>rfl
   | true=>
    simp only [afT,afa,if_false,Bool.and_self,afP]
    by_cases g1:1≤n.args.length
    ·rw [if_neg dm,decide_eq_true g1]
     by_cases g2:n.args.length≤8
     ·obtain⟨o,k1,k2⟩:=Ez (m:=m) (size:=size) g2 m 0 om om
      have k1:ca.l0 m n size m 0=_:=k1
      rw [afw] at k2
      rw [if_neg dm,decide_eq_true g2,k1,aeZ]
      simp only [afP]
      rcases k2 with⟨⟨x,rfl⟩,k⟩| ⟨rfl,k⟩
      ·rw [k]
      ·rw [k]
     ·rw [if_pos dm,decide_eq_false g2]; simp
    ·rw [if_pos dm,decide_eq_false g1]; simp
 rw [if_neg (by simpa using k3),if_neg k3,if_neg k4]
theorem AN {m:Nat}(hm:20≤m){t:bm}(hl:t.nodes.length≤8000):∀(f i:Nat),t.nodes.length - i<f→i≤t.nodes.length→
  ∃o,cR.l0 m t f (i:Int)=some o∧((∃x,o = .inr x)∧((t.nodes.drop i).all fun n=>dt n t.nodes.length)=true∨o = .inl false∧((t.nodes.drop i).all fun n=>dt n t.nodes.length)=false)
 | 0,i,hf,_=>absurd hf om
 | f+1,i,hf,hi=>by
  unfold cR.l0
  by_cases h:i<t.nodes.length
  ·have hx:ix t.nodes (i:Int)=some t.nodes[i]:=by unfold ix; rw [if_pos om]; simp [h]
   rw [if_pos dm,hx,aeZ,sH hm,aeZ,afe h,afQ]
   cases hb:dt t.nodes[i] t.nodes.length with
   | false=>exact⟨_,rfl,.inr ⟨rfl,rfl⟩⟩
   | true=>
    obtain⟨o,k1,k2⟩:=AN (m:=m) hm hl f (i+1) om om
    rw [if_neg (by simp),br om om,show (i:Int)+1=((i+1:Nat):Int) by omega,k1]
    exact⟨o,rfl,by simpa using k2⟩
  ·refine⟨_,by rw [if_neg dm],.inl ⟨⟨_,rfl⟩,?_⟩⟩
   rw [afY om]; rfl
theorem EA {m:Nat}(hm:2 ^ 30≤m)(t:bm):cR.f m t=some (jw t):=by
 have vX:(2:Nat) ^ 30=1073741824:=by decide
 unfold cR.f jw
 by_cases h1:1≤t.nodes.length
 ·rw [if_neg dm,decide_eq_true h1]
  by_cases h2:t.nodes.length≤8000
  ·rw [if_neg dm,decide_eq_true h2]
   by_cases h3:0≤t.root
   ·rw [if_neg dm,decide_eq_true h3]
    by_cases h4:t.root<t.nodes.length
    ·rw [if_neg dm,decide_eq_true h4]
     obtain⟨o,k1,k2⟩:=AN (m:=m) (t:=t) om h2 m 0 om om
     have k1:cR.l0 m t m 0=_:=k1
     rw [afw] at k2
     rw [k1,aeZ]
     simp only [afP]
     rcases k2 with⟨⟨x,rfl⟩,k⟩| ⟨rfl,k⟩
     ·rw [k]
     ·rw [k]
    ·rw [if_pos dm,decide_eq_false h4]; rfl
   ·rw [if_pos dm,decide_eq_false h3]; rfl
  ·rw [if_pos dm,decide_eq_false h2]; rfl
 ·rw [if_pos dm,decide_eq_false h1]; rfl
theorem vY.refl {l:List ai}{c:List Int}(i:Nat):vY l c i i:=⟨Alike.refl _,fun _ _=>rfl⟩
theorem vY.symm {l:List ai}{c:List Int}{i j:Nat}(h:vY l c i j):vY l c j i:=⟨h.1.symm,fun k hk=>(h.2 k (by have:=h.1.len; unfold na at *; omega)).symm⟩
theorem vY.trans {l:List ai}{c:List Int}{i j q:Nat}(h:vY l c i j)(g:vY l c j q):vY l c i q:=
 ⟨h.1.trans g.1,fun k hk=>(h.2 k hk).trans (g.2 k (by have:=h.1.len; unfold na at *; omega))⟩
theorem Jy.symm {l:List ai}{R:Nat→Nat→Prop}(B:Jy l R):Jy l fun i j=>R j i:=
 ⟨fun i j h=>(B.Cu j i h).symm,fun i j h=>(B.top j i h).symm,fun i j h k hk=>B.arg j i h k (by have:=(B.top j i h).len; omega)⟩
structure NM (l:List ai)(cls:List Int)(dn:List Bool)(fs od:List Int):Prop where
 lc:cls.length=l.length
 ld:dn.length=l.length
 Zk:od.Nodup
 Sv:∀x∈od,0≤x∧x<l.length
 NN:∀i,i<l.length→(gb dn i=true↔(i:Int)∈od)
 zQ:∀i:Nat,(i:Int)∈od→∀k,k<na l i→((ar l i k:Nat):Int)∈od∧od.idxOf ((ar l i k:Nat):Int)<od.idxOf (i:Int)
 Wq:fs.Nodup
 fst:∀f∈fs,f∈od∧gt cls f.toNat=f
 uh:∀i:Nat,(i:Int)∈od→gt cls i∈fs∧vY l cls i (gt cls i).toNat
 apart:∀f∈fs,∀g∈fs,vY l cls f.toNat g.toNat→f=g
 coarse:∀R,Jy l R→∀i j:Nat,R i j→(i:Int)∈od→(j:Int)∈od→gt cls i=gt cls j
theorem Iq {od:List Int}{n:Nat}(h:od.Nodup)(hr:∀x∈od,0≤x∧x<n):od.length≤n:=by
 have:=h.length_le_of_subset (l₂:=ints n) (fun x hx=>lb.2 (hr x hx))
 rwa [gk] at this
theorem NM.Zl {l cls dn fs od}(P:NM l cls dn fs od):∀f∈fs,0≤f∧f<l.length:=fun f hf=>P.Sv f (P.fst f hf).1
theorem M4 {l:List ai}{cls:List Int}{dn:List Bool}{fs od:List Int}(ok:nH l)(P:NM l cls dn fs od){i:Nat}(hi:i<l.length)(hn:(i:Int)∉od)(hr:Rdy l dn i){v:Int}
  (hv:v=i∧(∀f∈fs,¬vY l cls i f.toNat)∨v∈fs∧vY l cls i v.toNat) :
  NM l (cls.set i v) (dn.set i true) (if v=i then fs++[(i:Int)] else fs) (od++[(i:Int)]):=by
 have hfi:(i:Int)∉fs:=fun h=>hn (P.fst _ h).1
 have Ts:v∈fs→v≠i:=fun h e=>hfi (e ▸ h)
 have gc:∀x,x≠i→gt (cls.set i v) x=gt cls x:=fun x hx=>by rw [gW (by rw [P.lc]; exact hi),if_neg hx]
 have gi:gt (cls.set i v) i=v:=by rw [gW (by rw [P.lc]; exact hi),if_pos rfl]
 have ne:∀{x:Nat},(x:Int)∈od→x≠i:=fun h e=>hn (by rw [←e]; exact h)
 have ad:∀x:Nat,((x:Int)∈od∨x=i)→∀k,k<na l x→((ar l x k:Nat):Int)∈od:=fun x hx k hk=>by
  rcases hx with hx | rfl
  ·exact (P.zQ x hx k hk).1
  ·exact (P.NN _ (nq ok hi hk).1).1 (hr k hk)
 have sm:∀x y:Nat,((x:Int)∈od∨x=i)→((y:Int)∈od∨y=i)→(vY l (cls.set i v) x y↔vY l cls x y):=fun x y hx hy=>by
  constructor
  ·rintro⟨a,b⟩
   refine⟨a,fun k hk=>?_⟩
   have:=b k hk
   rwa [gc _ (ne (ad x hx k hk)),gc _ (ne (ad y hy k (by have:=a.len; unfold na at *; omega)))] at this
  ·rintro⟨a,b⟩
   refine⟨a,fun k hk=>?_⟩
   rw [gc _ (ne (ad x hx k hk)),gc _ (ne (ad y hy k (by have:=a.len; unfold na at *; omega)))]
   exact b k hk
 have fo:∀f∈fs,((f.toNat:Nat):Int)∈od∧((f.toNat:Nat):Int)=f:=fun f hf=>by
  have h:=P.fst f hf
  have r:=P.Sv f h.1
  have e:((f.toNat:Nat):Int)=f:=by omega
  exact⟨by rw [e]; exact h.1,e⟩
 have split:∀{x:Int},x∈od++[(i:Int)]→x∈od∨x=i:=fun h=>by
  rcases afk.1 h with h | h
  ·exact .inl h
  ·exact .inr (afd.1 h)
 have one:∀R,Jy l R→∀j:Nat,R i j→(j:Int)∈od→v=gt cls j:=fun R B j hR hj=>by
  obtain⟨g1,g2⟩:=P.uh j hj
  have s1:vY l cls i j:=⟨B.top i j hR,fun k hk=>P.coarse R B _ _ (B.arg i j hR k hk) (ad i (.inr rfl) k hk) (ad j (.inl hj) k (by have:=(B.top i j hR).len; unfold na at *; omega))⟩
  rcases hv with⟨rfl,h⟩| ⟨h1,h2⟩
  ·exact absurd (s1.trans g2) (h _ g1)
  ·exact P.apart v h1 _ g1 (h2.symm.trans (s1.trans g2))
 refine⟨by simpa using P.lc,by simpa using P.ld,?_,?_,fun x hx=>?_,fun x hx k hk=>?_,?_,fun f hf=>?_,fun x hx=>?_,fun f hf g hg hs=>?_,fun R B x y hR hx hy=>?_⟩
 ·rw [ago]
  refine⟨P.Zk,by simp,fun a ha b hb=>?_⟩
  rw [afd] at hb
  subst hb; intro e; subst e; exact hn ha
 ·intro x hx
  rcases split hx with h | h
  ·exact P.Sv x h
  ·omega
 ·rw [MU (by rw [P.ld]; exact hi),afk,afd]
  by_cases e:x=i
  ·subst e; simp
  ·rw [if_neg e,P.NN x hx]
   constructor
   ·exact fun h=>.inl h
   ·rintro (h | h)
    ·exact h
    ·omega
 ·rcases split hx with h | h
  ·obtain⟨r1,r2⟩:=P.zQ x h k hk
   refine⟨afE _ r1,?_⟩
   rw [agn,if_pos r1,agn,if_pos h]; exact r2
  ·have e:x=i:=by omega
   subst e
   have r1:=ad x (.inr rfl) k hk
   refine⟨afE _ r1,?_⟩
   rw [agn,if_pos r1,agn,if_neg hn]
   have:=agq r1
   omega
 ·split
  ·rw [ago]
   refine⟨P.Wq,by simp,fun a ha b hb=>?_⟩
   rw [afd] at hb
   subst hb; intro e; subst e; exact hfi ha
  ·exact P.Wq
 ·have TU:f∈fs∨(f=i∧v=i):=by
   split at hf
   ·rcases afk.1 hf with h | h
    ·exact .inl h
    ·exact .inr ⟨afd.1 h,by assumption⟩
   ·exact .inl hf
  rcases TU with h | ⟨rfl,h2⟩
  ·obtain⟨a,b⟩:=P.fst f h
   refine⟨afE _ a,?_⟩
   rw [gc _ (by have:=(fo f h).1; exact ne this)]; exact b
  ·refine⟨by simp,?_⟩
   rw [ae7,gi]; exact h2
 ·have inF:∀z∈fs,z∈(if v=(i:Int) then fs++[(i:Int)] else fs):=fun z hz=>by
   split
   ·exact afE _ hz
   ·exact hz
  rcases split hx with h | h
  ·obtain⟨a,b⟩:=P.uh x h
   rw [gc x (ne h)]
   exact⟨inF _ a,(sm x _ (.inl h) (.inl (fo _ a).1)).2 b⟩
  ·have e:x=i:=by omega
   subst e
   rw [gi]
   rcases hv with⟨rfl,_⟩| ⟨h1,h2⟩
   ·rw [if_pos rfl,ae7]
    exact⟨by simp,vY.refl _⟩
   ·exact⟨inF _ h1,(sm x _ (.inr rfl) (.inl (fo _ h1).1)).2 h2⟩
 ·have cs:∀z,z∈(if v=(i:Int) then fs++[(i:Int)] else fs)→z∈fs∨(z=i∧v=i):=fun z hz=>by
   split at hz
   ·rcases afk.1 hz with h | h
    ·exact .inl h
    ·exact .inr ⟨afd.1 h,by assumption⟩
   ·exact .inl hz
  have nov:v=i→∀f∈fs,¬vY l cls i f.toNat:=fun e f hf=>by
   rcases hv with⟨_,h⟩| ⟨h,_⟩
   ·exact h f hf
   ·exact absurd e (Ts h)
  rcases cs f hf with h1 | ⟨rfl,e1⟩
  ·rcases cs g hg with h2 | ⟨rfl,e2⟩
   ·exact P.apart f h1 g h2 ((sm _ _ (.inl (fo f h1).1) (.inl (fo g h2).1)).1 hs)
   ·rw [ae7] at hs
    have:=(sm _ _ (.inl (fo f h1).1) (.inr rfl)).1 hs
    exact absurd this.symm (nov e2 f h1)
  ·rcases cs g hg with h2 | ⟨rfl,e2⟩
   ·rw [ae7] at hs
    have:=(sm _ _ (.inr rfl) (.inl (fo g h2).1)).1 hs
    exact absurd this (nov e1 g h2)
   ·rfl
 ·rcases split hx with h1 | h1
  ·rcases split hy with h2 | h2
   ·rw [gc x (ne h1),gc y (ne h2)]; exact P.coarse R B x y hR h1 h2
   ·have e:y=i:=by omega
    subst e
    rw [gc x (ne h1),gi]
    exact (one _ B.symm x hR h1).symm
  ·have e:x=i:=by omega
   subst e
   rcases split hy with h2 | h2
   ·rw [gc y (ne h2),gi]; exact one R B y hR h2
   ·have e:y=x:=by omega
    subst e; rfl
theorem CG {m:Nat}(hm:2 ^ 30≤m){l:List ai}(ok:nH l):∀(f i:Nat) (cls:List Int) (dn:List Bool) (fs od:List Int) (more:Bool),i<f→i≤l.length→NM l cls dn fs od→
  ∃l8 EB EC kK x zp,ay.l1 m l f cls dn fs more ((i:Int) - 1)=some (l8,EB,EC,kK,x)∧NM l l8 EB EC zp∧od.length≤zp.length∧
   (kK=true→more=true∨od.length<zp.length)∧(kK=false→more=false∧zp=od∧∀j,j<i→(j:Int)∉od→∃k,k<na l j∧((ar l j k:Nat):Int)∉od)
 | 0,i,_,_,_,_,_,hf,_,_=>absurd hf om
 | f+1,0,cls,dn,fs,od,more,hf,hi,P=>by
  unfold ay.l1
  rw [if_neg (by simp)]
  exact⟨cls,dn,fs,more,_,od,rfl,P,ae4 _,fun h=>.inl h,fun h=>⟨h,rfl,fun j hj=>absurd hj om⟩⟩
 | f+1,i+1,cls,dn,fs,od,more,hf,hi,P=>by
  have vX:(2:Nat) ^ 30=1073741824:=by decide
  have h8:=ok.1
  have Fw:i<l.length:=by omega
  unfold ay.l1
  have ei:((i+1:Nat):Int) - 1=(i:Int):=by omega
  have ew:i64.wrap ((i:Int) - 1)=(i:Int) - 1:=br om om
  have hgb:ix dn (i:Int)=some (gb dn i):=by
   have:=Ij (l:=dn) (i:=(i:Int)) om (by rw [ae7,P.ld]; exact Fw)
   rwa [ae7] at this
  rw [ei,ew,if_pos (by simp),hgb,aeZ]
  cases hd:gb dn i with
  | true=>
   rw [if_pos rfl]
   obtain⟨l8,EB,EC,kK,x,zp,k1,k2,k3,k4,k5⟩:=CG hm ok f i cls dn fs od more om om P
   refine⟨l8,EB,EC,kK,x,zp,k1,k2,k3,k4,fun h=>?_⟩
   obtain⟨q1,q2,q3⟩:=k5 h
   refine⟨q1,q2,fun j hj hn=>?_⟩
   by_cases e:j=i
   ·subst e; exact absurd ((P.NN j Fw).1 hd) hn
   ·exact q3 j om hn
  | false=>
   have J2:(i:Int)∉od:=fun h=>by rw [(P.NN i Fw).2 h] at hd; cases hd
   obtain⟨xr,r1,r2,r3⟩:=MW hm ok P.ld Fw
   rw [if_neg (by simp),kh om om,aeZ,r1,aeZ]
   cases xr with
   | false=>
    rw [if_pos (by simp)]
    obtain⟨l8,EB,EC,kK,x,zp,k1,k2,k3,k4,k5⟩:=CG hm ok f i cls dn fs od more om om P
    refine⟨l8,EB,EC,kK,x,zp,k1,k2,k3,k4,fun h=>?_⟩
    obtain⟨q1,q2,q3⟩:=k5 h
    refine⟨q1,q2,fun j hj hn=>?_⟩
    by_cases e:j=i
    ·subst e
     obtain⟨k,g1,g2⟩:=r3 rfl
     exact⟨k,g1,fun h=>by rw [(P.NN _ (nq ok Fw g1).1).2 h] at g2; cases g2⟩
    ·exact q3 j om hn
   | true=>
    have QX:fs.length≤8000:=afV (Iq P.Wq P.Zl) h8
    obtain⟨v,f1,f2⟩:=find_spec hm ok P.lc Fw P.Zl QX
    have P':=M4 ok P Fw J2 (r2 rfl) f2
    have hlen:(od++[(i:Int)]).length=od.length+1:=by simp
    have e2:ix cls (i:Int)=some (gt cls i):=dR (by rw [P.lc]; exact Fw)
    have e3:ix (cls.set i v) (i:Int)=some v:=by
     rw [dR (by simpa using (by rw [P.lc]; exact Fw)),gW (by rw [P.lc]; exact Fw),if_pos rfl]
    have rest:∀Wr,NM l (cls.set i v) (dn.set i true) Wr (od++[(i:Int)])→∃l8 EB EC kK x zp,ay.l1 m l f (cls.set i v) (dn.set i true) Wr true ((i:Int) - 1)=some (l8,EB,EC,kK,x)∧NM l l8 EB EC zp∧od.length≤zp.length∧
      (kK=true→more=true∨od.length<zp.length)∧(kK=false→more=false∧zp=od∧∀j,j<i+1→(j:Int)∉od→∃k,k<na l j∧((ar l j k:Nat):Int)∉od):=fun Wr P2=>by
     obtain⟨l8,EB,EC,kK,x,zp,k1,k2,k3,k4,k5⟩:=CG hm ok f i _ _ Wr _ true om om P2
     exact⟨l8,EB,EC,kK,x,zp,k1,k2,om,fun _=>.inr om,fun h=>absurd (k5 h).1 (by simp)⟩
    rw [if_neg (by simp),f1,aeZ,e2,aeZ,ae7,e3,aeZ]
    by_cases Ts:v=i
    ·have vK:app 8 fs [(i:Int)]=some (fs++[(i:Int)]):=by unfold app; rw [if_pos (by simp; omega)]
     rw [if_pos (by simpa using Ts),vK,aeZ,aeZ]
     rw [if_pos Ts] at P'
     exact rest _ P'
    ·rw [if_neg (by simpa using Ts),aeZ]
     rw [if_neg Ts] at P'
     exact rest _ P'
theorem M8 {m:Nat}(hm:2 ^ 30≤m){l:List ai}(ok:nH l):∀(f:Nat) (cls:List Int) (dn:List Bool) (fs od:List Int),l.length - od.length+1<f→NM l cls dn fs od→
  ∃l8 EB EC zp,ay.l0 m l f cls dn fs true=some (l8,EB,EC,false)∧NM l l8 EB EC zp∧∀j,j<l.length→(j:Int)∉zp→∃k,k<na l j∧((ar l j k:Nat):Int)∉zp
 | 0,_,_,_,_,hf,_=>absurd hf om
 | f+1,cls,dn,fs,od,hf,P=>by
  have vX:(2:Nat) ^ 30=1073741824:=by decide
  have h8:=ok.1
  unfold ay.l0
  obtain⟨l8,EB,EC,kK,x,zp,k1,k2,k3,k4,k5⟩:=CG hm ok m l.length cls dn fs od false om (ae4 _) P
  have ew:i64.wrap ((l.length:Int) - 1)=(l.length:Int) - 1:=br om om
  rw [if_pos rfl,ew,k1,aeZ]
  dsimp only
  have VB:=Iq k2.Zk k2.Sv
  cases kK with
  | true=>
   rcases k4 rfl with h | h
   ·cases h
   ·exact M8 hm ok f l8 EB EC zp om k2
  | false=>
   obtain⟨_,rfl,q⟩:=k5 rfl
   obtain⟨g,rfl⟩:∃g,f=g+1:=⟨f - 1,om⟩
   refine⟨l8,EB,EC,zp,?_,k2,q⟩
   unfold ay.l0
   rw [if_neg (by simp)]
def cg (dn:List Bool):Nat→List Int
 | 0=>[]
 | p+1=>if gb dn p=true then cg dn p else cg dn p++[(p:Int)]
theorem lf {dn:List Bool}:∀{p:Nat} {x:Int},x∈cg dn p↔∃j:Nat,j<p∧gb dn j=false∧x=j
 | 0,x=>⟨fun h=>by simp [cg] at h,fun ⟨j,h,_⟩=>absurd h om⟩
 | p+1,x=>by
  unfold cg
  have ih:=lf (dn:=dn) (p:=p) (x:=x)
  split
  ·rename_i h
   rw [ih]
   constructor
   ·rintro⟨j,a,b,c⟩; exact⟨j,om,b,c⟩
   ·rintro⟨j,a,b,c⟩
    refine⟨j,?_,b,c⟩
    by_cases e:j=p
    ·subst e; rw [b] at h; cases h
    ·omega
  ·rename_i h
   rw [afk,ih,afd]
   constructor
   ·rintro (⟨j,a,b,c⟩| c)
    ·exact⟨j,om,b,c⟩
    ·exact⟨p,om,by simpa using h,c⟩
   ·rintro⟨j,a,b,c⟩
    by_cases e:j=p
    ·subst e; exact .inr c
    ·exact .inl ⟨j,om,b,c⟩
theorem ky {dn:List Bool}:∀p,(cg dn p).length≤p
 | 0=>ae4 _
 | p+1=>by
  have:=ky (dn:=dn) p
  unfold cg
  split
  ·omega
  ·simp; omega
theorem q7 {dn:List Bool}:∀{p k q:Nat},k<q→q<(cg dn p).length→gt (cg dn p) k<gt (cg dn p) q
 | 0,k,q,_,h=>by simp [cg] at h
 | p+1,k,q,hk,h=>by
  unfold cg at h ⊢
  split at h
  ·rename_i g; rw [if_pos g]; exact q7 hk h
  ·rename_i g
   rw [if_neg g]
   by_cases hq:q<(cg dn p).length
   ·rw [kI hq,kI om]; exact q7 hk hq
   ·have e:q=(cg dn p).length:=by simp at h; omega
    have:gt (cg dn p++[(p:Int)]) q=p:=by
     subst e; unfold gt; rw [aff,afg (ae4 _),aga]; rfl
    rw [this,kI om]
    obtain⟨j,a,b,c⟩:=lf.1 (bh (l:=cg dn p) (k:=k) om)
    omega
structure VJ (l:List ai)(dn:List Bool)(c0:List Int)(p:Nat)(cls:List Int):Prop where
 lc:cls.length=l.length
 old:∀j,gb dn j=true→gt cls j=gt c0 j
 uh:∀j:Nat,(j:Int)∈cg dn p→gt cls j∈cg dn p∧Alike (nd l j) (nd l (gt cls j))∧∀g∈cg dn p,Alike (nd l j) (nd l g)→gt cls j≤g
theorem M9 {m:Nat}{l:List ai}{dn:List Bool}(ok:nH l){cls:List Int}{i:Nat}(hi:i<l.length)(hc:cls.length=l.length)(hlt:∀g∈cg dn i,gt cls g.toNat≠i):∀(f k:Nat),(cg dn i).length - k+2≤f→k≤(cg dn i).length→(∀q,q<k→¬Alike (nd l i) (nd l (gt (cg dn i) q)))→
  ∃v x,ay.l3 m l (i:Int) (cg dn i++[(i:Int)]) f (cls.set i (i:Int)) (k:Int)=some (cls.set i v,x)∧(v=i∧(∀g∈cg dn i,¬Alike (nd l i) (nd l g))∨∃g∈cg dn i,Alike (nd l i) (nd l g)∧v=gt cls g.toNat)
 | 0,k,hf,_,_=>absurd hf om
 | f+1,k,hf,hk,w7=>by
  have h8:=ok.1
  have Qx:=ky (dn:=dn) i
  unfold ay.l3
  have Fw:i<(cls.set i (i:Int)).length:=by simp [hc,hi]
  rw [dR Fw,gW om,if_pos rfl,aeZ,if_pos (by simp)]
  have hxl:(cg dn i++[(i:Int)]).length=(cg dn i).length+1:=by simp
  by_cases h:k<(cg dn i).length
  ·obtain⟨j,j1,j2,j3⟩:=lf.1 (bh (l:=cg dn i) (k:=k) h)
   have hx:ix (cg dn i++[(i:Int)]) (k:Int)=some (gt (cg dn i) k):=by rw [dR om,kI h]
   obtain⟨xa,a1,a2⟩:=zd (m:=m) (nd l (i:Int)) (nd l (gt (cg dn i) k))
   rw [hx,aeZ,if_pos dm,kh om om,aeZ,aeZ,kh om om,aeZ,a1,aeZ]
   cases xa with
   | false=>
    rw [if_neg (by simp),br om om,show (k:Int)+1=((k+1:Nat):Int) by omega]
    refine M9 ok hi hc hlt f (k+1) om om fun q hq=>?_
    by_cases e:q=k
    ·subst e; intro hA; have:=a2.2 hA; cases this
    ·exact w7 q om
   | true=>
    have hA:=a2.1 rfl
    have hgl:(gt (cg dn i) k).toNat<cls.length:=by omega
    have Vx:ix (cls.set i (i:Int)) (gt (cg dn i) k)=some (gt cls (gt (cg dn i) k).toNat):=by
     rw [iv (k:=(gt (cg dn i) k).toNat) om (by simpa using hgl),gW om,if_neg om]
    rw [if_pos rfl,aeZ,Vx,aeZ,aeZ,ae7,List.set_set]
    have e:=hlt _ (bh h)
    obtain⟨g,rfl⟩:∃g,f=g+1:=⟨f - 1,om⟩
    refine⟨gt cls (gt (cg dn i) k).toNat,i64.wrap ((k:Int)+1),?_,.inr ⟨_,bh h,hA,rfl⟩⟩
    unfold ay.l3
    rw [dR (by simpa [hc] using hi),gW om,if_pos rfl,aeZ,if_neg (by simpa using e)]
  ·have e:k=(cg dn i).length:=by omega
   have hx:ix (cg dn i++[(i:Int)]) (k:Int)=some (i:Int):=by
    rw [dR om]
    subst e; unfold gt; rw [aff,afg (ae4 _),aga]; rfl
   rw [hx,aeZ,if_neg (by simp)]
   refine⟨(i:Int),_,rfl,.inl ⟨rfl,fun g hg=>?_⟩⟩
   obtain⟨q,hq,e2⟩:=hZ hg
   rw [←e2]; exact w7 q om
theorem Na {l:List ai}{dn:List Bool}{c0 cls:List Int}{i:Nat}(hi:i<l.length)(hd:gb dn i=false)(P:VJ l dn c0 i cls){v:Int}
  (hv:v=i∧(∀g∈cg dn i,¬Alike (nd l i) (nd l g))∨∃g∈cg dn i,Alike (nd l i) (nd l g)∧v=gt cls g.toNat):VJ l dn c0 (i+1) (cls.set i v):=by
 have hr:cg dn (i+1)=cg dn i++[(i:Int)]:=by show (if gb dn i=true then _ else _)=_; rw [if_neg (by rw [hd]; simp)]
 have gc:∀x,x≠i→gt (cls.set i v) x=gt cls x:=fun x hx=>by rw [gW (by rw [P.lc]; exact hi),if_neg hx]
 have gi:gt (cls.set i v) i=v:=by rw [gW (by rw [P.lc]; exact hi),if_pos rfl]
 have Ws:∀{x:Int},x∈cg dn i→0≤x∧x<i:=fun h=>by obtain⟨j,a,b,c⟩:=lf.1 h; omega
 refine⟨by simpa using P.lc,fun j hj=>?_,fun j hj=>?_⟩
 ·rw [gc j (fun e=>by subst e; rw [hd] at hj; cases hj)]; exact P.old j hj
 ·rw [hr] at hj ⊢
  rcases afk.1 hj with hj | hj
  ·obtain⟨r1,r2,r3⟩:=P.uh j hj
   have hji:=Ws hj
   rw [gc j om]
   refine⟨afE _ r1,r2,fun g hg hA=>?_⟩
   rcases afk.1 hg with hg | hg
   ·exact r3 g hg hA
   ·have:=Ws r1
    rw [afd] at hg; omega
  ·rw [afd] at hj
   have e:j=i:=by omega
   subst e
   rw [gi]
   rcases hv with⟨rfl,h⟩| ⟨g,g1,g2,rfl⟩
   ·refine⟨by simp,Alike.refl _,fun g hg hA=>?_⟩
    rcases afk.1 hg with hg | hg
    ·exact absurd hA (h g hg)
    ·rw [afd] at hg; omega
   ·have VF:=Ws g1
    have eg:((g.toNat:Nat):Int)=g:=by omega
    obtain⟨r1,r2,r3⟩:=P.uh g.toNat (by rw [eg]; exact g1)
    rw [eg] at r2 r3
    refine⟨afE _ r1,g2.trans r2,fun x hx hA=>?_⟩
    rcases afk.1 hx with hx | hx
    ·exact r3 x hx (g2.symm.trans hA)
    ·have:=Ws r1
     rw [afd] at hx; omega
theorem Gj {m:Nat}(hm:2 ^ 30≤m){l:List ai}(ok:nH l){dn:List Bool}(hd:dn.length=l.length){c0:List Int}:∀(f i:Nat) (cls:List Int),l.length - i<f→i≤l.length→VJ l dn c0 i cls→
  ∃l8 x,ay.l2 m l dn f cls (cg dn i) (i:Int)=some (l8,cg dn l.length,x)∧VJ l dn c0 l.length l8
 | 0,i,cls,hf,_,_=>absurd hf om
 | f+1,i,cls,hf,hi,P=>by
  have vX:(2:Nat) ^ 30=1073741824:=by decide
  have h8:=ok.1
  unfold ay.l2
  by_cases h:i<l.length
  ·have hgb:ix dn (i:Int)=some (gb dn i):=by
    have:=Ij (l:=dn) (i:=(i:Int)) om (by rw [ae7]; omega)
    rwa [ae7] at this
   have ew:i64.wrap ((i:Int)+1)=((i+1:Nat):Int):=by rw [br om om]; omega
   rw [if_pos dm,hgb,aeZ,ew]
   cases Zm:gb dn i with
   | true=>
    have hr:cg dn (i+1)=cg dn i:=by show (if gb dn i=true then _ else _)=_; rw [if_pos Zm]
    rw [if_pos rfl,←hr]
    exact Gj hm ok hd f (i+1) cls om om ⟨P.lc,P.old,fun j hj=>by rw [hr] at hj ⊢; exact P.uh j hj⟩
   | false=>
    have hr:cg dn (i+1)=cg dn i++[(i:Int)]:=by show (if gb dn i=true then _ else _)=_; rw [if_neg (by rw [Zm]; simp)]
    have Qx:=ky (dn:=dn) i
    have vK:app 8 (cg dn i) [(i:Int)]=some (cg dn i++[(i:Int)]):=by unfold app; rw [if_pos (by simp; omega)]
    obtain⟨v,x,k1,k2⟩:=M9 (m:=m) ok h P.lc (fun g hg e=>by
     obtain⟨j,a,b,c⟩:=lf.1 hg
     have:=(P.uh j (by rw [←c]; exact hg)).1
     obtain⟨j',a',b',c'⟩:=lf.1 this
     rw [c,ae7] at e; omega) m 0 om om (fun q hq=>absurd hq om)
    have k1:ay.l3 m l (i:Int) (cg dn i++[(i:Int)]) m (cls.set i (i:Int)) 0=_:=k1
    rw [if_neg (by simp),vK,aeZ,dR (by rw [P.lc]; exact h),aeZ,ae7,k1,aeZ]
    dsimp only
    rw [←hr]
    exact Gj hm ok hd f (i+1) _ om om (Na h Zm P k2)
  ·have e:i=l.length:=by omega
   subst e
   exact⟨cls,_,by rw [if_neg (by simp)],P⟩
structure Ir (l:List ai)(dn:List Bool)(c0 cls:List Int):Prop where
 lc:cls.length=l.length
 old:∀j,j<l.length→gb dn j=true→gt cls j=gt c0 j
 uh:∀j:Nat,(j:Int)∈cg dn l.length→gt cls j∈cg dn l.length∧gt cls j≤j∧gt cls (gt cls j).toNat=gt cls j∧Alike (nd l j) (nd l (gt cls j))
 coarse:∀R,Jy l R→∀i j:Nat,R i j→(i:Int)∈cg dn l.length→(j:Int)∈cg dn l.length→gt cls i=gt cls j
theorem je {dn:List Bool}{p:Nat}{x:Int}(h:x∈cg dn p):0≤x∧x<p∧((x.toNat:Nat):Int)=x:=by
 obtain⟨j,a,b,c⟩:=lf.1 h; omega
theorem JC {l:List ai}{dn:List Bool}{c0 cls:List Int}(P:VJ l dn c0 l.length cls):Ir l dn c0 cls:=by
 have mn:∀i j:Nat,(i:Int)∈cg dn l.length→(j:Int)∈cg dn l.length→Alike (nd l i) (nd l j)→gt cls i≤gt cls j:=fun i j hi hj hA=>by
  obtain⟨r1,r2,r3⟩:=P.uh j hj
  exact (P.uh i hi).2.2 _ r1 (hA.trans r2)
 refine⟨P.lc,fun j _ h=>P.old j h,fun j hj=>?_,fun R B i j hR hi hj=>?_⟩
 ·obtain⟨r1,r2,r3⟩:=P.uh j hj
  have e:=(je r1).2.2
  refine⟨r1,r3 j hj (Alike.refl _),?_,r2⟩
  have h1:=mn j (gt cls j).toNat hj (by rw [e]; exact r1) (by rw [e]; exact r2)
  have h2:=mn (gt cls j).toNat j (by rw [e]; exact r1) hj (by rw [e]; exact r2.symm)
  omega
 ·have h1:=mn i j hi hj (B.top i j hR)
  have h2:=mn j i hj hi (B.top i j hR).symm
  omega
def Qr (l:List ai)(cls:List Int)(j g:Nat):Prop:=gt cls j=gt cls g∧SA l cls j g
theorem Ir.al {l dn c0 cls}(P:Ir l dn c0 cls){i j:Nat}(hi:(i:Int)∈cg dn l.length)(hj:(j:Int)∈cg dn l.length)(h:gt cls i=gt cls j):Alike (nd l i) (nd l j):=by
 have a:=(P.uh i hi).2.2.2
 have b:=(P.uh j hj).2.2.2
 rw [h] at a
 exact a.trans b.symm
theorem Ir.Qc {l dn c0 cls}(P:Ir l dn c0 cls){i j:Nat}(hi:(i:Int)∈cg dn l.length)(hj:(j:Int)∈cg dn l.length)(h:Qr l cls i j):Qr l cls j i:=
 ⟨h.1.symm,fun k hk=>(h.2 k (by have:=(P.al hi hj h.1).len; unfold na at *; omega)).symm⟩
theorem Ir.Gk {l dn c0 cls}(P:Ir l dn c0 cls){i j q:Nat}(hi:(i:Int)∈cg dn l.length)(hj:(j:Int)∈cg dn l.length)(h:Qr l cls i j)(g:Qr l cls j q):Qr l cls i q:=
 ⟨h.1.trans g.1,fun k hk=>(h.2 k hk).trans (g.2 k (by have:=(P.al hi hj h.1).len; unfold na at *; omega))⟩
theorem Nb {m:Nat}(hm:2 ^ 30≤m){l:List ai}{dn:List Bool}{c0 cls nx:List Int}(ok:nH l)(P:Ir l dn c0 cls)(hnx:nx.length=l.length){J:Nat}(hJ:J<(cg dn l.length).length)
  (hlt:∀q,q<J→gt nx (gt (cg dn l.length) q).toNat≠gt (cg dn l.length) J):∀(f k:Nat),J - k+2≤f→k≤J→(∀q,q<k→¬Qr l cls (gt (cg dn l.length) J).toNat (gt (cg dn l.length) q).toNat)→
  ∃w x,ay.l6 m l (cg dn l.length) cls (J:Int) (gt (cg dn l.length) J) f (nx.set (gt (cg dn l.length) J).toNat (gt (cg dn l.length) J)) (k:Int)=some (nx.set (gt (cg dn l.length) J).toNat w,x)∧
   (w=gt (cg dn l.length) J∧(∀q,q<J→¬Qr l cls (gt (cg dn l.length) J).toNat (gt (cg dn l.length) q).toNat)∨∃q,q<J∧Qr l cls (gt (cg dn l.length) J).toNat (gt (cg dn l.length) q).toNat∧w=gt nx (gt (cg dn l.length) q).toNat)
 | 0,k,hf,_,_=>absurd hf om
 | f+1,k,hf,hk,w7=>by
  have vX:(2:Nat) ^ 30=1073741824:=by decide
  have h8:=ok.1
  have Qx:=ky (dn:=dn) l.length
  have mJ:=bh hJ
  obtain⟨v0,v1,v2⟩:=je mJ
  unfold ay.l6
  have rU:∀w,ix (nx.set (gt (cg dn l.length) J).toNat w) (gt (cg dn l.length) J)=some w:=fun w=>by
   rw [iv (k:=(gt (cg dn l.length) J).toNat) om (by rw [afJ]; omega),gW om,if_pos rfl]
  rw [rU,aeZ,if_pos (by simp)]
  by_cases h:k<J
  ·have mk:=bh (l:=cg dn l.length) (k:=k) om
   obtain⟨w0,w1,w2⟩:=je mk
   have next:¬Qr l cls (gt (cg dn l.length) J).toNat (gt (cg dn l.length) k).toNat→∃w x,ay.l6 m l (cg dn l.length) cls (J:Int) (gt (cg dn l.length) J) f (nx.set (gt (cg dn l.length) J).toNat (gt (cg dn l.length) J)) (i64.wrap ((k:Int)+1))=some (nx.set (gt (cg dn l.length) J).toNat w,x)∧
     (w=gt (cg dn l.length) J∧(∀q,q<J→¬Qr l cls (gt (cg dn l.length) J).toNat (gt (cg dn l.length) q).toNat)∨∃q,q<J∧Qr l cls (gt (cg dn l.length) J).toNat (gt (cg dn l.length) q).toNat∧w=gt nx (gt (cg dn l.length) q).toNat):=fun hn=>by
    rw [br om om,show (k:Int)+1=((k+1:Nat):Int) by omega]
    refine Nb hm ok P hnx hJ hlt f (k+1) om om fun q hq=>?_
    by_cases e:q=k
    ·subst e; exact hn
    ·exact w7 q om
   have c1:ix cls (gt (cg dn l.length) J)=some (gt cls (gt (cg dn l.length) J).toNat):=iv v2.symm (by rw [P.lc]; omega)
   have c2:ix cls (gt (cg dn l.length) k)=some (gt cls (gt (cg dn l.length) k).toNat):=iv w2.symm (by rw [P.lc]; omega)
   rw [if_pos dm,c1,aeZ,dR om,aeZ,c2,aeZ]
   by_cases e:gt cls (gt (cg dn l.length) J).toNat=gt cls (gt (cg dn l.length) k).toNat
   ·have hA:=P.al (i:=(gt (cg dn l.length) J).toNat) (j:=(gt (cg dn l.length) k).toNat) (by rw [v2]; exact mJ) (by rw [w2]; exact mk) e
    obtain⟨xs,s1,s2⟩:=Il hm ok P.lc (i:=(gt (cg dn l.length) J).toNat) (j:=(gt (cg dn l.length) k).toNat) om om hA.len
    rw [v2,w2] at s1
    rw [if_pos (by simpa using e),kh om om,aeZ,aeZ,kh om om,aeZ,s1,aeZ]
    cases xs with
    | false=>
     rw [if_neg (by simp)]
     exact next fun h=>by have:=s2.2 h.2; cases this
    | true=>
     have hQ:Qr l cls (gt (cg dn l.length) J).toNat (gt (cg dn l.length) k).toNat:=⟨e,s2.1 rfl⟩
     have hne:(gt (cg dn l.length) k).toNat≠(gt (cg dn l.length) J).toNat:=by have:=q7 (dn:=dn) (p:=l.length) h hJ; omega
     have n1:ix (nx.set (gt (cg dn l.length) J).toNat (gt (cg dn l.length) J)) (gt (cg dn l.length) k)=some (gt nx (gt (cg dn l.length) k).toNat):=by
      rw [iv w2.symm (by rw [afJ]; omega),gW om,if_neg hne]
     obtain⟨g,rfl⟩:∃g,f=g+1:=⟨f - 1,om⟩
     rw [if_pos rfl,aeZ,n1,aeZ,aeZ,List.set_set]
     refine⟨gt nx (gt (cg dn l.length) k).toNat,i64.wrap ((k:Int)+1),?_,.inr ⟨k,h,hQ,rfl⟩⟩
     unfold ay.l6
     rw [rU,aeZ,if_neg (by simpa using hlt k h)]
   ·rw [if_neg (by simpa using e)]
    exact next fun h=>e h.1
  ·have e:k=J:=by omega
   rw [if_neg dm]
   exact⟨gt (cg dn l.length) J,_,rfl,.inl ⟨rfl,fun q hq=>w7 q om⟩⟩
structure N5 (l:List ai)(dn:List Bool)(cls:List Int)(p:Nat)(nx:List Int):Prop where
 ln:nx.length=l.length
 Sw:∀x:Nat,(x:Int)∉cg dn l.length→gt nx x=gt cls x
 VK:∀q,p≤q→q<(cg dn l.length).length→gt nx (gt (cg dn l.length) q).toNat=gt cls (gt (cg dn l.length) q).toNat
 new:∀q,q<p→gt nx (gt (cg dn l.length) q).toNat∈cg dn l.length∧Qr l cls (gt (cg dn l.length) q).toNat (gt nx (gt (cg dn l.length) q).toNat).toNat∧∀g∈cg dn l.length,Qr l cls (gt (cg dn l.length) q).toNat g.toNat→gt nx (gt (cg dn l.length) q).toNat≤g
theorem CH {dn:List Bool}{n p q:Nat}(hp:p<(cg dn n).length)(hq:q<(cg dn n).length)(e:(gt (cg dn n) p).toNat=(gt (cg dn n) q).toNat):p=q:=by
 have a:=(je (bh hp)).2.2
 have b:=(je (bh hq)).2.2
 rcases Nat.lt_trichotomy p q with h | h | h
 ·have:=q7 (dn:=dn) (p:=n) h hq; omega
 ·exact h
 ·have:=q7 (dn:=dn) (p:=n) h hp; omega
theorem O9 {l:List ai}{dn:List Bool}{c0 cls nx:List Int}(P:Ir l dn c0 cls){p:Nat}(hp:p<(cg dn l.length).length)(N:N5 l dn cls p nx){w:Int}
  (hw:w=gt (cg dn l.length) p∧(∀q,q<p→¬Qr l cls (gt (cg dn l.length) p).toNat (gt (cg dn l.length) q).toNat)∨∃q,q<p∧Qr l cls (gt (cg dn l.length) p).toNat (gt (cg dn l.length) q).toNat∧w=gt nx (gt (cg dn l.length) q).toNat) :
  N5 l dn cls (p+1) (nx.set (gt (cg dn l.length) p).toNat w):=by
 have mp:=bh hp
 obtain⟨v0,v1,v2⟩:=je mp
 have gc:∀x,x≠(gt (cg dn l.length) p).toNat→gt (nx.set (gt (cg dn l.length) p).toNat w) x=gt nx x:=fun x hx=>by rw [gW (by rw [N.ln]; omega),if_neg hx]
 have gi:gt (nx.set (gt (cg dn l.length) p).toNat w) (gt (cg dn l.length) p).toNat=w:=by rw [gW (by rw [N.ln]; omega),if_pos rfl]
 refine⟨by simpa using N.ln,fun x hx=>?_,fun q h1 h2=>?_,fun q hq=>?_⟩
 ·rw [gc x (fun e=>hx (by rw [e,v2]; exact mp))]; exact N.Sw x hx
 ·rw [gc _ (fun e=>by have:=CH h2 hp e; omega)]; exact N.VK q om h2
 ·by_cases e:q=p
  ·subst e
   rw [gi]
   rcases hw with⟨rfl,h⟩| ⟨q',h1,h2,rfl⟩
   ·refine⟨mp,⟨rfl,fun _ _=>rfl⟩,fun g hg hQ=>?_⟩
    obtain⟨k,hk,rfl⟩:=hZ hg
    by_cases hkq:k<q
    ·exact absurd hQ (h k hkq)
    ·by_cases Zn:k=q
     ·subst Zn; exact Int.le_refl _
     ·have:=q7 (dn:=dn) (p:=l.length) (k:=q) (q:=k) om hk; omega
   ·have mq:=bh (l:=cg dn l.length) (k:=q') om
    have eq2:=(je mq).2.2
    obtain⟨n1,n2,n3⟩:=N.new q' h1
    have e3:=(je n1).2.2
    have s1:((gt (cg dn l.length) q).toNat:Int)∈cg dn l.length:=by rw [v2]; exact mp
    have s2:((gt (cg dn l.length) q').toNat:Int)∈cg dn l.length:=by rw [eq2]; exact mq
    exact⟨n1,P.Gk s1 s2 h2 n2,fun g hg hQ=>n3 g hg (P.Gk s2 s1 (P.Qc s1 s2 h2) hQ)⟩
  ·rw [gc _ (fun e2=>by have:=CH (dn:=dn) (n:=l.length) om hp e2; omega)]
   exact N.new q om
theorem Gl {m:Nat}(hm:2 ^ 30≤m){l:List ai}{dn:List Bool}{c0 cls:List Int}(ok:nH l)(P:Ir l dn c0 cls):∀(f p:Nat) (more:Bool) (nx:List Int),(cg dn l.length).length - p<f→p≤(cg dn l.length).length→N5 l dn cls p nx→
  (more=true↔∃q,q<p∧gt nx (gt (cg dn l.length) q).toNat≠gt cls (gt (cg dn l.length) q).toNat)→
  ∃kK Zo x,ay.l5 m l (cg dn l.length) cls f more nx (p:Int)=some (kK,Zo,x)∧N5 l dn cls (cg dn l.length).length Zo∧(kK=true↔∃q,q<(cg dn l.length).length∧gt Zo (gt (cg dn l.length) q).toNat≠gt cls (gt (cg dn l.length) q).toNat)
 | 0,p,_,_,hf,_,_,_=>absurd hf om
 | f+1,p,more,nx,hf,hp,N,q8=>by
  have vX:(2:Nat) ^ 30=1073741824:=by decide
  have h8:=ok.1
  have Qx:=ky (dn:=dn) l.length
  unfold ay.l5
  by_cases h:p<(cg dn l.length).length
  ·have mp:=bh h
   obtain⟨v0,v1,v2⟩:=je mp
   obtain⟨w,x,k1,k2⟩:=Nb hm ok P N.ln h (fun q hq=>by
    obtain⟨n1,n2,n3⟩:=N.new q hq
    have mq:=bh (l:=cg dn l.length) (k:=q) om
    have:=n3 _ mq ⟨rfl,fun _ _=>rfl⟩
    have:=q7 (dn:=dn) (p:=l.length) hq h
    omega) m 0 om om (fun q hq=>absurd hq om)
   have k1:ay.l6 m l (cg dn l.length) cls (p:Int) (gt (cg dn l.length) p) m (nx.set (gt (cg dn l.length) p).toNat (gt (cg dn l.length) p)) 0=_:=k1
   have N':=O9 P h N k2
   have ew:i64.wrap ((p:Int)+1)=((p+1:Nat):Int):=by rw [br om om]; omega
   have c0':ix nx (gt (cg dn l.length) p)=some (gt nx (gt (cg dn l.length) p).toNat):=iv v2.symm (by rw [N.ln]; omega)
   have c1:ix cls (gt (cg dn l.length) p)=some (gt cls (gt (cg dn l.length) p).toNat):=iv v2.symm (by rw [P.lc]; omega)
   have c2:ix (nx.set (gt (cg dn l.length) p).toNat w) (gt (cg dn l.length) p)=some w:=by
    rw [iv v2.symm (by rw [afJ,N.ln]; omega),gW (by rw [N.ln]; omega),if_pos rfl]
   have gw:gt (nx.set (gt (cg dn l.length) p).toNat w) (gt (cg dn l.length) p).toNat=w:=by rw [gW (by rw [N.ln]; omega),if_pos rfl]
   have old:∀q,q<p→gt (nx.set (gt (cg dn l.length) p).toNat w) (gt (cg dn l.length) q).toNat=gt nx (gt (cg dn l.length) q).toNat:=fun q hq=>by
    rw [gW (by rw [N.ln]; omega),if_neg (fun e=>by have:=CH (dn:=dn) (n:=l.length) om h e; omega)]
   rw [if_pos dm,dR h,aeZ,c0',aeZ,k1,aeZ]
   dsimp only
   rw [ew]
   cases more with
   | true=>
    rw [if_pos rfl]
    refine Gl hm ok P f (p+1) true _ (by clear q8 k2; omega) (by clear q8 k2; omega) N' ⟨fun _=>?_,fun _=>rfl⟩
    obtain⟨q,q1,q2⟩:=q8.1 rfl
    exact⟨q,om,by rw [old q q1]; exact q2⟩
   | false=>
    rw [if_neg (by simp),c2,aeZ,c1,aeZ]
    refine Gl hm ok P f (p+1) _ _ (by clear q8 k2; omega) (by clear q8 k2; omega) N' ?_
    constructor
    ·intro hb
     refine⟨p,om,?_⟩
     rw [gw]; simpa using hb
    ·rintro⟨q,q1,q2⟩
     by_cases e:q=p
     ·subst e; rw [gw] at q2; simpa using q2
     ·rw [old q om] at q2
      have:=q8.2 ⟨q,om,q2⟩
      cases this
  ·have e:p=(cg dn l.length).length:=by omega
   subst e
   exact⟨more,nx,_,by rw [if_neg (by simp)],N,q8⟩
theorem Nc {l:List ai}{dn:List Bool}{c0 cls nx:List Int}{od:List Int}(ok:nH l)(P:Ir l dn c0 cls)(N:N5 l dn cls (cg dn l.length).length nx)
  (C5:∀j,j<l.length→(gb dn j=true↔(j:Int)∈od)) (SO:∀R,Jy l R→∀i j:Nat,R i j→(i:Int)∈od→(j:Int)∈od→gt c0 i=gt c0 j)
  (hfin:∀R,Jy l R→∀i j:Nat,R i j→(i:Int)∈od→(j:Int)∈od):Ir l dn c0 nx:=by
 have VL:∀j,j<l.length→gb dn j=true→(j:Int)∉cg dn l.length:=fun j _ h hm=>by
  obtain⟨j',a,b,c⟩:=lf.1 hm
  have:j=j':=by omega
  subst this; rw [h] at b; cases b
 have zR:∀j,j<l.length→(j:Int)∉od→(j:Int)∈cg dn l.length:=fun j hj h=>lf.2 ⟨j,hj,by
  cases hb:gb dn j with
  | true=>exact absurd ((C5 j hj).1 hb) h
  | false=>rfl,rfl⟩
 have atR:∀j:Nat,(j:Int)∈cg dn l.length→gt nx j∈cg dn l.length∧Qr l cls j (gt nx j).toNat∧∀g∈cg dn l.length,Qr l cls j g.toNat→gt nx j≤g:=fun j hj=>by
  obtain⟨q,hq,e⟩:=hZ hj
  have:=N.new q hq
  rw [e,ae7] at this
  exact this
 have mn:∀i j:Nat,(i:Int)∈cg dn l.length→(j:Int)∈cg dn l.length→Qr l cls i j→gt nx i≤gt nx j:=fun i j hi hj hQ=>by
  obtain⟨r1,r2,r3⟩:=atR j hj
  exact (atR i hi).2.2 _ r1 (P.Gk hi hj hQ r2)
 have eqq:∀i j:Nat,(i:Int)∈cg dn l.length→(j:Int)∈cg dn l.length→Qr l cls i j→gt nx i=gt nx j:=fun i j hi hj hQ=>by
  have h1:=mn i j hi hj hQ
  have h2:=mn j i hj hi (P.Qc hi hj hQ)
  omega
 refine⟨N.ln,fun j hj h=>by rw [N.Sw j (VL j hj h)]; exact P.old j hj h,fun j hj=>?_,fun R B i j hR hi hj=>?_⟩
 ·obtain⟨r1,r2,r3⟩:=atR j hj
  have e:=(je r1).2.2
  have zj:(((gt nx j).toNat:Nat):Int)∈cg dn l.length:=by rw [e]; exact r1
  refine⟨r1,r3 j hj ⟨rfl,fun _ _=>rfl⟩,(eqq j _ hj zj r2).symm,?_⟩
  have:=P.al hj zj r2.1
  rw [e] at this; exact this
 ·refine eqq i j hi hj ⟨P.coarse R B i j hR hi hj,fun k hk=>?_⟩
  have VM:R (ar l i k) (ar l j k):=B.arg i j hR k hk
  obtain⟨ra,rb⟩:=B.Cu _ _ VM
  by_cases ha:((ar l i k:Nat):Int)∈od
  ·have hb:=hfin R B _ _ VM ha
   rw [P.old _ ra ((C5 _ ra).2 ha),P.old _ rb ((C5 _ rb).2 hb)]
   exact SO R B _ _ VM ha hb
  ·have hb:((ar l j k:Nat):Int)∉od:=fun h=>ha (hfin _ B.symm _ _ VM h)
   exact P.coarse R B _ _ VM (zR _ ra ha) (zR _ rb hb)
def bo (dn:List Bool)(n:Nat)(cls:List Int):List Int:=(cg dn n).filter fun j=>gt cls j.toNat==j
theorem JD {dn:List Bool}{n:Nat}:(cg dn n).Nodup:=by
 unfold List.Nodup
 rw [List.pairwise_iff_getElem]
 intro i j hi hj CN e
 have:=q7 (dn:=dn) (p:=n) CN hj
 have a:=bZ hi
 have b:=bZ hj
 rw [ae8 hi] at a
 rw [ae8 hj] at b
 have a:=afB a
 have b:=afB b
 omega
theorem Nd {m:Nat}(hm:2 ^ 30≤m){l:List ai}{dn:List Bool}{c0 od:List Int}(ok:nH l)
  (C5:∀j,j<l.length→(gb dn j=true↔(j:Int)∈od)) (SO:∀R,Jy l R→∀i j:Nat,R i j→(i:Int)∈od→(j:Int)∈od→gt c0 i=gt c0 j)
  (hfin:∀R,Jy l R→∀i j:Nat,R i j→(i:Int)∈od→(j:Int)∈od):∀(f:Nat) (cls:List Int),(cg dn l.length).length - (bo dn l.length cls).length+1<f→Ir l dn c0 cls→
  ∃l8,ay.l4 m l (cg dn l.length) f cls true=some (l8,false)∧Ir l dn c0 l8∧∀j:Nat,(j:Int)∈cg dn l.length→SA l l8 j (gt l8 j).toNat
 | 0,cls,hf,_=>absurd hf om
 | f+1,cls,hf,P=>by
  have vX:(2:Nat) ^ 30=1073741824:=by decide
  have h8:=ok.1
  have Qx:=ky (dn:=dn) l.length
  unfold ay.l4
  have vK:app 8 ([]:List Int) cls=some cls:=by unfold app; rw [if_pos (by simp; rw [P.lc]; omega),afz]
  obtain⟨kK,nx,x,k1,N,q8⟩:=Gl hm ok P m 0 false cls om om ⟨P.lc,fun _ _=>rfl,fun _ _ _=>rfl,fun q hq=>absurd hq om⟩ ⟨fun h=>(by cases h),fun ⟨q,hq,_⟩=>absurd hq om⟩
  have k1:ay.l5 m l (cg dn l.length) cls m false cls 0=_:=k1
  have P':=Nc ok P N C5 SO hfin
  rw [if_pos rfl,vK,aeZ,k1,aeZ]
  dsimp only
  cases hmo:kK with
  | true=>
   obtain⟨q,hq,hne⟩:=q8.1 hmo
   have mq:=bh hq
   have eq2:=(je mq).2.2
   obtain⟨n1,n2,n3⟩:=N.new q hq
   have e3:=(je n1).2.2
   have abD:(bo dn l.length cls).length+1≤(bo dn l.length nx).length:=by
    have nd1:(gt nx (gt (cg dn l.length) q).toNat::bo dn l.length cls).Nodup:=by
     rw [List.nodup_cons]
     refine⟨fun h=>?_,List.Pairwise.filter _ JD⟩
     have:=(agp.1 h).2
     have:=beq_iff_eq.1 this
     exact hne (by rw [n2.1,this])
    have:=nd1.length_le_of_subset (l₂:=bo dn l.length nx) (fun y hy=>by
     rcases afq.1 hy with rfl | hy
     ·refine agp.2 ⟨n1,?_⟩
      have:=(P'.uh (gt (cg dn l.length) q).toNat (by rw [eq2]; exact mq)).2.2.1
      rw [beq_iff_eq]; exact this
     ·obtain⟨y1,y2⟩:=agp.1 hy
      have y2:=beq_iff_eq.1 y2
      refine agp.2 ⟨y1,?_⟩
      have ey:=(je y1).2.2
      rw [beq_iff_eq]
      obtain⟨k,hk,e⟩:=hZ y1
      obtain⟨m1,m2,m3⟩:=N.new k hk
      rw [e] at m1 m2 m3
      have a1:=m3 y y1 ⟨rfl,fun _ _=>rfl⟩
      have em:=(je m1).2.2
      have a2:=(P.uh (gt nx y.toNat).toNat (by rw [em]; exact m1)).2.1
      rw [←m2.1,y2] at a2
      omega)
    simpa using this
   have hle:(bo dn l.length nx).length≤(cg dn l.length).length:=List.length_filter_le _ _
   exact Nd hm ok C5 SO hfin f nx (by clear q8; omega) P'
  | false=>
   obtain⟨g,rfl⟩:∃g,f=g+1:=⟨f - 1,om⟩
   have same:∀j:Nat,(j:Int)∈cg dn l.length→gt nx j=gt cls j:=fun j hj=>by
    obtain⟨k,hk,e⟩:=hZ hj
    by_cases hne:gt nx j=gt cls j
    ·exact hne
    ·have:=q8.2 ⟨k,hk,by rw [e,ae7]; exact hne⟩
     rw [hmo] at this; cases this
   have enx:nx=cls:=F0 (by rw [N.ln,P.lc]) fun k hk=>by
    by_cases h:(k:Int)∈cg dn l.length
    ·exact same k h
    ·exact N.Sw k h
   refine⟨nx,?_,P',fun j hj=>?_⟩
   ·unfold ay.l4
    rw [if_neg (by simp)]
   ·obtain⟨k,hk,e⟩:=hZ hj
    obtain⟨m1,m2,m3⟩:=N.new k hk
    rw [e,ae7] at m2
    rw [enx] at m2 ⊢
    exact m2.2
structure Sx (l:List ai)(c od:List Int):Prop where
 min:Min l c
 uh:∀i,i<l.length→0≤gt c i∧gt c i<l.length∧gt c (gt c i).toNat=gt c i
 zQ:∀i:Nat,(i:Int)∈od→∀k,k<na l i→((ar l i k:Nat):Int)∈od∧od.idxOf ((ar l i k:Nat):Int)<od.idxOf (i:Int)
 big:∀i,i<l.length→(i:Int)∉od→gt c i≤i
theorem Sy {n k:Nat}:gb (afh n false) k=false:=by
 unfold gb; rw [aff,List.getElem?_replicate]; split<;>rfl
theorem ED {m:Nat}(hm:2 ^ 30≤m){l:List ai}(ok:nH l):∃c od,ay.f m l=some c∧Sx l c od:=by
 have vX:(2:Nat) ^ 30=1073741824:=by decide
 have h8:=ok.1
 unfold ay.f
 have e0:sr 8 (l.length:Int) (0:Int)=some (afh l.length 0):=by unfold sr; rw [if_pos ⟨om,by rw [ae7]; omega⟩,ae7]
 have e1:sr 1 (l.length:Int) false=some (afh l.length false):=by unfold sr; rw [if_pos ⟨om,by rw [ae7]; omega⟩,ae7]
 obtain⟨c0,dn,fs,od,k1,P1,hq⟩:=M8 hm ok m (afh l.length 0) (afh l.length false) [] [] (by simp; omega)
  {lc:=by simp,ld:=by simp,Zk:=by simp,Sv:=(by intro x hx; cases hx),NN:=(by intro i hi; rw [Sy]; simp),zQ:=(by intro i hi; cases hi),Wq:=by simp,fst:=(by intro f hf; cases hf),uh:=(by intro i hi; cases hi),apart:=(by intro f hf; cases hf),coarse:=(by intro R B i j hR hi; cases hi)}
 obtain⟨c1,x,k2,P2⟩:=Gj hm ok P1.ld (c0:=c0) m 0 c0 om om {lc:=P1.lc,old:=fun _ _=>rfl,uh:=(by intro j hj; cases hj)}
 have k2:ay.l2 m l dn m c0 [] 0=_:=k2
 have hfin:∀R,Jy l R→∀i j:Nat,R i j→(i:Int)∈od→(j:Int)∈od:=by
  intro R B
  have:∀N i j:Nat,od.idxOf (i:Int)<N→R i j→(i:Int)∈od→(j:Int)∈od:=by
   intro N
   induction N with
   | zero=>intro i j h; omega
   | succ N ih=>
    intro i j hN hR hi
    by_cases hj:(j:Int)∈od
    ·exact hj
    ·obtain⟨k,g1,g2⟩:=hq j (B.Cu i j hR).2 hj
     have w8:k<na l i:=by have:=(B.top i j hR).len; unfold na at *; omega
     obtain⟨r1,r2⟩:=P1.zQ i hi k w8
     exact absurd (ih (ar l i k) (ar l j k) om (B.arg i j hR k w8) r1) g2
  exact fun i j=>this (od.idxOf (i:Int)+1) i j om
 obtain⟨c,k3,P3,hS⟩:=Nd hm ok P1.NN P1.coarse hfin m c1 (by have:=ky (dn:=dn) l.length; omega) (JC P2)
 have zR:∀j,j<l.length→(j:Int)∉od→(j:Int)∈cg dn l.length:=fun j hj h=>lf.2 ⟨j,hj,by
  cases hb:gb dn j with
  | true=>exact absurd ((P1.NN j hj).1 hb) h
  | false=>rfl,rfl⟩
 have Qd:∀{x:Int},x∈cg dn l.length→x∉od:=fun hx h=>by
  obtain⟨j,a,b,e⟩:=lf.1 hx
  subst e
  rw [(P1.NN j a).2 h] at b; cases b
 have zS:∀j:Nat,j<l.length→(j:Int)∈od→gt c j=gt c0 j:=fun j hj h=>P3.old j hj ((P1.NN j hj).2 h)
 have Sz:∀f∈fs,0≤f∧f<l.length∧f∈od∧((f.toNat:Nat):Int)=f:=fun f hf=>by
  have a:=P1.Zl f hf; have b:=(P1.fst f hf).1; exact⟨a.1,a.2,b,om⟩
 have Zp:∀i j:Nat,(i:Int)∈od→(j:Int)∈od→vY l c0 i j→SA l c i j:=fun i j hi hj h k hk=>by
  have a:=(P1.zQ i hi k hk).1
  have b:=(P1.zQ j hj k (by have:=h.1.len; unfold na at *; omega)).1
  have ra:=P1.Sv _ a
  have rb:=P1.Sv _ b
  rw [zS _ om a,zS _ om b]
  exact h.2 k hk
 have both:∀i j:Nat,i<l.length→j<l.length→gt c i=gt c j→Alike (nd l i) (nd l j)∧SA l c i j:=fun i j hi hj e=>by
  by_cases h1:(i:Int)∈od
  ·obtain⟨f1,s1⟩:=P1.uh i h1
   by_cases h2:(j:Int)∈od
   ·obtain⟨f2,s2⟩:=P1.uh j h2
    rw [zS i hi h1,zS j hj h2] at e
    rw [e] at s1
    have s:=s1.trans s2.symm
    exact⟨s.1,Zp i j h1 h2 s⟩
   ·have:=(P3.uh j (zR j hj h2)).1
    rw [←e,zS i hi h1] at this
    exact absurd (Sz _ f1).2.2.1 (Qd this)
  ·have r1:=zR i hi h1
   by_cases h2:(j:Int)∈od
   ·obtain⟨f2,s2⟩:=P1.uh j h2
    have:=(P3.uh i r1).1
    rw [e,zS j hj h2] at this
    exact absurd (Sz _ f2).2.2.1 (Qd this)
   ·have r2:=zR j hj h2
    have hA:=P3.al r1 r2 e
    refine⟨hA,fun k hk=>?_⟩
    have a:=hS i r1 k hk
    have b:=hS j r2 k (by have:=hA.len; unfold na at *; omega)
    rw [e] at a
    exact a.trans b.symm
 refine⟨c,od,?_,⟨P3.lc,fun i j hi hj e=>(both i j hi hj e).1,fun i j hi hj e k hk=>(both i j hi hj e).2 k hk,fun R B i j hR=>?_⟩,fun i hi=>?_,P1.zQ,fun i hi h=>(P3.uh i (zR i hi h)).2.1⟩
 ·rw [e0,aeZ,e1,aeZ,k1,aeZ]
  dsimp only
  rw [k2,aeZ]
  dsimp only
  rw [k3]; rfl
 ·obtain⟨hi,hj⟩:=B.Cu i j hR
  by_cases h1:(i:Int)∈od
  ·have h2:=hfin R B i j hR h1
   rw [zS i hi h1,zS j hj h2]; exact P1.coarse R B i j hR h1 h2
  ·have h2:(j:Int)∉od:=fun h=>h1 (hfin _ B.symm j i hR h)
   exact P3.coarse R B i j hR (zR i hi h1) (zR j hj h2)
 ·by_cases h1:(i:Int)∈od
  ·obtain⟨f1,s1⟩:=P1.uh i h1
   obtain⟨a,b,d,e⟩:=Sz _ f1
   rw [zS i hi h1]
   refine⟨a,b,?_⟩
   rw [zS _ om (by rw [e]; exact d)]
   exact (P1.fst _ f1).2
  ·obtain⟨r1,r2,r3,r4⟩:=P3.uh i (zR i hi h1)
   have:=je r1
   exact⟨this.1,this.2.1,r3⟩
def pm (pl:List Int)(n:ai):ai:=⟨n.kind,n.int,n.label,n.args.map fun a=>gt pl a.toNat⟩
theorem tY {l:List ai}{i:Nat}(h:i<l.length):l[i]? = some (nd l i):=by
 have:=kh (l:=l) (i:=(i:Int)) om om
 unfold ix at this
 rwa [if_pos om,ae7] at this
theorem Gm {l:List ai}{i q:Nat}{x:ai}(hi:i<l.length):nd (l.set i x) q=if q=i then x else nd l q:=by
 unfold nd
 simp only [ae7,aff,agl]
 by_cases h:i=q
 ·subst h; simp [hi]
 ·rw [if_neg h,if_neg om]
theorem Ng {f:ai→ai}{l:List ai}{i:Nat}(h:i<l.length):nd (l.map f) i=f (nd l i):=by
 have h1:=tY (l:=l.map f) (i:=i) (by simpa using h)
 rw [afv,tY h] at h1
 exact (afB h1).symm
theorem Pa {f:Int→ai}{l:List Int}{i:Nat}(h:i<l.length):nd (l.map f) i=f (gt l i):=by
 have h1:=tY (l:=l.map f) (i:=i) (by simpa using h)
 rw [afv,bZ h] at h1
 exact (afB h1).symm
theorem Nh {l r:List ai}(hl:l.length=r.length)(h:∀k,k<l.length→nd l k=nd r k):l=r:=by
 apply af0 fun k=>?_
 by_cases hk:k<l.length
 ·rw [tY hk,tY (hl ▸ hk),h k hk]
 ·rw [afp om,afp om]
theorem EE {m:Nat}{S:List Int}(hn:S.Nodup)(VN:S.length≤8000):∀(f i:Nat) (pl:List Int),S.length - i<f→i≤S.length→(∀s∈S,0≤s∧s<pl.length)→(∀q,q<i→gt pl (gt S q).toNat=q)→
  ∃Ni x,aD.l0 m S f pl (i:Int)=some (Ni,x)∧Ni.length=pl.length∧∀q,q<S.length→gt Ni (gt S q).toNat=q
 | 0,i,pl,hf,_,_,_=>absurd hf om
 | f+1,i,pl,hf,hi,hS,hq=>by
  unfold aD.l0
  by_cases h:i<S.length
  ·obtain⟨s0,s1⟩:=hS _ (bh h)
   have hx:∃z,ix pl (gt S i)=some z:=⟨_,iv (k:=(gt S i).toNat) om om⟩
   obtain⟨z,hx⟩:=hx
   obtain⟨Ni,x,k1,k2,k3⟩:=EE (m:=m) hn VN f (i+1) (pl.set (gt S i).toNat (i:Int)) om om (by simpa using hS) (fun q NC=>by
    rw [gW om]
    by_cases e:q=i
    ·subst e; rw [if_pos rfl]
    ·have hne:gt S q≠gt S i:=fun e2=>e (y8 hn om h e2)
     have:=hS _ (bh (l:=S) (k:=q) om)
     rw [if_neg om]; exact hq q om)
   refine⟨Ni,x,?_,by simpa using k2,k3⟩
   rw [if_pos dm,dR h,aeZ,hx,aeZ,br om om,show (i:Int)+1=((i+1:Nat):Int) by omega]
   exact k1
  ·exact⟨pl,_,by rw [if_neg dm],rfl,fun q h=>hq q om⟩
theorem EF {m:Nat}{S:List Int}(hn:S.Nodup)(VN:S.length≤8000):∀(f i:Nat) (pl:List Int),S.length - i<f→i≤S.length→(∀s∈S,0≤s∧s<pl.length)→(∀q,q<i→gt pl (gt S q).toNat=q)→
  ∃Ni x,aD.l5 m S f pl (i:Int)=some (Ni,x)∧Ni.length=pl.length∧∀q,q<S.length→gt Ni (gt S q).toNat=q
 | 0,i,pl,hf,_,_,_=>absurd hf om
 | f+1,i,pl,hf,hi,hS,hq=>by
  unfold aD.l5
  by_cases h:i<S.length
  ·obtain⟨s0,s1⟩:=hS _ (bh h)
   have hx:∃z,ix pl (gt S i)=some z:=⟨_,iv (k:=(gt S i).toNat) om om⟩
   obtain⟨z,hx⟩:=hx
   obtain⟨Ni,x,k1,k2,k3⟩:=EF (m:=m) hn VN f (i+1) (pl.set (gt S i).toNat (i:Int)) om om (by simpa using hS) (fun q NC=>by
    rw [gW om]
    by_cases e:q=i
    ·subst e; rw [if_pos rfl]
    ·have hne:gt S q≠gt S i:=fun e2=>e (y8 hn om h e2)
     have:=hS _ (bh (l:=S) (k:=q) om)
     rw [if_neg om]; exact hq q om)
   refine⟨Ni,x,?_,by simpa using k2,k3⟩
   rw [if_pos dm,dR h,aeZ,hx,aeZ,br om om,show (i:Int)+1=((i+1:Nat):Int) by omega]
   exact k1
  ·exact⟨pl,_,by rw [if_neg dm],rfl,fun q h=>hq q om⟩
theorem Is {m:Nat}{pl:List Int}{n:ai}(h8:n.args.length≤8)(ha:∀a∈n.args,0≤a∧a<pl.length):∀(f k:Nat),n.args.length - k<f→k≤n.args.length→
  ∃x,aD.l2 m pl n f ((n.args.take k).map fun a=>gt pl a.toNat) (k:Int)=some (n.args.map fun a=>gt pl a.toNat,x)
 | 0,k,hf,_=>absurd hf om
 | f+1,k,hf,hk=>by
  unfold aD.l2
  by_cases h:k<n.args.length
  ·obtain⟨a0,a1⟩:=ha _ (bh h)
   have hy:ix pl (gt n.args k)=some (gt pl (gt n.args k).toNat):=iv om om
   have hT:n.args.take (k+1)=n.args.take k++[gt n.args k]:=by rw [agm,bZ h]; rfl
   have vK:app 8 ((n.args.take k).map fun a=>gt pl a.toNat) [gt pl (gt n.args k).toNat]=some ((n.args.take (k+1)).map fun a=>gt pl a.toNat):=by
    unfold app; rw [if_pos (by simp; omega),hT,afo]; rfl
   obtain⟨x,ih⟩:=Is (m:=m) h8 ha f (k+1) om om
   rw [if_pos dm,dR h,aeZ,hy,aeZ,vK,aeZ,br om om,show (k:Int)+1=((k+1:Nat):Int) by omega]
   exact⟨x,ih⟩
  ·have e:k=n.args.length:=by omega
   subst e
   exact⟨_,by rw [if_neg (by simp),afS]⟩
theorem It {m:Nat}{pl:List Int}{n:ai}(h8:n.args.length≤8)(ha:∀a∈n.args,0≤a∧a<pl.length):∀(f k:Nat),n.args.length - k<f→k≤n.args.length→
  ∃x,aD.l7 m pl n f ((n.args.take k).map fun a=>gt pl a.toNat) (k:Int)=some (n.args.map fun a=>gt pl a.toNat,x)
 | 0,k,hf,_=>absurd hf om
 | f+1,k,hf,hk=>by
  unfold aD.l7
  by_cases h:k<n.args.length
  ·obtain⟨a0,a1⟩:=ha _ (bh h)
   have hy:ix pl (gt n.args k)=some (gt pl (gt n.args k).toNat):=iv om om
   have hT:n.args.take (k+1)=n.args.take k++[gt n.args k]:=by rw [agm,bZ h]; rfl
   have vK:app 8 ((n.args.take k).map fun a=>gt pl a.toNat) [gt pl (gt n.args k).toNat]=some ((n.args.take (k+1)).map fun a=>gt pl a.toNat):=by
    unfold app; rw [if_pos (by simp; omega),hT,afo]; rfl
   obtain⟨x,ih⟩:=It (m:=m) h8 ha f (k+1) om om
   rw [if_pos dm,dR h,aeZ,hy,aeZ,vK,aeZ,br om om,show (k:Int)+1=((k+1:Nat):Int) by omega]
   exact⟨x,ih⟩
  ·have e:k=n.args.length:=by omega
   subst e
   exact⟨_,by rw [if_neg (by simp),afS]⟩
theorem Iu {m:Nat}(hm:2 ^ 30≤m){l:List ai}{S pl:List Int}(ok:nH l)(hS:∀s∈S,0≤s∧s<l.length)(VN:S.length≤8000)(CL:pl.length=l.length):∀(f i:Nat),S.length - i<f→i≤S.length→
  ∃x,aD.l1 m l S pl f ((S.take i).map fun s=>pm pl (nd l s)) (i:Int)=some (S.map fun s=>pm pl (nd l s),x)
 | 0,i,hf,_=>absurd hf om
 | f+1,i,hf,hi=>by
  have vX:(2:Nat) ^ 30=1073741824:=by decide
  unfold aD.l1
  by_cases h:i<S.length
  ·obtain⟨s0,s1⟩:=hS _ (bh h)
   obtain⟨n1,n2⟩:=ok.2 _ (jd s0 s1)
   obtain⟨x,q1⟩:=Is (m:=m) (pl:=pl) (n:=nd l (gt S i)) n1 (fun a ha=>by have:=n2 a ha; omega) m 0 om om
   have q1:aD.l2 m pl (nd l (gt S i)) m [] 0=_:=q1
   have hT:S.take (i+1)=S.take i++[gt S i]:=by rw [agm,bZ h]; rfl
   have vK:app 56 ((S.take i).map fun s=>pm pl (nd l s)) [ai.mk (nd l (gt S i)).kind (nd l (gt S i)).int (nd l (gt S i)).label ((nd l (gt S i)).args.map fun a=>gt pl a.toNat)]=some ((S.take (i+1)).map fun s=>pm pl (nd l s)):=by
    unfold app; rw [if_pos (by simp; omega),hT,afo]; rfl
   obtain⟨x,ih⟩:=Iu hm ok hS VN CL f (i+1) om om
   rw [if_pos dm,dR h,aeZ,kh s0 s1,aeZ,q1,aeZ]
   dsimp only
   rw [vK,aeZ,br om om,show (i:Int)+1=((i+1:Nat):Int) by omega]
   exact⟨x,ih⟩
  ·have e:i=S.length:=by omega
   subst e
   exact⟨_,by rw [if_neg (by simp),afS]⟩
theorem Iv {m:Nat}{P:List ai}{c:List Int}(hc:c.length=P.length){i:Nat}(hi:i<P.length)(h8:(nd P i).args.length≤8)(ha:∀a∈(nd P i).args,0≤a∧a<P.length):∀(f k:Nat),(nd P i).args.length - k<f→k≤(nd P i).args.length→
  ∃x,aD.l4 m c (i:Int) f (P.set i ⟨(nd P i).kind,(nd P i).int,(nd P i).label,(((nd P i).args.take k).map fun a=>gt c a.toNat)++(nd P i).args.drop k⟩) (k:Int)=some (P.set i (pm c (nd P i)),x)
 | 0,k,hf,_=>absurd hf om
 | f+1,k,hf,hk=>by
  unfold aD.l4
  have rU:∀w,ix (P.set i w) (i:Int)=some w:=fun w=>by
   rw [kh om (by simpa using hi),Gm hi,if_pos rfl]
  have hlen:((((nd P i).args.take k).map fun a=>gt c a.toNat)++(nd P i).args.drop k).length=(nd P i).args.length:=by simp; omega
  rw [rU,aeZ]
  by_cases h:k<(nd P i).args.length
  ·have hg:gt ((((nd P i).args.take k).map fun a=>gt c a.toNat)++(nd P i).args.drop k) k=gt (nd P i).args k:=by
    unfold gt
    rw [aff,aff,afg (by simp; omega)]
    simp only [afl,afO,List.getElem?_drop]
    congr 2; omega
   obtain⟨a0,a1⟩:=ha _ (bh h)
   have hx:ix ((((nd P i).args.take k).map fun a=>gt c a.toNat)++(nd P i).args.drop k) (k:Int)=some (gt (nd P i).args k):=by rw [dR om,hg]
   have hy:ix c (gt (nd P i).args k)=some (gt c (gt (nd P i).args k).toNat):=iv om om
   have Fm:((((nd P i).args.take k).map fun a=>gt c a.toNat)++(nd P i).args.drop k).set k (gt c (gt (nd P i).args k).toNat)=(((nd P i).args.take (k+1)).map fun a=>gt c a.toNat)++(nd P i).args.drop (k+1):=by
    have hT:(nd P i).args.take (k+1)=(nd P i).args.take k++[gt (nd P i).args k]:=by rw [agm,bZ h]; rfl
    have hD:(nd P i).args.drop k=gt (nd P i).args k::(nd P i).args.drop (k+1):=by
     obtain⟨h4,h5⟩:=ae5.1 (bZ h)
     rw [←h5]; exact afe h4
    have Gy:(((nd P i).args.take k).map fun a=>gt c a.toNat).length=k:=by simp; omega
    rw [agf _ _ om,Gy,aga,hD,List.set_cons_zero,hT,afo,afn]
    rfl
   rw [if_pos dm,aeZ,aeZ]
   dsimp only
   rw [hx,aeZ,hy,aeZ,aeZ,ae7,ae7,List.set_set,Fm,br om om,show (k:Int)+1=((k+1:Nat):Int) by omega]
   exact Iv hc hi h8 ha f (k+1) om om
  ·have e:k=(nd P i).args.length:=by omega
   subst e
   refine⟨((nd P i).args.length:Int),?_⟩
   rw [if_neg dm,afS,List.drop_length,afZ]
   rfl
theorem Iw {m:Nat}(hm:2 ^ 30≤m){P:List ai}{c:List Int}(ok:nH P)(hc:c.length=P.length):∀(f i:Nat) (Q:List ai),P.length - i<f→i≤P.length→Q.length=P.length→(∀q,q<P.length→nd Q q=if q<i then pm c (nd P q) else nd P q)→
  ∃x,aD.l3 m c f Q (i:Int)=some (P.map (pm c),x)
 | 0,i,Q,hf,_,_,_=>absurd hf om
 | f+1,i,Q,hf,hi,hl,hq=>by
  have vX:(2:Nat) ^ 30=1073741824:=by decide
  have h8:=ok.1
  unfold aD.l3
  by_cases h:i<P.length
  ·obtain⟨n1,n2⟩:=Eo ok h
   have Wt:nd Q i=nd P i:=by rw [hq i h,if_neg om]
   obtain⟨x,q1⟩:=Iv (m:=m) (P:=Q) (c:=c) om (i:=i) om (by rw [Wt]; exact n1) (by rw [Wt,hl]; exact n2) m 0 (by rw [Wt]; omega) om
   have rU:Q.set i ⟨(nd Q i).kind,(nd Q i).int,(nd Q i).label,(((nd Q i).args.take 0).map fun a=>gt c a.toNat)++(nd Q i).args.drop 0⟩=Q:=by
    refine Nh (by simp) fun k hk=>?_
    rw [Gm om]
    by_cases e:k=i
    ·subst e; rw [if_pos rfl]; simp
    ·rw [if_neg e]
   rw [rU] at q1
   have q1:aD.l4 m c (i:Int) m Q 0=_:=q1
   rw [if_pos dm,q1,aeZ]
   dsimp only
   rw [br om om,show (i:Int)+1=((i+1:Nat):Int) by omega]
   refine Iw hm ok hc f (i+1) _ om om (by simpa using hl) fun q Ll=>?_
   rw [Gm om]
   by_cases e:q=i
   ·subst e; rw [if_pos rfl,if_pos om,Wt]
   ·rw [if_neg e,hq q Ll]
    by_cases hlt:q<i
    ·rw [if_pos hlt,if_pos om]
    ·rw [if_neg hlt,if_neg om]
  ·have e:i=P.length:=by omega
   subst e
   refine⟨(P.length:Int),?_⟩
   rw [if_neg dm]
   have:Q=P.map (pm c):=Nh (by simpa using hl) fun k hk=>by rw [hq k om,if_pos om,Ng om]
   rw [this]
theorem Nj {m:Nat}(hm:2 ^ 30≤m){P:List ai}{T pl:List Int}(ok:nH P)(hT:∀t∈T,0≤t∧t<P.length)(hTl:T.length≤8000)(CL:P.length≤pl.length):∀(f i:Nat),T.length - i<f→i≤T.length→
  ∃x,aD.l6 m P T pl f (i:Int) ((T.take i).map fun t=>pm pl (nd P t)) 0=some (x,T.map fun t=>pm pl (nd P t),0)
 | 0,i,hf,_=>absurd hf om
 | f+1,i,hf,hi=>by
  have vX:(2:Nat) ^ 30=1073741824:=by decide
  unfold aD.l6
  by_cases h:i<T.length
  ·obtain⟨s0,s1⟩:=hT _ (bh h)
   obtain⟨n1,n2⟩:=ok.2 _ (jd s0 s1)
   obtain⟨x,q1⟩:=It (m:=m) (pl:=pl) (n:=nd P (gt T i)) n1 (fun a ha=>by have:=n2 a ha; omega) m 0 om om
   have q1:aD.l7 m pl (nd P (gt T i)) m [] 0=_:=q1
   have hTk:T.take (i+1)=T.take i++[gt T i]:=by rw [agm,bZ h]; rfl
   have vK:app 56 ((T.take i).map fun t=>pm pl (nd P t)) [ai.mk (nd P (gt T i)).kind (nd P (gt T i)).int (nd P (gt T i)).label ((nd P (gt T i)).args.map fun a=>gt pl a.toNat)]=some ((T.take (i+1)).map fun t=>pm pl (nd P t)):=by
    unfold app; rw [if_pos (by simp; omega),hTk,afo]; rfl
   obtain⟨x,ih⟩:=Nj hm ok hT hTl CL f (i+1) om om
   rw [if_pos dm,dR h,aeZ,kh s0 s1,aeZ,q1,aeZ]
   dsimp only
   rw [vK,aeZ,br om om,show (i:Int)+1=((i+1:Nat):Int) by omega]
   exact⟨x,ih⟩
  ·have e:i=T.length:=by omega
   subst e
   exact⟨_,by rw [if_neg (by simp),afS]⟩
end Go.Proofs.YtifafejidnjckaaGreat
