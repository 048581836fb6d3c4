/- Part of the proof: PC3, PC4, PC5, PU1, PU2, PB3, PB5, PB6, PB7, PB8, PB10, PB11, PU3, PD1, PD2, PD3, PD4, PE2, PE3, PFA, RCL, PdS, QJ0, QJ13. -/
import Derived.Test.YtifafejidnjckaaGreatK13
import Derived.Test.YtifafejidnjckaaGreatChecked
set_option linter.unusedVariables false
set_option linter.unusedSimpArgs false
set_option maxRecDepth 100000
open Bool renaming and_eq_true → aaK, false_eq_true → aaU, true_and → abL, not_true → abM
open Int renaming toNat_natCast → aaS
open List renaming getElem?_eq_getElem → aaL, getElem?_eq_some_iff → aaM, mem_of_getElem? → aaP, length_append → aaR, drop_eq_getElem_cons → aaT, getD_eq_getElem?_getD → aaV, length_cons → aaW, length_map → aaY, getElem?_append_right → aaZ, append_assoc → aa0, all_eq_true → aa1, getElem?_eq_none → aa2, mem_cons → aa6, length_nil → aba, getElem?_map → abd, mem_map → abf, getElem?_cons_zero → abg, drop_zero → abl, cons_append → abm, take_succ_eq_append_getElem → abn, all_cons → abu, getElem?_of_mem → abv, length_take → abz, drop_eq_nil_of_le → abH, getElem?_cons_succ → abK, map_congr_left → abQ, append_nil → abU, getElem_of_mem → ab2, take_length → ab3
open Nat renaming le_refl → aaN, zero_add → aa7, lt_of_lt_of_le → aa9, zero_le → abe, beq → abq, add_sub_cancel_left → abC, eq_of_beq_eq_true → abR, ble → ab7, zero_lt_one → ab9
open Option renaming bind_some → aaG, bind_eq_some_iff → aaH, map_eq_some_iff → aaI
open Option.some renaming injEq → aaJ, inj → aa8
namespace Go.Proofs.YtifafejidnjckaaGreat
open Go Go.R Go.Uf
open Go.IntKind (i64 u64 u8 u32)
section
variable {m:Nat}
theorem xG {a b:List Int}(hl:a.length=b.length)(h8:a.length≤8000):∀(k i:Nat),i≤a.length→a.length - i<k→
  (bE.l0 m a b k (i:Int)=some (.inr (a.length:Int))∧a.drop i=b.drop i)∨(bE.l0 m a b k (i:Int)=some (.inl false)∧a≠b)
 | 0,i,h1,h2=>by omega
 | k+1,i,h1,h2=>by
  simp only [bE.l0]
  by_cases hi:i<a.length
  ·have d:decide ((i:Int)<(a.length:Int))=true:=by rw [decide_eq_true_eq]; omega
   have ea:=aaL hi
   have eb:=aaL (l:=b) (i:=i) om
   have da:a.drop i=a[i]::a.drop (i+1):=aaT hi
   have db:b.drop i=b[i]::b.drop (i+1):=aaT om
   have ew:i64.wrap ((i:Int)+1)=((i+1:Nat):Int):=by rw [jA om om]; omega
   rw [if_pos d,sQ ea,aaG,sQ eb,aaG,ew,da,db]
   by_cases he:a[i]=b[i]
   ·rw [if_neg (by simp [he])]
    rcases xG hl h8 k (i+1) om om with⟨h,g⟩| h
    ·exact .inl ⟨h,by rw [he,g]⟩
    ·exact .inr h
   ·rw [if_pos (by simpa using he)]
    exact .inr ⟨rfl,fun e=>he (by subst e; rfl)⟩
  ·have d:decide ((i:Int)<(a.length:Int))=false:=by rw [decide_eq_false_iff_not]; omega
   have e:i=a.length:=by omega
   rw [if_neg (by rw [d]; decide),e]
   exact .inl ⟨rfl,by rw [List.drop_length,hl,List.drop_length]⟩
theorem Jp (hm:16000≤m){a b:List Int}(h8:a.length≤8000):∃r,bE.f m a b=some r∧(r=true↔a=b):=by
 unfold bE.f
 by_cases hl:a.length=b.length
 ·rw [if_neg (by simp [hl])]
  rcases xG (m:=m) hl h8 m 0 (abe _) om with⟨h,g⟩| ⟨h,g⟩
  ·have h:bE.l0 m a b m 0=_:=h
   rw [h]
   exact⟨true,rfl,fun _=>by simpa using g,fun _=>rfl⟩
  ·have h:bE.l0 m a b m 0=_:=h
   rw [h]
   exact⟨false,rfl,fun h=>(by cases h),fun h=>absurd h g⟩
 ·rw [if_pos (by simp; omega)]
  exact⟨false,rfl,fun h=>(by cases h),fun h=>by subst h; exact absurd rfl hl⟩
theorem Jq (hm:16000≤m){a b:ai}(ha:Gg a)(hb:Gg b):∃r,dC.f m a b=some r∧(r=true↔a=b):=by
 unfold dC.f
 rw [zf om,aaG]
 have hA:=ha.args
 by_cases h0:cT a b=0
 ·rw [if_pos (by rw [h0]; rfl)]
  obtain⟨r,e,h⟩:=Jp (m:=m) hm (a:=a.args) (b:=b.args) om
  rw [e,aaG]
  refine⟨r,rfl,fun hr=>?_,fun he=>h.2 (by rw [he])⟩
  have k3:∀{n:ai},Gg n→n.kind=3→n.int=0:=fun T h=>by rcases T.kind with⟨k,_⟩| ⟨k,_⟩| ⟨k,_⟩| ⟨k,z⟩| ⟨k,_⟩<;>first | exact z | omega
  have kn:∀{n:ai},Gg n→n.kind≠3→n.args=[]:=fun T h=>by rcases T.kind with⟨k,_,_,z⟩| ⟨k,_,_,z⟩| ⟨k,_,z⟩| ⟨k,_⟩| ⟨k,z⟩<;>first | exact z | exact absurd k h
  have A:=Bg h0 (k3 ha) (k3 hb) (kn ha) (kn hb)
  have hargs:=h.1 hr
  cases a; cases b
  obtain⟨a1,a2,a3,_⟩:=A
  simp only at a1 a2 a3 hargs
  subst a1; subst a2; subst a3; subst hargs
  rfl
 ·rw [if_neg (by simpa using h0)]
  exact⟨false,rfl,fun h=>(by cases h),fun he=>absurd (by rw [he]; exact (Alike.refl b).cT) h0⟩
theorem xH (hm:16000≤m){a b:List ai}(hl:a.length=b.length)(h8:a.length≤8000)(ha:∀n∈a,Gg n)(hb:∀n∈b,Gg n):∀(k i:Nat),i≤a.length→a.length - i<k→
  (aD.l0 m a b (fun y0 y1=>dC.f m y0 y1) k (i:Int)=some (.inr (a.length:Int))∧a.drop i=b.drop i)∨(aD.l0 m a b (fun y0 y1=>dC.f m y0 y1) k (i:Int)=some (.inl false)∧a≠b)
 | 0,i,h1,h2=>by omega
 | k+1,i,h1,h2=>by
  simp only [aD.l0]
  by_cases hi:i<a.length
  ·have d:decide ((i:Int)<(a.length:Int))=true:=by rw [decide_eq_true_eq]; omega
   have ea:=aaL hi
   have eb:=aaL (l:=b) (i:=i) om
   have da:a.drop i=a[i]::a.drop (i+1):=aaT hi
   have db:b.drop i=b[i]::b.drop (i+1):=aaT om
   have ew:i64.wrap ((i:Int)+1)=((i+1:Nat):Int):=by rw [jA om om]; omega
   obtain⟨r,e,h⟩:=Jq (m:=m) hm (ha _ (aaP ea)) (hb _ (aaP eb))
   rw [if_pos d,sQ ea,aaG,sQ eb,aaG,e,aaG,ew,da,db]
   cases r with
   | true=>
    rw [if_neg (by simp)]
    rcases xH hm hl h8 ha hb k (i+1) om om with⟨h',g⟩| h'
    ·exact .inl ⟨h',by rw [h.1 rfl,g]⟩
    ·exact .inr h'
   | false=>
    rw [if_pos (by simp)]
    exact .inr ⟨rfl,fun e=>by subst e; have:=h.2 rfl; cases this⟩
  ·have d:decide ((i:Int)<(a.length:Int))=false:=by rw [decide_eq_false_iff_not]; omega
   have e:i=a.length:=by omega
   rw [if_neg (by rw [d]; decide),e]
   exact .inl ⟨rfl,by rw [List.drop_length,hl,List.drop_length]⟩
theorem Jr (hm:16000≤m){a b:aI}(h8:a.nodes.length≤8000)(ha:∀n∈a.nodes,Gg n)(hb:∀n∈b.nodes,Gg n):∃r,iv.f m a b=some r∧(r=true↔a.nodes=b.nodes):=by
 unfold iv.f aD.f
 by_cases hl:a.nodes.length=b.nodes.length
 ·rw [if_neg (by simp [hl])]
  rcases xH (m:=m) hm hl h8 ha hb m 0 (abe _) om with⟨h,g⟩| ⟨h,g⟩
  ·have h:aD.l0 m a.nodes b.nodes (fun y0 y1=>dC.f m y0 y1) m 0=_:=h
   rw [h]
   exact⟨true,rfl,fun _=>by simpa using g,fun _=>rfl⟩
  ·have h:aD.l0 m a.nodes b.nodes (fun y0 y1=>dC.f m y0 y1) m 0=_:=h
   rw [h]
   exact⟨false,rfl,fun h=>(by cases h),fun h=>absurd h g⟩
 ·rw [if_pos (by simp; omega)]
  exact⟨false,rfl,fun h=>(by cases h),fun h=>by rw [h] at hl; exact absurd rfl hl⟩
theorem xA.trans {l k u:List ai}{R S:Int→Int→Prop}(A:xA l k R)(B:xA k u S):xA l u fun i j=>∃q,R i q∧S q j:=
 ⟨fun i j ⟨q,h,g⟩=>⟨(A.nS _ _ h).1,(B.nS _ _ g).2⟩,fun i j ⟨q,h,g⟩=>(A.top _ _ h).trans (B.top _ _ g),fun i j ⟨q,h,g⟩ n hn=>⟨_,A.arg _ _ h n hn,B.arg _ _ g n (by have:=(A.top _ _ h).len; omega)⟩⟩
def BR (t u:aI):Prop:=∃R,xA t.nodes u.nodes R∧R t.root u.root
theorem BR.trans {t u w:aI}(a:BR t u)(b:BR u w):BR t w:=by
 obtain⟨R,h1,h2⟩:=a
 obtain⟨S,g1,g2⟩:=b
 exact⟨_,h1.trans g1,_,h2,g2⟩
theorem BR.symm {t u:aI}(a:BR t u):BR u t:=by
 obtain⟨R,h1,h2⟩:=a
 exact⟨_,h1.swap,h2⟩
theorem N7 (hm:2 ^ 41≤m){t u:aI}(ht:ca t=true)(hu:ca u=true):∃b,ji.f m t u=some (b,0)∧(b=true↔BR t u):=by
 have IV:(2:Nat) ^ 30=1073741824:=by decide
 have vM:(2:Nat) ^ 41=2199023255552:=by decide
 obtain⟨x,R,e1,vx,_,B1,r1⟩:=kJ hm ht
 obtain⟨y,S,e2,vy,_,B2,r2⟩:=kJ hm hu
 obtain⟨c1,n1,Xg,_⟩:=gS hm ht
 obtain⟨c2,n2,Xh,_⟩:=gS hm hu
 rw [e1] at Xg
 rw [e2] at Xh
 have x0:x.root=0:=by cases aa8 Xg; rfl
 have y0:y.root=0:=by cases aa8 Xh; rfl
 obtain⟨Zy,_,_,_,Tx⟩:=eJ vx
 obtain⟨oky,_,_,_,Ty⟩:=eJ vy
 obtain⟨b,e3,hb⟩:=Jr (m:=m) om Zy.1 Tx Ty
 refine⟨b,?_,hb.trans ⟨fun h=>?_,fun ⟨Q,hQ,hq⟩=>?_⟩⟩
 ·unfold ji.f
  rw [lj om,ht,aaG,if_neg (by decide),lj om,hu,aaG,if_neg (by decide),e1,aaG,e2,aaG,e3,aaG]
 ·refine BR.trans (u:=x) ⟨R,B1,r1⟩ (BR.symm ⟨S,?_,?_⟩)
  ·rw [h]; exact B2
  ·rw [x0,←y0]; exact r2
 ·obtain⟨z,k1,k2⟩:=pd hm ht hu hQ hq
  rw [e1] at k1
  rw [e2] at k2
  cases aa8 k1
  cases aa8 k2
  rfl
end
structure Ve (s:ab)(Q:Int→Int→Prop):Prop where
 nS:∀u v,Q u v→(Rg s.aa.length u∧rp s.ae u=u)∧Rg s.aa.length v∧rp s.ae v=v
 top:∀u v,Q u v→jj (dh s.aa u) (dh s.aa v)
 arg:∀u v,Q u v→∀(i:Nat) a b,(dh s.aa u).args[i]? = some a→(dh s.aa v).args[i]? = some b→Q (rp s.ae a) (rp s.ae b)
def Sb (s:ab)(u v:Int):Prop:=∃Q,Ve s Q∧Q u v
theorem xI {a b:ai}(h:jj a b):jj b a:=⟨h.1.symm,h.2.1.symm,h.2.2.1.symm,h.2.2.2.symm⟩
theorem pX {a b c:ai}(h:jj a b)(k:jj b c):jj a c:=⟨h.1.trans k.1,h.2.1.trans k.2.1,h.2.2.1.trans k.2.2.1,h.2.2.2.trans k.2.2.2⟩
theorem De {a b:ai}(h:jj a b):Alike a b:=⟨h.1,h.2.1,C7 h.2.2.1,h.2.2.2⟩
theorem Alike.Vf {a b:ai}(h:Alike a b):jj a b:=⟨h.1,h.2,by rw [h.3],h.4⟩
section
variable {s:ab}{u v w:Int}
theorem Sb.symm (h:Sb s u v):Sb s v u:=by
 obtain⟨Q,B,q⟩:=h
 exact⟨fun x y=>Q y x,⟨fun x y h=>⟨(B.nS _ _ h).2,(B.nS _ _ h).1⟩,fun x y h=>xI (B.top _ _ h),fun x y h i a b ha hb=>B.arg _ _ h i b a hb ha⟩,q⟩
theorem Sb.trans (h:Sb s u v)(k:Sb s v w):Sb s u w:=by
 obtain⟨Q,B,q⟩:=h
 obtain⟨P,C,p⟩:=k
 refine⟨fun x z=>∃y,Q x y∧P y z,⟨fun x z ⟨y,h1,h2⟩=>⟨(B.nS _ _ h1).1,(C.nS _ _ h2).2⟩,fun x z ⟨y,h1,h2⟩=>pX (B.top _ _ h1) (C.top _ _ h2),?_⟩,_,q,p⟩
 rintro x z ⟨y,h1,h2⟩ i a b ha hb
 have l1:=(B.top _ _ h1).2.2.2
 have hi:=(aaM.1 ha).1
 have hy:=aaL (l:=(dh s.aa y).args) (i:=i) om
 exact⟨_,B.arg _ _ h1 i a _ ha hy,C.arg _ _ h2 i _ b hy hb⟩
theorem Sb.refl (v:Inv s){u:Int}(hu:Rg s.aa.length u)(hr:rp s.ae u=u):Sb s u u:=
 ⟨fun x y=>x=y∧Rg s.aa.length x∧rp s.ae x=x,⟨fun x y ⟨e,h⟩=>by subst e; exact⟨h,h⟩,fun x y ⟨e,h⟩=>by subst e; exact jj.refl _,fun x y ⟨e,h⟩ i a b ha hb=>by
  subst e
  rw [ha] at hb; cases hb
  have:=(v.args _ (gm h.1)).2 a (aaP ha)
  exact⟨rfl,v.cn.rg a this,v.cn.id a this⟩⟩,rfl,hu,hr⟩
theorem Sb.top (h:Sb s u w):jj (dh s.aa u) (dh s.aa w):=by
 obtain⟨Q,B,q⟩:=h
 exact B.top _ _ q
theorem Sb.arg (h:Sb s u w){i:Nat}{a b:Int}(ha:(dh s.aa u).args[i]? = some a)(hb:(dh s.aa w).args[i]? = some b):Sb s (rp s.ae a) (rp s.ae b):=by
 obtain⟨Q,B,q⟩:=h
 exact⟨Q,B,B.arg _ _ q i a b ha hb⟩
noncomputable def Li (s:ab)(x:Int):Int:=Classical.epsilon fun y=>Sb s (rp s.ae x) y
theorem Df (v:Inv s){x y:Int}(hx:Rg s.aa.length x)(hy:Rg s.aa.length y):Li s x=Li s y↔Sb s (rp s.ae x) (rp s.ae y):=by
 have ex:=Classical.epsilon_spec (p:=fun z=>Sb s (rp s.ae x) z) ⟨_,Sb.refl v (v.cn.rg x hx) (v.cn.id x hx)⟩
 have ey:=Classical.epsilon_spec (p:=fun z=>Sb s (rp s.ae y) z) ⟨_,Sb.refl v (v.cn.rg y hy) (v.cn.id y hy)⟩
 constructor
 ·intro h
  have ex:Sb s (rp s.ae x) (Li s x):=ex
  have ey:Sb s (rp s.ae y) (Li s y):=ey
  rw [h] at ex
  exact ex.trans ey.symm
 ·intro h
  unfold Li
  congr 1
  funext z
  exact propext ⟨fun k=>h.symm.trans k,fun k=>h.trans k⟩
theorem Lj (v:Inv s):iA s.aa (rp s.ae) (Li s):=fun x y hx hy h=>by
 unfold Li; rw [h]
theorem N8 (v:Inv2 s):Cl s.aa (Li s):=by
 intro x y hx hy h vx vy
 have h:=(Df v.inv hx hy).1 h
 have c:=v.inv.cn
 have x1:=c.rg x hx
 have y1:=c.rg y hy
 obtain⟨a1,a2⟩:=v.cl x (rp s.ae x) hx x1 (c.id x hx).symm vx (c.val hx vx)
 obtain⟨b1,b2⟩:=v.cl y (rp s.ae y) hy y1 (c.id y hy).symm vy (c.val hy vy)
 refine⟨pX a1 (pX h.top (xI b1)),fun i a b ha hb=>?_⟩
 have hi:=(aaM.1 ha).1
 have hj:=(aaM.1 hb).1
 have la:=a1.2.2.2
 have lb:=b1.2.2.2
 have ga:=aaL (l:=(dh s.aa (rp s.ae x)).args) (i:=i) om
 have gb:=aaL (l:=(dh s.aa (rp s.ae y)).args) (i:=i) om
 have e1:=a2 i a _ ha ga
 have e2:=b2 i b _ hb gb
 have e3:=h.arg ga gb
 rw [←e1,←e2] at e3
 exact (Df v.inv ((v.inv.args _ (gm hx)).2 a (aaP ha)) ((v.inv.args _ (gm hy)).2 b (aaP hb))).2 e3
end
section
variable {m:Nat}{s:ab}{a b:Int}
theorem nv {l:List Int}{i u:Int}(h:l[i.toNat]? = some u):nd (TN s l) i=sR s l u:=by
 unfold nd TN
 rw [aaV,abd,h]
 rfl
theorem Rk {l:List Int}{k:Nat}{x:Int}(h:l[k]? = some x):gt l k=x:=by
 unfold gt
 rw [aaV,h]; rfl
theorem Dg {l:List Int}{i u:Int}(h0:0≤i)(h:l[i.toNat]? = some u):i<l.length:=by
 have:=(aaM.1 h).1
 omega
theorem q9 {l:List Int}{u x:Int}{k:Nat}(h:(dh s.aa u).args[k]? = some x):gt (sR s l u).args k=we l (rp s.ae x):=by
 apply Rk
 show ((dh s.aa u).args.map fun a=>we l (rp s.ae a))[k]? = _
 rw [abd,h]; rfl
theorem N9 {p q:Int}{l1 l2:List Int}(h1:Reach s p l1)(h2:Reach s q l2):BR ⟨TN s l1,0⟩ ⟨TN s l2,0⟩↔Sb s p q:=by
 have Vh:(TN s l1).length=l1.length:=aaY ..
 have Vi:(TN s l2).length=l2.length:=aaY ..
 constructor
 ·rintro⟨R,B,r⟩
  have B:xA (TN s l1) (TN s l2) R:=B
  refine⟨fun u w=>∃i j,R i j∧l1[i.toNat]? = some u∧l2[j.toNat]? = some w,⟨?_,?_,?_⟩,0,0,r,h1.hd,h2.hd⟩
  ·rintro u w ⟨i,j,h,g1,g2⟩
   obtain⟨u1,u2,_⟩:=h1.rt u (aaP g1)
   obtain⟨w1,w2,_⟩:=h2.rt w (aaP g2)
   exact⟨⟨u1,u2⟩,w1,w2⟩
  ·rintro u w ⟨i,j,h,g1,g2⟩
   have:=B.top _ _ h
   rw [nv g1,nv g2] at this
   have:=this.Vf
   unfold sR jj at this
   simp only [aaY] at this
   exact this
  ·rintro u w ⟨i,j,h,g1,g2⟩ k x y hx hy
   have hk:=(aaM.1 hx).1
   have:=B.arg _ _ h k (by rw [nv g1]; show k<(List.map _ _).length; rw [aaY]; exact hk)
   rw [nv g1,nv g2,q9 hx,q9 hy] at this
   exact⟨_,_,this,mD (h1.cl u (aaP g1) x (aaP hx)),mD (h2.cl w (aaP g2) y (aaP hy))⟩
 ·intro h
  refine⟨fun i j=>(0≤i∧0≤j)∧∃u w,l1[i.toNat]? = some u∧l2[j.toNat]? = some w∧Sb s u w,⟨?_,?_,?_⟩,⟨Int.le_refl 0,Int.le_refl 0⟩,p,q,h1.hd,h2.hd,h⟩
  ·rintro i j ⟨⟨i0,j0⟩,u,w,g1,g2,_⟩
   show (0≤i∧i<(TN s l1).length)∧0≤j∧j<(TN s l2).length
   rw [Vh,Vi]
   exact⟨⟨i0,Dg i0 g1⟩,j0,Dg j0 g2⟩
  ·rintro i j ⟨_,u,w,g1,g2,hb⟩
   show Alike (nd (TN s l1) i) (nd (TN s l2) j)
   rw [nv g1,nv g2]
   apply De
   have:=hb.top
   unfold sR jj
   unfold jj at this
   simp only [aaY]
   exact this
  ·rintro i j ⟨_,u,w,g1,g2,hb⟩ k hk
   show (0≤gt (nd (TN s l1) i).args k∧0≤gt (nd (TN s l2) j).args k)∧_
   have hk:k<(nd (TN s l1) i).args.length:=hk
   show _∧∃x y,l1[(gt (nd (TN s l1) i).args k).toNat]? = some x∧l2[(gt (nd (TN s l2) j).args k).toNat]? = some y∧Sb s x y
   rw [nv g1] at hk ⊢
   rw [nv g2]
   have hk:k<(List.map _ (dh s.aa u).args).length:=hk
   rw [aaY] at hk
   have hl:=hb.top.2.2.2
   have gx:=aaL hk
   have gy:=aaL (l:=(dh s.aa w).args) (i:=k) om
   rw [q9 gx,q9 gy]
   have m1:=h1.cl u (aaP g1) _ (aaP gx)
   have m2:=h2.cl w (aaP g2) _ (aaP gy)
   exact⟨⟨(q8 m1).1,(q8 m2).1⟩,_,_,mD m1,mD m2,hb.arg gx gy⟩
theorem xJ (hm:2 ^ 41≤m){t z:aI}(ht:ca t=true)(h:bA.f m t=some z):BR t z:=by
 obtain⟨z',R,e,_,_,B,r⟩:=kJ hm ht
 rw [h] at e
 cases aa8 e
 exact⟨R,B,r⟩
theorem Dh (hm:2 ^ 63≤m)(x:ai)(h:x.args.length<2 ^ 63):fY.f m x x=some true:=by
 unfold fY.f
 simp only [BEq.rfl,if_true,Gq x.args h hm,aaG]
end
end Go.Proofs.YtifafejidnjckaaGreat
namespace Go.Proofs.YtifafejidnjckaaGreat
open Go Go.R
open Go.IntKind (i64 u64 u8 u32)
theorem zu {m:Nat}(c:Int):fX.f m c=some (iH c):=by
 unfold fX.f
 by_cases h1:97≤c<;>by_cases h2:c≤122<;>by_cases h3:65≤c<;>by_cases h4:c≤90<;>by_cases h5:48≤c<;>by_cases h6:c≤57<;>simp [iH,h1,h2,h3,h4,h5,h6]<;>omega
theorem Bu {m:Nat}{s:ByteArray}(hs:s.size≤16):∀(f i:Nat),s.size - i<f→i≤s.size→
  ∃o,cy.l0 m s f (i:Int)=some o∧((∃x,o = .inr x)∧((s.data.toList.drop i).all fun c=>iH (c.toNat:Int))=true∨o = .inl false∧((s.data.toList.drop i).all fun c=>iH (c.toNat:Int))=false)
 | 0,i,hf,_=>absurd hf om
 | f+1,i,hf,hi=>by
  unfold cy.l0
  by_cases h:i<s.size
  ·obtain⟨c,hc,hb⟩:=tT h
   obtain⟨h4,h5⟩:=aaM.1 hc
   have hd:s.data.toList.drop i=c::s.data.toList.drop (i+1):=by rw [←h5]; exact aaT h4
   rw [if_pos dm,hb,aaG,zu,aaG,hd,abu]
   cases hl:iH (c.toNat:Int) with
   | false=>exact⟨_,rfl,.inr ⟨rfl,rfl⟩⟩
   | true=>
    obtain⟨o,h1,h2⟩:=Bu (m:=m) hs f (i+1) om om
    rw [if_neg (by simp),bJ om om,show (i:Int)+1=((i+1:Nat):Int) by omega,h1]
    exact⟨o,rfl,by simpa using h2⟩
  ·refine⟨_,by rw [if_neg dm],.inl ⟨⟨_,rfl⟩,?_⟩⟩
   rw [abH (by simp; omega)]; rfl
def Js (s:ByteArray):Bool:=decide (1≤s.data.toList.length)&&decide (s.data.toList.length≤16)&&s.data.toList.all fun c=>iH (c.toNat:Int)
theorem Di {m:Nat}(hm:20≤m)(s:ByteArray):cy.f m s=some (Js s):=by
 have hsz:s.size=s.data.toList.length:=by simp
 unfold cy.f Js
 by_cases h1:1≤s.data.toList.length
 ·by_cases h2:s.data.toList.length≤16
  ·obtain⟨o,k1,k2⟩:=Bu (m:=m) (s:=s) om m 0 om om
   have k1:cy.l0 m s m 0=_:=k1
   rw [abl] at k2
   rw [if_neg dm,if_neg dm,k1,aaG,decide_eq_true h1,decide_eq_true h2]
   simp only [abL]
   rcases k2 with⟨⟨x,rfl⟩,k⟩| ⟨rfl,k⟩
   ·rw [k]
   ·rw [k]
  ·rw [if_neg dm,if_pos dm,decide_eq_false h2,Bool.and_false]; rfl
 ·rw [if_pos dm,decide_eq_false h1]; rfl
theorem sS {m:Nat}(hm:20≤m)(s:ByteArray):fu.f m s=some (lL s):=by
 have hsz:s.size=s.data.toList.length:=by simp
 unfold fu.f lL
 show (if (s.data.toList==[124])=true then _ else if (s.data.toList==[35])=true then _ else _)=_
 cases h1:s.data.toList==[124] with
 | true=>rfl
 | false=>
  cases h2:s.data.toList==[35] with
  | true=>rfl
  | false=>
   simp only [aaU,if_false,Bool.false_or]
   rw [Di hm,aaG]
   unfold Js A6
   cases hl:s.data.toList with
   | nil=>rfl
   | cons c cs=>
    obtain⟨c',g1,g2⟩:=tT (s:=s) (i:=0) (by rw [hsz,hl]; simp)
    rw [hl] at g1
    simp only [abg,aaJ] at g1
    subst g1
    have g2:bt s 0=_:=g2
    rw [g2]
    simp only [aaG,aaW]
    cases ha:(c::cs).all fun c=>iH (c.toNat:Int) with
    | false=>simp
    | true=>
     by_cases h3:cs.length≤15
     ·rw [decide_eq_true (show 1≤cs.length+1 by omega),decide_eq_true (show cs.length+1≤16 by omega),decide_eq_true h3]
      simp only [Bool.and_self,if_true,Bool.and_true,abL]
      by_cases h4:(97:Int)≤(c.toNat:Int)
      ·rw [if_pos (by simpa using h4),decide_eq_true h4]; rfl
      ·rw [if_neg (by simpa using h4),decide_eq_false h4]; rfl
     ·rw [decide_eq_false (show ¬cs.length+1≤16 by omega),decide_eq_false h3]; simp
theorem Bv {m:Nat}{n:ai}{size:Int}(h8:n.args.length≤8):∀(f i:Nat),n.args.length - i<f→i≤n.args.length→
  ∃o,b8.l0 m n size f (i:Int)=some o∧((∃x,o = .inr x)∧((n.args.drop i).all fun a=>decide (0≤a)&&decide (a<size))=true∨o = .inl false∧((n.args.drop i).all fun a=>decide (0≤a)&&decide (a<size))=false)
 | 0,i,hf,_=>absurd hf om
 | f+1,i,hf,hi=>by
  unfold b8.l0
  by_cases h:i<n.args.length
  ·have hd:n.args.drop i=gt n.args i::n.args.drop (i+1):=by
    obtain⟨h4,h5⟩:=aaM.1 (dt h)
    rw [←h5]; exact aaT h4
   rw [if_pos dm,gh h,aaG,hd,abu,aaG]
   by_cases h1:gt n.args i<0
   ·rw [if_pos (by simpa using h1),decide_eq_false (show ¬0≤gt n.args i by omega)]
    exact⟨_,rfl,.inr ⟨rfl,rfl⟩⟩
   ·rw [if_neg (by simpa using h1),decide_eq_true (show 0≤gt n.args i by omega)]
    by_cases h2:gt n.args i<size
    ·obtain⟨o,k1,k2⟩:=Bv (m:=m) (size:=size) h8 f (i+1) om om
     rw [if_neg dm,decide_eq_true h2,bJ om om,show (i:Int)+1=((i+1:Nat):Int) by omega,k1]
     exact⟨o,rfl,by simpa using k2⟩
    ·rw [if_pos dm,decide_eq_false h2]
     exact⟨_,rfl,.inr ⟨rfl,rfl⟩⟩
  ·refine⟨_,by rw [if_neg dm],.inl ⟨⟨_,rfl⟩,?_⟩⟩
   rw [abH om]; rfl
theorem Dj {m:Nat}(hm:20≤m)(n:ai)(size:Int):b8.f m n size=some (ec n size):=by
 unfold b8.f ec
 by_cases k0:n.kind=0
 ·rw [if_pos (by simpa using k0),if_pos k0]
  by_cases h1:0≤n.int
  ·rw [if_pos (by simpa using h1),show decide (0≤n.int)=true by simpa using h1]
   show (if (n.label.data.toList==[])=true then _ else _)=_
   cases n.label.data.toList==[] with
   | true=>rw [if_pos rfl,A7]; rfl
   | false=>rfl
  ·rw [if_neg (by simpa using h1),show decide (0≤n.int)=false by simp; omega]; rfl
 rw [if_neg (by simpa using k0),if_neg k0]
 by_cases k1:n.kind=1
 ·rw [if_pos (by simpa using k1),if_pos k1]
  by_cases h1 : -1099511627776≤n.int
  ·rw [if_pos (by simpa using h1),show decide (-1099511627776≤n.int)=true by simpa using h1]
   by_cases h3:n.int≤1099511627776
   ·rw [if_pos (by simpa using h3),show decide (n.int≤1099511627776)=true by simpa using h3]
    show (if (n.label.data.toList==[])=true then _ else _)=_
    cases n.label.data.toList==[] with
    | true=>rw [if_pos rfl,A7]; rfl
    | false=>rfl
   ·rw [if_neg (by simpa using h3),show decide (n.int≤1099511627776)=false by simp; omega]; rfl
  ·rw [if_neg (by simpa using h1),show decide (-1099511627776≤n.int)=false by simp; omega]; rfl
 rw [if_neg (by simpa using k1),if_neg k1]
 by_cases k2:n.kind=2
 ·rw [if_pos (by simpa using k2),if_pos k2,sS hm,aaG]
  cases lL n.label with
  | false=>simp
  | true=>
   rw [if_pos rfl]
   cases h1:n.int==0 with
   | false=>rfl
   | true=>rw [if_pos rfl,A7]; rfl
 rw [if_neg (by simpa using k2),if_neg k2]
 by_cases k4:n.kind=4
 ·rw [if_pos (by simpa using k4),if_neg (show ¬n.kind=3 by omega),if_pos k4]
  unfold xr
  show (if (n.label.data.toList==[112,114,111,99])=true then _ else if (n.label.data.toList==[99,101,108,108])=true then _ else if (n.label.data.toList==[112,111,114,116])=true then _ else _)=_
  by_cases h1:0≤n.int
  ·have d1:decide (n.int≥0)=true:=decide_eq_true h1
   rw [d1]
   cases n.label.data.toList==[112,114,111,99]<;>cases n.label.data.toList==[99,101,108,108]<;>cases n.label.data.toList==[112,111,114,116]<;>first | rfl | (show some ((n.args.length:Int)==(0:Int))=_; rw [A7]; rfl)
  ·have d1:decide (n.int≥0)=false:=decide_eq_false h1
   rw [d1]
   cases n.label.data.toList==[112,114,111,99]<;>cases n.label.data.toList==[99,101,108,108]<;>cases n.label.data.toList==[112,111,114,116]<;>rfl
 rw [if_neg (by simpa using k4)]
 by_cases k3:n.kind=3
 ·rw [if_pos (by simpa using k3),if_pos k3,sS hm,aaG]
  cases lL n.label with
  | false=>simp
  | true=>
   cases h1:n.int==0 with
   | false=>rfl
   | true=>
    simp only [abM,aaU,if_false,Bool.and_self,abL]
    by_cases g1:1≤n.args.length
    ·rw [if_neg dm,decide_eq_true g1]
     by_cases g2:n.args.length≤8
     ·obtain⟨o,k1,k2⟩:=Bv (m:=m) (size:=size) g2 m 0 om om
      have k1:b8.l0 m n size m 0=_:=k1
      rw [abl] at k2
      rw [if_neg dm,decide_eq_true g2,k1,aaG]
      simp only [abL]
      rcases k2 with⟨⟨x,rfl⟩,k⟩| ⟨rfl,k⟩
      ·rw [k]
      ·rw [k]
     ·rw [if_pos dm,decide_eq_false g2]; simp
    ·rw [if_pos dm,decide_eq_false g1]; simp
 rw [if_neg (by simpa using k3),if_neg k3,if_neg k4]
theorem xK {m:Nat}(hm:20≤m){t:aI}(hl:t.nodes.length≤8000):∀(f i:Nat),t.nodes.length - i<f→i≤t.nodes.length→
  ∃o,bG.l0 m t f (i:Int)=some o∧((∃x,o = .inr x)∧((t.nodes.drop i).all fun n=>ec n t.nodes.length)=true∨o = .inl false∧((t.nodes.drop i).all fun n=>ec n t.nodes.length)=false)
 | 0,i,hf,_=>absurd hf om
 | f+1,i,hf,hi=>by
  unfold bG.l0
  by_cases h:i<t.nodes.length
  ·have hx:ix t.nodes (i:Int)=some t.nodes[i]:=by unfold ix; rw [if_pos om]; simp [h]
   rw [if_pos dm,hx,aaG,Dj hm,aaG,aaT h,abu]
   cases hb:ec t.nodes[i] t.nodes.length with
   | false=>exact⟨_,rfl,.inr ⟨rfl,rfl⟩⟩
   | true=>
    obtain⟨o,k1,k2⟩:=xK (m:=m) hm hl f (i+1) om om
    rw [if_neg (by simp),bJ om om,show (i:Int)+1=((i+1:Nat):Int) by omega,k1]
    exact⟨o,rfl,by simpa using k2⟩
  ·refine⟨_,by rw [if_neg dm],.inl ⟨⟨_,rfl⟩,?_⟩⟩
   rw [abH om]; rfl
theorem sU {m:Nat}(hm:2 ^ 30≤m)(t:aI):bG.f m t=some (ca t):=by
 have IV:(2:Nat) ^ 30=1073741824:=by decide
 unfold bG.f ca
 by_cases h1:1≤t.nodes.length
 ·rw [if_neg dm,decide_eq_true h1]
  by_cases h2:t.nodes.length≤8000
  ·rw [if_neg dm,decide_eq_true h2]
   by_cases h3:0≤t.root
   ·rw [if_neg dm,decide_eq_true h3]
    by_cases h4:t.root<t.nodes.length
    ·rw [if_neg dm,decide_eq_true h4]
     obtain⟨o,k1,k2⟩:=xK (m:=m) (t:=t) om h2 m 0 om om
     have k1:bG.l0 m t m 0=_:=k1
     rw [abl] at k2
     rw [k1,aaG]
     simp only [abL]
     rcases k2 with⟨⟨x,rfl⟩,k⟩| ⟨rfl,k⟩
     ·rw [k]
     ·rw [k]
    ·rw [if_pos dm,decide_eq_false h4]; rfl
   ·rw [if_pos dm,decide_eq_false h3]; rfl
  ·rw [if_pos dm,decide_eq_false h2]; rfl
 ·rw [if_pos dm,decide_eq_false h1]; rfl
theorem Lk {l:List ai}{i:Nat}(h:i<l.length):l[i]? = some (nd l i):=by
 have:=sO (l:=l) (i:=(i:Int)) om om
 unfold ix at this
 rwa [if_pos om,aaS] at this
end Go.Proofs.YtifafejidnjckaaGreat
namespace Go.Proofs.YtifafejidnjckaaGreat
open Go Go.R Go.Uf
open Go.IntKind (i64 u64 u8 u32)
end Go.Proofs.YtifafejidnjckaaGreat
namespace Go.Uf
open Go Go.R
open Go.IntKind (i64 u64 u8 u32)
end Go.Uf
namespace Go.Proofs.YtifafejidnjckaaGreat
open Go Go.R Go.Uf
open Go.IntKind (i64 u64 u8 u32)
section
variable {m:Nat}{s:ab}{t:wK}
def wS (len i:Nat)(n:ai):ai:=⟨n.kind,if n.kind=0 then ((len+i:Nat):Int) else n.int,n.label,n.args.map (· + (len:Int))⟩
def jY (len:Nat):Nat→List ai→List ai
 | _,[]=>[]
 | i,n::l=>wS len i n::jY len (i+1) l
theorem re (len:Nat):∀(l:List ai) (i:Nat),(jY len i l).length=l.length
 | [],i=>rfl
 | n::l,i=>by simp only [jY,aaW,re len l (i+1)]
theorem Bw (len:Nat):∀(l k:List ai) (i:Nat),jY len i (l++k)=jY len i l++jY len (i+l.length) k
 | [],k,i=>by simp [jY]
 | n::l,k,i=>by
  simp only [abm,jY,Bw len l k (i+1),aaW]
  rw [show i+1+l.length=i+(l.length+1) by omega]
theorem wg (len:Nat):∀(l:List ai) (i j:Nat),(jY len i l)[j]? = l[j]?.map (wS len (i+j))
 | [],i,j=>by simp [jY]
 | n::l,i,0=>by simp [jY]
 | n::l,i,j+1=>by
  simp only [jY,abK,wg len l (i+1) j]
  rw [show i+1+j=i+(j+1) by omega]
theorem Rm {len:Nat}{l:List ai}{i:Nat}{x:ai}(h:l[i]? = some x):jY len 0 (l.take (i+1))=jY len 0 (l.take i)++[wS len i x]:=by
 obtain⟨hi,he⟩:=aaM.1 h
 have et:l.take (i+1)=l.take i++[l[i]]:=abn hi
 rw [et,Bw,he]
 simp only [jY,abz]
 rw [show 0+min i l.length=i by omega]
end
section
variable {m:Nat}{s:ab}
theorem Fe (hm:2000000≤m)(v:Inv2 s){x:aI × Int}(ok:zE x.1.nodes)(hl:s.aa.length+x.1.nodes.length≤8000):∀(k i:Nat),i≤x.1.nodes.length→x.1.nodes.length - i<k→
  ∃z,aw.l0 m s x k (i:Int) ⟨true,s.aa++jY s.aa.length 0 (x.1.nodes.take i),s.ae++eQ s.aa.length i⟩=some (z,⟨true,s.aa++jY s.aa.length 0 x.1.nodes,s.ae++eQ s.aa.length x.1.nodes.length⟩)
 | 0,i,h1,h2=>by omega
 | k+1,i,h1,h2=>by
  have hlen:=v.inv.len
  simp only [aw.l0]
  by_cases hi:i<x.1.nodes.length
  ·have d:decide ((i:Int)<(x.1.nodes.length:Int))=true:=by rw [decide_eq_true_eq]; omega
   have eg:=aaL hi
   generalize x.1.nodes[i]=n at eg
   obtain⟨n8,nR⟩:=ok.2 n (aaP eg)
   have Vb:∀a∈n.args,0≤a∧a<8000:=fun a ha=>by have:=nR a ha; have:=ok.1; omega
   obtain⟨q1,q2⟩:=Dd (m:=m) (s:=s) n8 Vb om ⟨true,s.aa++jY s.aa.length 0 (x.1.nodes.take i),s.ae++eQ s.aa.length i⟩ m 0 (abe _) om
   have q1:aw.l1 m s n m 0 n.args ⟨true,s.aa++jY s.aa.length 0 (x.1.nodes.take i),s.ae++eQ s.aa.length i⟩=_:=q1
   have q2:aw.l2 m s n m 0 n.args ⟨true,s.aa++jY s.aa.length 0 (x.1.nodes.take i),s.ae++eQ s.aa.length i⟩=_:=q2
   have ew:i64.wrap ((i:Int)+1)=((i+1:Nat):Int):=by rw [jA om om]; omega
   have ef:i64.wrap ((s.aa.length:Int)+(i:Int))=((s.aa.length+i:Nat):Int):=by rw [jA om om]; omega
   rw [if_pos d,sQ eg]
   have et:=Rm (len:=s.aa.length) eg
   have hL:(jY s.aa.length 0 (x.1.nodes.take i)).length=i:=by rw [re,abz]; omega
   have hA:∀y,app 56 (s.aa++jY s.aa.length 0 (x.1.nodes.take i)) [y]=some (s.aa++jY s.aa.length 0 (x.1.nodes.take i)++[y]):=fun y=>wR (by rw [aaR,hL]; simp only [aaW,aba]; omega)
   have hB:∀y,app 8 (s.ae++eQ s.aa.length i) [y]=some (s.ae++eQ s.aa.length i++[y]):=fun y=>wR (by rw [aaR,lM]; simp only [aaW,aba]; omega)
   have ih:=Fe hm v ok hl k (i+1) om om
   rw [et,sd,←aa0,←aa0] at ih
   unfold wS at ih
   simp only [jn,aaG,q1,q2,ew,ef]
   by_cases hk:n.kind=0
   ·have:(n.kind==0)=true:=by rw [hk]; rfl
    simp only [this,if_true,hA,hB,aaG]
    rw [if_pos hk] at ih
    exact ih
   ·have:(n.kind==0)=false:=by simpa using hk
    simp only [this,aaU,if_false,hA,hB,aaG]
    rw [if_neg hk] at ih
    exact ih
  ·have d:decide ((i:Int)<(x.1.nodes.length:Int))=false:=by rw [decide_eq_false_iff_not]; omega
   have e:i=x.1.nodes.length:=by omega
   rw [if_neg (by rw [d]; decide),e,ab3]
   exact⟨_,rfl⟩
def fH (s:ab)(r:aI):ab:=⟨s.aj,s.aa++jY s.aa.length 0 r.nodes,s.ae++eQ s.aa.length r.nodes.length⟩
theorem zw (hm:2 ^ 41≤m)(v:Inv2 s)(t:aI)(hl:s.aa.length+t.nodes.length≤8000) :
  (ca t=false∧aw.f m s t=some (0,2,s))∨
  (ca t=true∧∃r,dG.f m t=some (r,0)∧bA.f m t=some r∧bA.f m r=some r∧ca r=true∧r.nodes.length≤t.nodes.length∧aw.f m s t=some ((s.aa.length:Int),0,fH s r)∧Inv2 (fH s r)):=by
 have IV:(2:Nat) ^ 30=1073741824:=by decide
 have vM:(2:Nat) ^ 41=2199023255552:=by decide
 have n3:=v.inv.max
 unfold aw.f b4.f dG.f
 rw [v.inv.made]
 simp only [aaG,abM,aaU,if_false]
 rw [lj om,aaG]
 cases h:ca t with
 | false=>
  left
  exact⟨rfl,rfl⟩
 | true=>
  right
  obtain⟨r,e1,hv,hle,e2⟩:=Da hm h
  obtain⟨ok,_,_,_,_⟩:=eJ hv
  have okB:∀n∈r.nodes,ec n r.nodes.length=true:=by
   unfold ca at hv
   simp only [aaK,aa1] at hv
   exact hv.2
  rw [if_neg (by decide),e1,aaG,aaG,if_neg (show ¬(!(((r,0):aI × Int).2==(0:Int)))=true by simp)]
  have ew:i64.wrap ((s.aa.length:Int)+(r.nodes.length:Int))=((s.aa.length+r.nodes.length:Nat):Int):=by rw [jA om om]; omega
  rw [ew,if_neg (by rw [decide_eq_true_eq]; omega)]
  obtain⟨z1,a1⟩:=Fe (m:=m) om v (x:=(r,0)) ok (by show _+r.nodes.length≤8000; omega) m 0 (abe _) (by show r.nodes.length - 0<m; omega)
  have es:eQ s.aa.length 0=[]:=by simp [eQ]
  rw [es] at a1
  have a1:aw.l0 m s (r,0) m 0 ⟨true,s.aa++[],s.ae++[]⟩=some (z1,⟨true,s.aa++jY s.aa.length 0 r.nodes,s.ae++eQ s.aa.length r.nodes.length⟩):=a1
  rw [abU,abU] at a1
  have b1:aw.l0 m s (r,0) m 0 s=some (z1,fH s r):=by
   have:s=⟨true,s.aa,s.ae⟩:=xE v.inv.made rfl rfl
   rw [←this] at a1
   rw [a1]
   unfold fH
   rw [v.inv.made]
  rw [b1]
  have hL:=re s.aa.length r.nodes 0
  obtain⟨w1,w2⟩:=v.more (jY s.aa.length 0 r.nodes) (fun i x hx=>by
   rw [wg] at hx
   obtain⟨y,hy,rfl⟩:=aaI.1 hx
   have hi:=(aaM.1 hy).1
   rw [aa7,hL]
   have hb:=okB y (aaP hy)
   obtain⟨T,ha⟩:=kI hb
   refine⟨?_,fun k=>by unfold wS at k ⊢; simp only at k ⊢; rw [if_pos k]⟩
   unfold wS
   refine pe hb _ (fun a h=>by have:=ha a h; omega) (fun k=>by rw [if_pos k]; omega) (fun k=>by rw [if_neg k])) (by rw [hL]; omega)
  rw [hL] at w1
  exact⟨rfl,r,rfl,rfl,e2,hv,hle,rfl,w1⟩
theorem oM (r:aI):(fH s r).aa.length=s.aa.length+r.nodes.length:=by unfold fH; rw [aaR,re]
theorem Ff (v:Inv2 s)(r:aI):(∀n,Rg s.aa.length n→rp (fH s r).ae n=rp s.ae n)∧∀n:Int,(s.aa.length:Int)≤n→n<s.aa.length+r.nodes.length→rp (fH s r).ae n=n:=by
 obtain⟨_,b,c⟩:=Dc v.inv.ok r.nodes.length
 rw [v.inv.len] at b c
 exact⟨b,c⟩
theorem Jt (r:aI){n:Int}(h:Rg s.aa.length n):dh (fH s r).aa n=dh s.aa n:=lN h
theorem Ju (r:aI){j:Nat}(h:j<r.nodes.length):dh (fH s r).aa ((s.aa.length+j:Nat):Int)=wS s.aa.length j (nd r.nodes j):=by
 unfold dh fH
 rw [aaS,aaV,aaZ om,abC,wg,aa7,Lk h]
 rfl
structure At (S:ab)(b:Nat)(r:aI):Prop where
 OL:∀j:Nat,j<r.nodes.length→rp S.ae ((b+j:Nat):Int)=((b+j:Nat):Int)
 Bb:∀j:Nat,j<r.nodes.length→dh S.aa ((b+j:Nat):Int)=wS b j (nd r.nodes j)
 rg:b+r.nodes.length≤S.aa.length
theorem At.new (v:Inv2 s)(r:aI):At (fH s r) s.aa.length r:=
 ⟨fun j h=>(Ff v r).2 _ om om,fun j h=>Ju r h,by rw [oM]; exact aaN _⟩
theorem At.more {b:Nat}{r q:aI}(h:At s b r)(v:Inv2 s):At (fH s q) b r:=by
 have hg:∀j:Nat,j<r.nodes.length→Rg s.aa.length ((b+j:Nat):Int):=fun j hj=>⟨om,by have:=h.rg; omega⟩
 exact⟨fun j hj=>by rw [(Ff v q).1 _ (hg j hj)]; exact h.OL j hj,fun j hj=>by rw [Jt q (hg j hj)]; exact h.Bb j hj,by rw [oM]; have:=h.rg; omega⟩
theorem At.eqv (hm:2 ^ 41≤m)(v:Inv2 s){b:Nat}{r:aI}(h:At s b r)(hr:ca r=true)(hf:bA.f m r=some r){l:List Int}(hl:Reach s ((b:Nat):Int) l):∃R,xA (TN s l) (iw (kB b r.nodes) r).nodes R∧R 0 0:=by
 obtain⟨ok,h1,_,_,_⟩:=eJ hr
 have hlen:(iw (kB b r.nodes) r).nodes.length=r.nodes.length:=by simp [iw]
 refine⟨fun i j=>0≤i∧∃j':Nat,j=j'∧j'<r.nodes.length∧l[i.toNat]? = some ((b+j':Nat):Int),⟨?_,?_,?_⟩,Int.le_refl 0,0,rfl,om,hl.hd⟩
 ·rintro i j ⟨i0,j',rfl,hj,e⟩
  rw [hlen]
  refine⟨⟨i0,?_⟩,om,om⟩
  have:=Dg i0 e
  unfold TN
  rw [aaY]
  exact this
 ·rintro i j ⟨i0,j',rfl,hj,e⟩
  rw [nv e,show nd (iw (kB b r.nodes) r).nodes (j':Int)=hJ (kB b r.nodes) (nd r.nodes j') from vS om om]
  have hu:=h.Bb j' hj
  unfold sR
  rw [hu]
  refine⟨rfl,?_,rfl,by simp [wS,hJ]⟩
  show (if (nd r.nodes (j':Int)).kind=0 then ((b+j':Nat):Int) else _)=(if (nd r.nodes (j':Int)).kind=0 then kB b r.nodes (nd r.nodes (j':Int)).int else _)
  by_cases k:(nd r.nodes (j':Int)).kind=0
  ·rw [if_pos k,if_pos k,vT hm hr hf b hj k]
  ·rw [if_neg k,if_neg k]
 ·rintro i j ⟨i0,j',rfl,hj,e⟩ n hn
  have hu:=h.Bb j' hj
  rw [nv e] at hn
  have JH:n<(nd r.nodes (j':Int)).args.length:=by
   unfold sR at hn
   rw [hu] at hn
   simpa [wS] using hn
  have hy:=(xu ok hj).2 _ (bK JH)
  have hg:(dh s.aa ((b+j':Nat):Int)).args[n]? = some (gt (nd r.nodes (j':Int)).args n+(b:Int)):=by
   rw [hu]
   show (List.map _ _)[n]? = _
   rw [abd,dt JH]; rfl
  rw [nv e,q9 hg,show nd (iw (kB b r.nodes) r).nodes (j':Int)=hJ (kB b r.nodes) (nd r.nodes j') from vS om om]
  have ey:gt (nd r.nodes (j':Int)).args n+(b:Int)=((b+(gt (nd r.nodes (j':Int)).args n).toNat:Nat):Int):=by omega
  have hin:=hl.cl _ (aaP e) _ (aaP hg)
  rw [ey,h.OL _ om] at hin ⊢
  refine⟨(q8 hin).1,(gt (nd r.nodes (j':Int)).args n).toNat,?_,om,mD hin⟩
  show gt (nd r.nodes (j':Int)).args n=_
  omega
theorem At.tree (hm:2 ^ 41≤m)(v:Inv2 s){b:Nat}{r:aI}(h:At s b r)(hr:ca r=true)(hf:bA.f m r=some r):az.f m s ((b:Nat):Int)=some (iw (kB b r.nodes) r,0)∧∃l,Reach s ((b:Nat):Int) l∧BR ⟨TN s l,0⟩ (iw (kB b r.nodes) r):=by
 obtain⟨ok,h1,_,_,_⟩:=eJ hr
 have hb:Rg s.aa.length ((b:Nat):Int):=⟨om,by have:=h.rg; omega⟩
 obtain⟨l,z,hR,hv,e1,e2,_⟩:=N6 hm v hb
 have er:rp s.ae ((b:Nat):Int)=((b:Nat):Int):=h.OL 0 om
 rw [er] at hR
 obtain⟨R,B,OM⟩:=h.eqv hm v hr hf hR
 have r0:=(np hm hr hf).1
 obtain⟨Gu,e3⟩:=Bi hm hr hf b
 have Oq:(iw (kB b r.nodes) r).root=0:=r0
 obtain⟨w,w1,w2⟩:=pd hm hv Gu B (by rw [Oq]; exact OM)
 rw [e1] at w1
 rw [e3] at w2
 cases aa8 w1
 cases aa8 w2
 exact⟨e2,l,hR,R,B,by rw [Oq]; exact OM⟩
theorem Oa (hm:2 ^ 41≤m)(v:Inv2 s){n:Int}(h:Rg s.aa.length n):∃l fl,Reach s (rp s.ae n) l∧dL.f m s n=some (fl,0)∧(fl.length=0↔∀x∈l,(dh s.aa x).kind≠0)∧fl.length≤8000:=by
 have vM:(2:Nat) ^ 41=2199023255552:=by decide
 have h8:=v.inv.max
 unfold dL.f
 rw [tW om v.inv.made [n] (by simp),aaG]
 rw [show ([n].all fun n=>decide (Rg s.aa.length n))=true by simp [h],if_pos rfl,if_neg (by decide)]
 obtain⟨l1,e1,R1⟩:=E8 (m:=m) om v.inv h
 have f1:=R1.Gf
 have eD:=Bn (m:=m) (f:=fun y0=>cU.f m y0 s) (g:=fun x=>!((dh s.aa x).kind==0)) om l1 om (fun x hx=>by
  simp only [cU.f]
  rw [zt (R1.rt x hx).1,aaG])
 rw [e1,aaG,eD,aaG]
 refine⟨l1,_,R1,rfl,?_,?_⟩
 ·rw [kG,List.length_eq_zero_iff,List.filter_eq_nil_iff]
  simp
 ·rw [kG]
  have:=List.length_filter_le (fun x=>!(!((dh s.aa x).kind==0))) l1
  omega
end
section
variable {m:Nat}{s:ab}
theorem rf {ok:Option Bool}{n:ai}{z:Int × Int × ab}(h:bT.f m s ok n=some z):z.2.2.aa.length≤s.aa.length+1:=by
 unfold bT.f at h
 obtain⟨x0,_,h⟩:=aW h
 rcases du h with⟨_,h⟩| ⟨_,h⟩
 ·cases h; simp
 obtain⟨r0,_,h⟩:=aW h
 rcases du h with⟨_,h⟩| ⟨_,h⟩
 ·cases h; simp
 rcases du h with⟨_,h⟩| ⟨_,h⟩
 ·cases h; simp
 simp only [jn] at h
 have key:∀i:Int,((app 56 s.aa [(⟨n.kind,i,n.label,n.args⟩:ai)]).bind fun x1=>(app 8 s.ae [(s.aa.length:Int)]).bind fun x2=>some ((s.aa.length:Int),(0:Int),(ab.mk s.aj x1 x2)))=some z→z.2.2.aa.length≤s.aa.length+1:=by
  intro i h
  obtain⟨x1,e1,h⟩:=aW h
  obtain⟨x2,e2,h⟩:=aW h
  cases h
  unfold app at e1
  split at e1
  ·cases e1; simp
  ·cases e1
 rcases du h with⟨_,h⟩| ⟨_,h⟩<;>exact key _ h
theorem Ob (hm:2 ^ 41≤m)(v:Inv2 s)(x:bb)(hT:x.tR.nodes.length≤40)(hs:s.aa.length+40≤8000){z:Int × ab}(h:iU.f m s x=some z):z.2.aa.length≤s.aa.length+40:=by
 have vM:(2:Nat) ^ 41=2199023255552:=by decide
 unfold iU.f at h
 rcases du h with⟨_,h⟩| ⟨_,h⟩
 ·obtain⟨x1,e1,h⟩:=aW h
  obtain⟨x0,e0,e1⟩:=aW e1
  have:=rf e0
  cases e1; cases h; show x0.2.2.aa.length≤_; omega
 rcases du h with⟨_,h⟩| ⟨_,h⟩
 ·obtain⟨x1,e1,h⟩:=aW h
  obtain⟨x0,e0,e1⟩:=aW e1
  have:=rf e0
  cases e1; cases h; show x0.2.2.aa.length≤_; omega
 rcases du h with⟨_,h⟩| ⟨_,h⟩
 ·obtain⟨x1,e1,h⟩:=aW h
  obtain⟨x0,e0,e1⟩:=aW e1
  have:=rf e0
  cases e1; cases h; show x0.2.2.aa.length≤_; omega
 rcases du h with⟨_,h⟩| ⟨_,h⟩
 ·obtain⟨x1,e1,h⟩:=aW h
  obtain⟨y,_,e1⟩:=aW e1
  obtain⟨x0,e0,e1⟩:=aW e1
  have:=rf e0
  cases e1; cases h; show x0.2.2.aa.length≤_; omega
 rcases du h with⟨_,h⟩| ⟨_,h⟩
 ·obtain⟨x1,e1,h⟩:=aW h
  obtain⟨x0,e0,e1⟩:=aW e1
  have:=rf e0
  cases e1; cases h; show x0.2.2.aa.length≤_; omega
 rcases du h with⟨_,h⟩| ⟨_,h⟩
 ·obtain⟨x1,e1,h⟩:=aW h
  rcases zw hm v x.tR om with⟨_,e⟩| ⟨_,r,_,_,_,_,hr,e,_⟩
  ·rw [e] at e1
   cases e1; cases h; show s.aa.length≤_; omega
  ·rw [e] at e1
   cases e1; cases h
   show (fH s r).aa.length≤_
   rw [oM]; omega
 rcases du h with⟨_,h⟩| ⟨_,h⟩
 ·obtain⟨x1,e1,h⟩:=aW h
  obtain⟨l,e,s',e2,_,_,eN,_⟩:=tX (show 2000000≤m by omega) v x.tc x.D0
  rw [e2] at e1
  cases e1; cases h
  show s'.aa.length≤_
  rw [eN]; omega
 rcases du h with⟨_,h⟩| ⟨_,h⟩
 ·obtain⟨x1,e1,h⟩:=aW h
  obtain⟨t,l,e,e2⟩:=Jk (show 2000000≤m by omega) v x.tc x.D0
  rw [e2] at e1
  cases e1; cases h
  show s.aa.length≤_; omega
 ·cases h; show s.aa.length≤_; omega
theorem xL (l:List bb)(hl:l.length<2 ^ 63):∀(k i:Nat),i≤l.length→∀z,bq.l0 m l k (i:Int)=some (.inr z)→∀j,i≤j→∀x,l[j]? = some x→x.tR.nodes.length≤40
 | 0,i,h1,z,e=>by simp [bq.l0] at e
 | k+1,i,h1,z,e=>by
  have Rh:(2:Nat) ^ 63=9223372036854775808:=by decide
  simp only [bq.l0] at e
  intro j hj x hx
  by_cases hi:i<l.length
  ·have d:decide ((i:Int)<(l.length:Int))=true:=by rw [decide_eq_true_eq]; omega
   have eg:=aaL hi
   generalize l[i]=n at eg
   have ew:i64.wrap ((i:Int)+1)=((i+1:Nat):Int):=by rw [jA om om]; omega
   rw [if_pos d,sQ eg] at e
   simp only [aaG,ew] at e
   split at e
   ·cases e
   rename_i h40
   have Vj:n.tR.nodes.length≤40:=by simp only [decide_eq_true_eq] at h40; omega
   split at e
   ·cases e
   by_cases hji:j=i
   ·subst hji
    rw [eg] at hx; cases hx
    exact Vj
   ·exact xL l hl k (i+1) om z e j om x hx
  ·rw [aa2 om] at hx; cases hx
theorem Jv (hm:2 ^ 63≤m)(l:List bb)(hl:l.length<2 ^ 63)(h:bq.f m l=some false):∀x∈l,x.tR.nodes.length≤40:=by
 intro x hx
 obtain⟨j,hj⟩:=abv hx
 unfold bq.f at h
 obtain⟨o,e,h⟩:=aW h
 cases o with
 | inl b=>
  rcases vZ (m:=m) l hl m 0 (abe _) om with⟨b',e',hb⟩| ⟨z,e',_⟩
  ·have e':bq.l0 m l m 0=_:=e'
   rw [e'] at e
   cases e
   subst hb
   cases h
  ·have e':bq.l0 m l m 0=_:=e'
   rw [e'] at e
   cases e
 | inr z=>exact xL l hl m 0 (abe _) z e j (abe _) x hj
theorem Bx (hm:2 ^ 41≤m)(l:List bb)(hl:Small l)(hT:∀x∈l,x.tR.nodes.length≤40):∀(k i:Nat) (s:ab),i≤l.length→l.length - i<k→Inv2 s→s.aa.length≤40*i→∃s',cK.l0 m l k (i:Int) s=some ((l.length:Int),s')∧Inv2 s'∧s'.aa.length≤2400
 | 0,i,s,h1,h2,_,_=>by omega
 | k+1,i,s,h1,h2,v,hs=>by
  simp only [cK.l0]
  have h60:=hl.1
  by_cases hi:i<l.length
  ·have d:decide ((i:Int)<(l.length:Int))=true:=by rw [decide_eq_true_eq]; omega
   have eg:=aaL hi
   generalize l[i]=n at eg
   have ew:i64.wrap ((i:Int)+1)=((i+1:Nat):Int):=by rw [jA om om]; omega
   obtain⟨e,s',e1,d1⟩:=Vc hm v n (hl.2 n (aaP eg))
   have hle:=Ob hm v n (hT n (aaP eg)) om e1
   have hle:s'.aa.length≤s.aa.length+40:=hle
   rw [if_pos d,sQ eg]
   simp only [aaG,ew,e1]
   exact Bx hm l hl hT k (i+1) s' om om d1.1 om
  ·have d:decide ((i:Int)<(l.length:Int))=false:=by rw [decide_eq_false_iff_not]; omega
   have e:i=l.length:=by omega
   rw [if_neg (by rw [d]; decide),e]
   exact⟨s,rfl,v,om⟩
theorem Ll (hm:2 ^ 41≤m)(l:List bb)(hl:Small l)(hT:∀x∈l,x.tR.nodes.length≤40):∃s,cK.f m l=some s∧Inv2 s∧s.aa.length≤2400:=by
 have vM:(2:Nat) ^ 41=2199023255552:=by decide
 have h60:=hl.1
 obtain⟨s,e,v,hs⟩:=Bx hm l hl hT m 0 ⟨true,[],[]⟩ (abe _) om Lf (by simp)
 have e:cK.l0 m l m 0 ⟨true,[],[]⟩=_:=e
 refine⟨s,?_,v,hs⟩
 simp only [cK.f,jJ.f,aaG,e]
theorem At.there {b:Nat}{r:aI}(h:At s b r)(ok:zE r.nodes)(h1:0<r.nodes.length){l:List Int}(hl:Reach s ((b:Nat):Int) l):∀u∈l,∃j:Nat,j<r.nodes.length∧u=((b+j:Nat):Int):=by
 intro u hu
 have:=(hl.rt u hu).2.2
 clear hu
 induction this with
 | refl=>exact⟨0,h1,rfl⟩
 | step _ ha ih=>
  obtain⟨j,hj,rfl⟩:=ih
  rw [h.Bb j hj] at ha
  obtain⟨y,hy,rfl⟩:=abf.1 ha
  have:=(xu ok hj).2 y hy
  refine⟨y.toNat,om,?_⟩
  have e:y+(b:Int)=((b+y.toNat:Nat):Int):=by omega
  rw [e,h.OL _ om]
theorem By (hm:2 ^ 41≤m){t z:aI}(ht:ca t=true)(h:bA.f m t=some z)(hk:∀n∈t.nodes,n.kind≠0):∀n∈z.nodes,n.kind≠0:=by
 obtain⟨c,ns,e,_,Q,_⟩:=gS hm ht
 rw [h] at e
 cases aa8 e
 intro n hn
 obtain⟨k,qh,rfl⟩:=ab2 hn
 have hq:=Q.new k (by simp) (by rw [←Q.len]; exact qh)
 rw [aaL qh] at hq
 rw [aa8 hq]
 have hr:=Q.vs.nS _ (bK (l:=r9 c t.nodes m t.root []) (k:=k) (by rw [←Q.len]; exact qh))
 have:=hk _ (gR hr.1 hr.2)
 exact this
theorem Bz {g:Int→Int}{r:aI}(h:∀n∈r.nodes,n.kind≠0):iw g r=r:=by
 have:r.nodes.map (hJ g)=r.nodes:=by
  conv=>rhs; rw [←List.map_id r.nodes]
  apply abQ
  intro n hn
  unfold hJ
  rw [if_neg (h n hn)]; rfl
 unfold iw
 rw [this]
theorem wi (hm:2 ^ 63≤m)(g:Int→Int)(r:aI)(ok:zE r.nodes)(q w:Int):∀(k i:Nat) (g0:Bool),i≤r.nodes.length→r.nodes.length - i<k→∃g1,a7.l0 m (iw g r,q) (r,w) k g0 (i:Int)=some (.inr (g1,(r.nodes.length:Int)))∧(g1=true→∀j,i≤j→∀x,r.nodes[j]? = some x→x.kind≠0)
 | 0,i,g0,h1,h2=>by omega
 | k+1,i,g0,h1,h2=>by
  have Rh:(2:Nat) ^ 63=9223372036854775808:=by decide
  have hlen:(iw g r).nodes.length=r.nodes.length:=by simp [iw]
  have hm8:=ok.1
  simp only [a7.l0,hlen]
  by_cases hi:i<r.nodes.length
  ·have d:decide ((i:Int)<(r.nodes.length:Int))=true:=by rw [decide_eq_true_eq]; omega
   have eg:=aaL hi
   generalize r.nodes[i]=n at eg
   have Zz:(iw g r).nodes[i]? = some (hJ g n):=by unfold iw; rw [abd,eg]; rfl
   have ew:i64.wrap ((i:Int)+1)=((i+1:Nat):Int):=by rw [jA om om]; omega
   have n8:=(ok.2 n (aaP eg)).1
   have Aj:=Dh (m:=m) hm n om
   rw [if_pos d,sQ Zz,aaG,sQ eg,aaG]
   by_cases hk:n.kind=0
   ·rw [if_pos (show ((hJ g n).kind==0)=true by simp [hJ,hk]),show ai.mk (hJ g n).kind n.int (hJ g n).label (hJ g n).args=n from rfl,Aj,aaG,if_neg (by decide),ew]
    obtain⟨g1,e,h⟩:=wi hm g r ok q w k (i+1) false om om
    refine⟨g1,e,fun hg j hj x hx=>?_⟩
    exfalso
    have key:∀(k i:Nat) (z:Bool × Int),a7.l0 m (iw g r,q) (r,w) k false (i:Int)=some (.inr z)→z.1=false:=by
     intro k
     induction k with
     | zero=>intro i z h; simp [a7.l0] at h
     | succ k ih=>
      intro i z h
      simp only [a7.l0,hlen] at h
      rcases du h with⟨hc,h⟩| ⟨_,h⟩
      ·have ew:i64.wrap ((i:Int)+1)=((i+1:Nat):Int):=by simp only [decide_eq_true_eq] at hc; rw [jA om om]; omega
       rw [ew] at h
       obtain⟨a,_,h⟩:=aW h
       obtain⟨b,_,h⟩:=aW h
       rcases du h with⟨_,h⟩| ⟨_,h⟩<;>
       ·obtain⟨c,_,h⟩:=aW h
        rcases du h with⟨_,h⟩| ⟨_,h⟩
        ·cases h
        ·exact ih _ z h
      ·cases h; rfl
    have:=key _ _ _ e
    rw [hg] at this
    cases this
   ·have er:hJ g n=n:=by unfold hJ; rw [if_neg hk]
    rw [er,if_neg (by simpa using hk),Aj,aaG,if_neg (by decide),ew]
    obtain⟨g1,e,h⟩:=wi hm g r ok q w k (i+1) g0 om om
    refine⟨g1,e,fun hg j hj x hx=>?_⟩
    by_cases hji:j=i
    ·subst hji
     rw [eg] at hx; cases hx
     exact hk
    ·exact h hg j om x hx
  ·have d:decide ((i:Int)<(r.nodes.length:Int))=false:=by rw [decide_eq_false_iff_not]; omega
   have e:i=r.nodes.length:=by omega
   rw [if_neg (by rw [d]; decide),e]
   refine⟨g0,rfl,fun _ j hj x hx=>?_⟩
   rw [aa2 om] at hx; cases hx
theorem Dk (hm:2000000≤m)(v:Inv2 s){a b:Int}{la lb:List Int}(ha:Rg s.aa.length a)(hb:Rg s.aa.length b)(ra:rp s.ae a=a)(rb:rp s.ae b=b)(La:Reach s a la)(Lb:Reach s b lb)
  (ka:∀x∈la,(dh s.aa x).kind≠0) (kb:∀x∈lb,(dh s.aa x).kind≠0):∃l e s',cm.f m s a b=some (l,e,s')∧(e=0↔Sb s a b):=by
 obtain⟨l,e,s',e1,v',_,eN,h⟩:=tX hm v a b
 refine⟨l,e,s',e1,?_⟩
 rcases h with⟨hn,_⟩| ⟨_,rfl,_,hT⟩| ⟨_,rfl,hU,MB,_⟩
 ·simp only [py,abu,List.all_nil,Bool.and_true,decide_eq_true ha,decide_eq_true hb] at hn
  cases hn
 ·refine⟨fun h=>absurd h (by decide),fun h=>(hT (Li s) (N8 v) (Lj v.inv) ((Df v.inv ha hb).2 ?_)).elim⟩
  rw [ra,rb]; exact h
 ·refine⟨fun _=>?_,fun _=>rfl⟩
  have hC:Cl s.aa (rp s'.ae):=by have:=v'.cl; rwa [eN] at this
  have c:=v.inv.cn
  refine⟨fun x y=>x∈la∧y∈lb∧rp s'.ae x=rp s'.ae y,⟨?_,?_,?_⟩,aaP La.hd,aaP Lb.hd,MB⟩
  ·rintro x y ⟨h1,h2,_⟩
   obtain⟨u1,u2,_⟩:=La.rt x h1
   obtain⟨w1,w2,_⟩:=Lb.rt y h2
   exact⟨⟨u1,u2⟩,w1,w2⟩
  ·rintro x y ⟨h1,h2,h3⟩
   exact (hC x y (La.rt x h1).1 (Lb.rt y h2).1 h3 (ka x h1) (kb y h2)).1
  ·rintro x y ⟨h1,h2,h3⟩ i p q hp hq
   have k:=(hC x y (La.rt x h1).1 (Lb.rt y h2).1 h3 (ka x h1) (kb y h2)).2 i p q hp hq
   have mp:=aaP hp
   have mq:=aaP hq
   have rP:=(v.inv.args _ (gm (La.rt x h1).1)).2 p mp
   have rQ:=(v.inv.args _ (gm (Lb.rt y h2).1)).2 q mq
   refine⟨La.cl x h1 p mp,Lb.cl y h2 q mq,?_⟩
   rw [hU _ _ (c.rg p rP) rP (c.id p rP),hU _ _ (c.rg q rQ) rQ (c.id q rQ)]
   exact k
theorem Dl (hm:2 ^ 63≤m)(l:List bb)(a b:aI)(h1:l.length<2 ^ 63)(h2:a.nodes.length<2 ^ 63)(h3:b.nodes.length<2 ^ 63):a7.f m l a b=some true:=by
 have IV:(2:Nat) ^ 30=1073741824:=by decide
 have vM:(2:Nat) ^ 41=2199023255552:=by decide
 have p63:(2:Nat) ^ 63=9223372036854775808:=by decide
 have mF:2 ^ 41≤m:=by omega
 unfold a7.f
 obtain⟨q,e1,g1⟩:=Le hm l h1
 rw [e1,aaG]
 cases q with
 | true=>rfl
 | false=>
  rw [if_neg (by decide)]
  by_cases ha:a.nodes.length > 40
  ·rw [if_pos (by rw [decide_eq_true_eq]; omega)]; rfl
  rw [if_neg (by rw [decide_eq_true_eq]; omega)]
  by_cases hb:b.nodes.length > 40
  ·rw [if_pos (by rw [decide_eq_true_eq]; omega)]; rfl
  rw [if_neg (by rw [decide_eq_true_eq]; omega)]
  obtain⟨s,e2,v,hs⟩:=Ll mF l (g1 rfl) (Jv hm l h1 e1)
  rw [e2,aaG]
  have vA:=sU (m:=m) om a
  have vB:=sU (m:=m) om b
  rcases zw mF v a om with⟨fa,eA⟩| ⟨ta,ra,ZA,ZB,ZC,va,hra,eA,wa⟩
  ·rw [eA,aaG]
   rcases zw mF v b om with⟨fb,eB⟩| ⟨tb,rb,ZD,Xi,Oc,vb,ZE,eB,wb⟩
   ·rw [show ((0,2,s):Int × Int × ab).2.2=s from rfl,eB,aaG]
    simp only [vA,vB,fa,fb,aaG]; rfl
   ·rw [show ((0,2,s):Int × Int × ab).2.2=s from rfl,eB,aaG]
    simp only [vA,vB,fa,aaG]; rfl
  ·rw [eA,aaG]
   have hl1:=oM (s:=s) ra
   rcases zw mF wa b om with⟨fb,eB⟩| ⟨tb,rb,ZD,Xi,Oc,vb,ZE,eB,wb⟩
   ·rw [show (((s.aa.length:Int),0,fH s ra):Int × Int × ab).2.2=fH s ra from rfl,eB,aaG]
    simp only [vB,fb,aaG]; rfl
   ·rw [show (((s.aa.length:Int),0,fH s ra):Int × Int × ab).2.2=fH s ra from rfl,eB,aaG]
    have Lw:=oM (s:=fH s ra) rb
    have AA:At (fH (fH s ra) rb) s.aa.length ra:=(At.new v ra).more wa
    have AB:At (fH (fH s ra) rb) (fH s ra).aa.length rb:=At.new wa rb
    obtain⟨tA,lA,RA,EA⟩:=AA.tree mF wb va ZC
    obtain⟨tB,lB,RB,EB⟩:=AB.tree mF wb vb Oc
    obtain⟨Vk,pA,_,_,_⟩:=eJ va
    obtain⟨okB,pB,_,_,_⟩:=eJ vb
    have Rn:(iw (kB s.aa.length ra.nodes) ra).nodes.length=ra.nodes.length:=by simp [iw]
    have ZF:Rg (fH (fH s ra) rb).aa.length ((s.aa.length:Nat):Int):=⟨om,by have:=AA.rg; omega⟩
    have Xj:Rg (fH (fH s ra) rb).aa.length (((fH s ra).aa.length:Nat):Int):=⟨om,by have:=AB.rg; omega⟩
    have ZG:rp (fH (fH s ra) rb).ae ((s.aa.length:Nat):Int)=((s.aa.length:Nat):Int):=AA.OL 0 om
    have Xk:rp (fH (fH s ra) rb).ae (((fH s ra).aa.length:Nat):Int)=(((fH s ra).aa.length:Nat):Int):=AB.OL 0 om
    obtain⟨gr,eL,ZH⟩:=wi hm (kB s.aa.length ra.nodes) ra Vk 0 0 m 0 true (abe _) (by have:=Vk.1; omega)
    have eL:a7.l0 m (iw (kB s.aa.length ra.nodes) ra,0) (ra,0) m true 0=_:=eL
    obtain⟨lF,fl,RF,eF,hF,hF8⟩:=Oa mF wb Xj
    rw [Xk] at RF
    obtain⟨c,eS,hc⟩:=N7 mF ta tb
    obtain⟨ul,ue,us,eU,_⟩:=tX (show 2000000≤m by omega) wb ((s.aa.length:Nat):Int) (((fH s ra).aa.length:Nat):Int)
    have ZI:dG.f m a=some (ra,0):=ZA
    rw [if_neg (show ¬(!((((s.aa.length:Int),0,fH s ra):Int × Int × ab).2.1==(0:Int)))=true by simp),if_neg (show ¬(!(((((fH s ra).aa.length:Int),0,fH (fH s ra) rb):Int × Int × ab).2.1==(0:Int)))=true by simp)]
    simp only [tA,ZI,aaG,Rn,eL,eF,eS,eU]
    rw [if_neg (by simp)]
    cases hg:gr with
    | false=>rfl
    | true=>
     rw [if_neg (by decide)]
     by_cases V8:fl.length > 0
     ·rw [if_pos (by rw [decide_eq_true_eq]; omega)]; rfl
     rw [if_neg (by rw [decide_eq_true_eq]; omega)]
     have kA:∀n∈ra.nodes,n.kind≠0:=fun n hn=>by
      obtain⟨j,hj⟩:=abv hn
      exact ZH hg j (abe _) n hj
     have kF:=hF.1 om
     have ZJ:∀x∈lA,(dh (fH (fH s ra) rb).aa x).kind≠0:=fun x hx=>by
      obtain⟨j,hj,rfl⟩:=AA.there Vk om RA x hx
      rw [AA.Bb j hj]
      have:=kA _ (gR (l:=ra.nodes) (i:=(j:Int)) om om)
      exact this
     obtain⟨ul',ue',us',Xl,hU⟩:=Dk (show 2000000≤m by omega) wb ZF Xj ZG Xk RA RF ZJ kF
     rw [eU] at Xl
     cases Xl
     have key:ue=0↔c=true:=by
      rw [hU,hc,←N9 RA RF]
      have eb:iw (kB (fH s ra).aa.length rb.nodes) rb=rb:=by
       apply Bz
       intro n hn
       have Xm:=Bs wb RF
       obtain⟨R,B,OM⟩:=AB.eqv mF wb vb Oc RF
       obtain⟨Gu,e3⟩:=Bi mF vb Oc (fH s ra).aa.length
       have r0:=(np mF vb Oc).1
       obtain⟨w,w1,w2⟩:=pd mF Xm Gu B (by show R 0 rb.root; rw [r0]; exact OM)
       rw [e3] at w2
       cases aa8 w2
       have hk:=By mF Xm w1 (fun x hx=>by
        obtain⟨u,hu,rfl⟩:=abf.1 hx
        exact kF u hu)
       exact hk (hJ (kB (fH s ra).aa.length rb.nodes) n) (List.mem_map_of_mem hn)
      have ea:iw (kB s.aa.length ra.nodes) ra=ra:=Bz kA
      obtain⟨R,B,OM⟩:=AB.eqv mF wb vb Oc RF
      have r0:=(np mF vb Oc).1
      have EF:BR ⟨TN (fH (fH s ra) rb) lF,0⟩ rb:=⟨R,by rw [eb] at B; exact B,by rw [r0]; exact OM⟩
      rw [ea] at EA
      have e1:BR a ra:=xJ mF ta ZB
      have e2:BR b rb:=xJ mF tb Xi
      exact⟨fun h=>(e1.trans EA.symm).trans (h.trans (EF.trans e2.symm)),fun h=>(EA.trans e1.symm).trans (h.trans (e2.trans EF.symm))⟩
     have:((ue==0)==c)=true:=by
      rw [beq_iff_eq,Bool.eq_iff_iff,beq_iff_eq]; exact key
     rw [if_pos this]
     rfl
end
end Go.Proofs.YtifafejidnjckaaGreat
namespace Go.Proofs.YtifafejidnjckaaGreat
open Go Go.R
open Go.IntKind (i64 u64 u8 u32)
def Nf (xs ys:List AV):Prop:=cQ xs=true∧dH xs=ys
theorem xM:∀a b:List AV,cQ (a++b)=(cQ a&&cQ b)
 | [],b=>rfl
 | x::a,b=>by rw [abm,cQ,cQ,xM,Bool.and_assoc]
theorem xN:∀a b:List AV,dH (a++b)=dH a++dH b
 | [],b=>rfl
 | x::a,b=>by rw [abm,dH,dH,xN,abm]
theorem Nf.app {a b c d:List AV}(h:Nf a c)(k:Nf b d):Nf (a++b) (c++d):=⟨by rw [xM,h.1,k.1]; rfl,by rw [xN,h.2,k.2]⟩
theorem Nf.nil:Nf [] []:=⟨rfl,rfl⟩
theorem Nf.cons {x y:AV}{b d:List AV}(h:x.eu=true)(h2:x.j5=y)(k:Nf b d):Nf (x::b) (y::d):=⟨by simp [cQ,h,k.1],by simp [dH,h2,k.2]⟩
theorem BA {α:Type}{E:bL α}{Pr:α→Prop}:∀{els:List (List AV)},(∀el∈els,∃a,Nf el (E.f a)∧Pr a)→∃l:List α,Nf els.flatten (E.l l)∧l.length=els.length∧∀a∈l,Pr a
 | [],_=>⟨[],Nf.nil,rfl,fun a ha=>by cases ha⟩
 | el::els,h=>by
  obtain⟨a,h1,h2⟩:=h el (by simp)
  obtain⟨l,h3,h4,h5⟩:=BA (E:=E) (Pr:=Pr) (els:=els) fun e he=>h e (by simp [he])
  refine⟨a::l,?_,by simp [h4],fun x hx=>?_⟩
  ·rw [List.flatten_cons,bL.fo]; exact h1.app h3
  ·rcases aa6.1 hx with rfl | hx
   ·exact h2
   ·exact h5 x hx
def BB {α:Type}(E:bL α)(x:AV)(l:List α):Prop:=x.eu=true∧x.j5=E.fz l∧(x = .nils∨∃cs n b,x = .fz cs n b)∧l.length≤maxLen
theorem BB.fr {α:Type}{E:bL α}{x:AV}{l:List α}(h:BB E x l)(hp:AHeap):kX 0 hp x (E.fz l):=mT h.1 (by rcases h.2.2.1 with rfl | ⟨cs,n,b,rfl⟩<;>exact fun _=>rfl) h.2.1
theorem Dm {α:Type}{E:bL α}{Pr:α→Prop}{n t e:Nat}{xs:List AV}(ht:Tryz.prog.underlying t=some (.slice e))(h:Fits Tryz.prog (n+1) t xs)
  (he:∀el,Fits Tryz.prog n e el→∃a,Nf el (E.f a)∧Pr a):∃x l,xs=[x]∧BB E x l∧∀a∈l,Pr a:=by
 unfold Fits at h
 rw [ht] at h
 rcases h with rfl | ⟨els,rfl,h1,h⟩
 ·exact⟨_,[],rfl,⟨rfl,rfl,.inl rfl,abe _⟩,fun a ha=>by cases ha⟩
 ·obtain⟨l,⟨h2,h3⟩,h4,h5⟩:=BA (E:=E) (Pr:=Pr) fun el Pt=>he el (h el Pt).2
  refine⟨_,l,rfl,⟨by simpa [AV.eu] using h2,?_,.inr ⟨_,_,_,rfl⟩,om⟩,h5⟩
  show AV.fz (dH els.flatten) els.length false=_
  rw [h3,←h4]; rfl
theorem oN {n:Nat}{xs:List AV}(h:Fits Tryz.prog (n+1) 3 xs):∃z:Int,xs=[.int .i64 z]:=by
 unfold Fits at h
 rw [Tryz.underlying3] at h
 obtain⟨z,rfl,_⟩:=h
 exact⟨z,rfl⟩
theorem Fg {n:Nat}{xs:List AV}(h:Fits Tryz.prog (n+1) 9 xs):∃s:ByteArray,xs=[.str s]:=by
 unfold Fits at h
 rw [Tryz.underlying9] at h
 obtain⟨s,hs,_⟩:=h
 exact⟨s,hs⟩
theorem BC {n:Nat}{xs:List AV}(h:Fits Tryz.prog (n+2) 22 xs):∃x l,xs=[x]∧BB af x l:=by
 obtain⟨x,l,e,h,_⟩:=Dm (E:=af) (Pr:=fun _=>True) Tryz.underlying22 h fun el h=>by
  obtain⟨z,rfl⟩:=oN h
  exact⟨z,⟨rfl,rfl⟩,trivial⟩
 exact⟨x,l,e,h⟩
theorem Jw {n:Nat}{xs:List AV}(h:Fits Tryz.prog (n+3) 57 xs):∃v:ai,Nf xs (ah.f v):=by
 unfold Fits at h
 rw [Tryz.underlying57] at h
 obtain⟨a,b,rfl,_,h1,h⟩:=h
 obtain⟨c,d,rfl,_,h2,h⟩:=h
 obtain⟨e,f,rfl,_,h3,h⟩:=h
 obtain⟨g,k,rfl,_,h4,h⟩:=h
 have h:k=[]:=h
 subst h
 obtain⟨z1,rfl⟩:=oN h1
 obtain⟨z2,rfl⟩:=oN h2
 obtain⟨s,rfl⟩:=Fg h3
 obtain⟨x,l,rfl,hx⟩:=BC h4
 exact⟨⟨z1,z2,s,l⟩,Nf.cons rfl rfl (Nf.cons rfl rfl (Nf.cons rfl rfl (Nf.cons hx.1 hx.2.1 Nf.nil)))⟩
theorem xO {n:Nat}{xs:List AV}(h:Fits Tryz.prog (n+4) 23 xs):∃x l,xs=[x]∧BB ah x l:=by
 obtain⟨x,l,e,h,_⟩:=Dm (E:=ah) (Pr:=fun _=>True) Tryz.underlying23 h fun el h=>by
  obtain⟨v,hv⟩:=Jw h
  exact⟨v,hv,trivial⟩
 exact⟨x,l,e,h⟩
def Jx (xs:List AV)(x:bb):Prop:=∃A T,xs=[.int .i64 x.fF,.int .i64 x.tc,.int .i64 x.D0,.str x.fc,A,T,.int .i64 x.tR.root]∧BB af A x.gz∧BB ah T x.tR.nodes
theorem Lm {n:Nat}{xs:List AV}(h:Fits Tryz.prog (n+6) 27 xs):∃x,Jx xs x:=by
 unfold Fits at h
 rw [Tryz.underlying27] at h
 obtain⟨a,b,rfl,_,h1,h⟩:=h
 obtain⟨c,d,rfl,_,h2,h⟩:=h
 obtain⟨e,f,rfl,_,h3,h⟩:=h
 obtain⟨g,k,rfl,_,h4,h⟩:=h
 obtain⟨i,j,rfl,_,h5,h⟩:=h
 obtain⟨o,p,rfl,_,h6,h⟩:=h
 have h:p=[]:=h
 subst h
 obtain⟨z1,rfl⟩:=oN h1
 obtain⟨z2,rfl⟩:=oN h2
 obtain⟨z3,rfl⟩:=oN h3
 obtain⟨s,rfl⟩:=Fg h4
 obtain⟨x,l,rfl,hx⟩:=BC h5
 have h6:Fits Tryz.prog (n+5) 25 o:=h6
 unfold Fits at h6
 rw [Tryz.underlying25] at h6
 obtain⟨q,r,rfl,_,h7,h6⟩:=h6
 obtain⟨t,u,rfl,_,h8,h6⟩:=h6
 have h6:u=[]:=h6
 subst h6
 obtain⟨y,ns,rfl,hy⟩:=xO h7
 obtain⟨z4,rfl⟩:=oN h8
 exact⟨⟨z1,z2,z3,s,l,⟨ns,z4⟩⟩,x,y,rfl,hx,hy⟩
theorem Jx.nf {xs:List AV}{x:bb}(h:Jx xs x):Nf xs (bD.f x):=by
 obtain⟨A,T,rfl,hA,hT⟩:=h
 exact Nf.cons rfl rfl (Nf.cons rfl rfl (Nf.cons rfl rfl (Nf.cons rfl rfl (Nf.cons hA.1 hA.2.1 (Nf.cons hT.1 hT.2.1 (Nf.cons rfl rfl Nf.nil))))))
theorem Jy {n:Nat}{xs:List AV}(h:Fits Tryz.prog (n+7) 29 xs):∃x l,xs=[x]∧BB bD x l:=by
 obtain⟨x,l,e,h,_⟩:=Dm (E:=bD) (Pr:=fun _=>True) Tryz.underlying29 h fun el h=>by
  obtain⟨v,hv⟩:=Lm h
  exact⟨v,hv.nf,trivial⟩
 exact⟨x,l,e,h⟩
theorem xP:maxLen<2 ^ 63:=by decide
theorem Jz {n:Nat}{xs:List AV}(h:Fits Tryz.prog (n+7) 29 xs):∃l:List bb,l.length<2 ^ 63∧∀hp,kX 10 hp (kV Tryz.prog 29 xs) (bD.fz l):=by
 obtain⟨x,l,rfl,hx⟩:=Jy h
 have e1:kV Tryz.prog 29 [x]=x:=by unfold kV; rw [Tryz.underlying29]; rfl
 rw [e1]
 exact⟨l,Nat.lt_of_le_of_lt hx.2.2.2 xP,fun hp=>(hx.fr hp).mono (by decide)⟩
theorem BD {n:Nat}{xs:List AV}(h:Fits Tryz.prog (n+5) 25 xs):∃x:aI,x.nodes.length<2 ^ 63∧∀hp,kX 10 hp (kV Tryz.prog 25 xs) (.agg [ah.fz x.nodes,.int .i64 x.root]):=by
 unfold Fits at h
 rw [Tryz.underlying25] at h
 obtain⟨q,r,rfl,_,h7,h⟩:=h
 obtain⟨t,u,rfl,_,h8,h⟩:=h
 have h:u=[]:=h
 subst h
 obtain⟨y,ns,rfl,hy⟩:=xO h7
 obtain⟨z,rfl⟩:=oN h8
 have e1:kV Tryz.prog 25 [y,.int .i64 z] = .agg [y,.int .i64 z]:=by unfold kV; rw [Tryz.underlying25]
 have e2:[y]++([.int .i64 z]++[])=[y,.int .i64 z]:=rfl
 rw [e2,e1]
 exact⟨⟨ns,z⟩,Nat.lt_of_le_of_lt hy.2.2.2 xP,fun hp=>(kg (ak (hy.fr hp) (ak bO aG))).mono (by decide)⟩
theorem Gs {P:Program}{m:Nat}{t u v:TypeId}{yv:List AV}(h:qD P m [t,u,v] yv):∃xs ys zs,yv=[kV P t xs,kV P u ys,kV P v zs]∧Fits P m t xs∧Fits P m u ys∧Fits P m v zs:=by
 match yv,h with
 | [_,_,_],⟨⟨xs,h1,f1⟩,⟨ys,h2,f2⟩,⟨zs,h3,f3⟩,_⟩=>exact⟨xs,ys,zs,by rw [h1,h2,h3],f1,f2,f3⟩
end Go.Proofs.YtifafejidnjckaaGreat
namespace Go.R
open Go
def Mc:AHeap:={get:=fun _=>none,ver:=fun _=>0,next:=2}
section
variable {P:Program}
theorem alone {cf:CallF}(hcf:CallOK P cf){f:FuncId}{us:List AV}{h0:AHeap}{r1:AV}{h1:AHeap}(hx:cf f us h0=some (r1,h1))(hg:∀id,h0.get id=none)(GX:∀id,h0.ver id<h0.next)
  {L0:Nat→Prop} {c:Cx} {vs:List Value} (hb0:c.base≤c.w.heap.size) (hrel:HRel c L0) (uG:VRs ⟨fun _=>(0,0),h0,c.w,c.w.heap.size⟩ L0 us vs) {r:AV} (hr:∀(c1 d:Cx) (v:Value),VR c1 L0 r1 v→VR d L0 r v) :
  Calls P f vs.toArray c.w fun e w'=>∃c' v,e = .returned v∧c'.w=w'∧c'.h=c.h∧VR c' L0 r v∧HRel c' L0∧Ext c none0 c' none0:=by
 obtain⟨hin,hcall⟩:=hcf f us h0 r1 h1 hx
 let c0:Cx:=⟨fun _=>(0,0),h0,c.w,c.w.heap.size⟩
 have hnl:∀id,¬Live c0.h id:=fun id hl=>by have:=hl.2; rw [show c0.h.get id=none from hg id] at this; cases this
 have zx:∀id o,¬c0.h.get id=some o:=fun id o ho=>by rw [show c0.h.get id=none from hg id] at ho; cases ho
 have uF:HRel c0 L0:=⟨fun id o ho=>absurd ho (zx id o),fun id o ho=>absurd ho (zx id o),fun id _ hl _ _=>absurd hl (hnl id),fun id hl=>absurd hl (hnl id),hrel.bd,fun id hl=>absurd hl (hnl id),GX⟩
 refine (hcall L0 c0 vs rfl (aaN _) uF uG).mono ?_
 rintro e w' ⟨c1,v,rfl,rfl,Oy,hv,hrel1,e1⟩
 let d:Cx:=⟨c.β,c.h,c1.w,c.base⟩
 have hk:∀b,b<c.w.heap.size→c1.w.heap[b]? = c.w.heap[b]?:=fun b hb=>e1.exact b hb
 have ed:Ext c none0 d none0:=⟨aaN _,fun id _ hl=>⟨hl,rfl,iL.len (c:=c) (c':=d) (.inl (hk _ (hrel.block hl)))⟩,e1.size,fun b hb _ _=>.inl (hk b hb),fun b hb=>hk b (aa9 hb hb0),rfl,fun id hl=>.inr ⟨id,hl,rfl⟩,fun _ h=>h,fun _ h=>.inl h,e1.os,e1.tape,e1.output⟩
 refine⟨d,v,rfl,rfl,rfl,hr c1 d v hv,⟨hrel.lt,fun id o ho=>?_,hrel.inj,hrel.out,fun b hb=>aa9 (hrel.bd b hb) e1.size,hrel.low,hrel.ver⟩,ed⟩
 have hl:Live c.h id:=⟨hrel.lt _ _ ho,by rw [ho]; rfl⟩
 have:=(hrel.obj id o ho)
 have h2:=qa.ext (L0:=L0) ed (b:=(c.β id).1) (base:=(c.β id).2) (o:=o) (by rw [iO]; exact this) (hk _ (hrel.block hl))
 rw [iO] at h2
 exact h2
def Od (P:Program)(t:TypeId)(z:Nat):Bool:=
 match P.underlying t with
 | some (.slice e)=>match P.info? e with
  | some i=>abq i.size z&&ab7 i.bytes 1000&&Lu i
  | none=>false
 | _=>false
theorem BE {t:TypeId}{z:Nat}(T:Od P t z=true)(hz:z≠0){h:AHeap}{x:AV}{n:Nat}{cs:List AV}(hn:n≠0)(hb:n*1024≤1099511627776)(hx:gp h z x=some (cs,n))(hs:jm P t x=true):dN P h t t (.fz [] 0 true) x=some (.rs h.next 0 n z,h.alloc (.cells cs)):=by
 unfold Od at T
 split at T
 rotate_left
 ·cases T
 rename_i e he
 split at T
 rotate_left
 ·cases T
 rename_i i hi
 simp only [aaK] at T
 obtain⟨⟨h1,h2⟩,h3⟩:=T
 have h1:=abR h1
 have h2:=Nat.le_of_ble_eq_true h2
 subst h1
 have hq:n*i.bytes≤n*1000:=Nat.mul_le_mul_left n h2
 simp only [dN,he,aaG,hi,hx]
 rw [if_neg (by simp [hz,hs,h3]),if_neg (by simp only [hZ,aa7,aba]; omega),if_neg hn]
 simp
theorem xQ {z:Nat}:∀args h r h',BL z args h=some (r,h')→Steady h h':=by
 intro args h r h' hs
 unfold BL at hs
 split at hs
 ·cases hs; exact Steady.refl _
 ·split at hs
  ·cases hs; exact Steady.refl _
  ·split at hs
   ·cases hs; exact Steady.put _ _ _
   ·cases hs
 ·split at hs
  ·cases hs; exact Steady.refl _
  ·rw [aaH] at hs
   obtain⟨ob,_,hs⟩:=hs
   split at hs
   ·split at hs
    ·cases hs; exact Steady.put _ _ _
    ·cases hs
   ·cases hs
 ·cases hs
theorem Md {cf:CallF}(hcf:CallOK P cf){F:FuncId}{t:TypeId}{z:Nat}(T:Od P t z=true)(hz:z≠0)
  (h0:cf F [.nils] bo=some (.nils,bo)) (h1:cf F [.rs 1 0 0 z] Mc=some (.rs 0 0 0 z,Mc))
  (h2:∀(c:AV) (cs:List AV) (n:Nat) (ex:Bool) (h:AHeap) (i k w:Nat) (h':AHeap),dN P h t t (.fz [] 0 true) (.fz (c::cs) n ex)=some (.rs i 0 k w,h')→cf F [.fz (c::cs) n ex] h=some (.rs i 0 k w,h'))
  (h3:∀(j n q:Nat) (h:AHeap) (i k w:Nat) (h':AHeap),dN P h t t (.fz [] 0 true) (.rs (j+1) 0 n q)=some (.rs i 0 k w,h')→cf F [.rs (j+1) 0 n q] h=some (.rs i 0 k w,h'))
  (ic:∀x,(∀st,x≠.str st)→jm P t x=true) :
  CallOK P fun f' args h=>if f'=F then BL z args h else none:=by
 intro f args h r h' hc
 dsimp only at hc
 split at hc
 rotate_left
 ·cases hc
 rename_i hf
 subst hf
 refine⟨(hcf f _ _ _ _ h0).1,fun L0 c vs hh hb0 hrel hargs=>?_⟩
 have empty:∀(v:Value),(∃a cap,v = .slice a 0 cap∧(a=none→cap=0))→Calls P f #[v] c.w fun e w'=>∃c' v,e = .returned v∧c'.w=w'∧c'.h=c.h∧VR c' L0 (.rs 0 0 0 z) v∧HRel c' L0∧Ext c none0 c' none0:=by
  rintro v ⟨a,cap,rfl,ha⟩
  cases a with
  | none=>
   have:=ha rfl
   subst this
   refine alone (vs:=[.slice none 0 0]) hcf h0 (fun _=>rfl) (fun _=>ab9) hb0 hrel ⟨rfl,trivial⟩ (fun c1 d v hv=>?_)
   simp only [VR] at hv ⊢
   exact .inl ⟨trivial,trivial,trivial,none,hv⟩
  | some ad=>
   refine alone (vs:=[.slice (some ad) 0 cap]) hcf h1 (fun _=>rfl) (fun _=>Nat.zero_lt_succ 1) hb0 hrel ⟨?_,trivial⟩ (fun c1 d v hv=>?_)
   ·simp only [VR]
    exact .inr ⟨by decide,by decide,some ad,cap,rfl,abe _,rfl,fun hl=>by have:=hl.2; cases this⟩
   ·simp only [VR] at hv ⊢
    rcases hv with hv | hv
    ·exact .inl hv
    ·exact absurd rfl hv.1
 match args,vs,hargs with
 | [],_,_=>simp [BL] at hc
 | x::y::l,_,_=>cases x<;>simp [BL] at hc
 | [x],[v],hargs=>
  have hx:VR c L0 x v:=hargs.1
  cases x<;>simp only [BL] at hc<;>try (cases hc; done)
  ·cases hc
   simp only [VR] at hx
   rw [←hh]
   exact empty v ⟨none,0,hx,fun _=>rfl⟩
  ·rename_i cs n ex
   split at hc
   ·rename_i hn
    cases hc
    subst hn
    simp only [VR] at hx
    obtain⟨a,cap,e,_,_,hs,_⟩:=hx
    rw [←hh]
    refine empty v ⟨a,cap,e,fun ha=>?_⟩
    rcases hs with hs | hs
    ·rw [ha] at hs; cases hs
    ·exact hs.2
   ·rename_i hn
    split at hc
    rotate_left
    ·cases hc
    rename_i hq
    cases hc
    cases cs with
    | nil=>
     have h4:0=n*z:=hq.1
     rcases Nat.mul_eq_zero.1 h4.symm with h5 | h5
     ·exact absurd h5 hn
     ·exact absurd h5 hz
    | cons c1 cs=>
     have Mk:gp h z (.fz (c1::cs) n ex)=some ((c1::cs).map kK,n):=by
      simp only [gp,eT]; rw [if_pos hq.1]; rfl
     have:=h2 c1 cs n ex h _ _ _ _ (BE T hz hn hq.2 Mk (ic _ (by rintro st h; cases h)))
     exact (hcf _ _ _ _ _ this).2 L0 c [v] hh hb0 hrel ⟨hx,trivial⟩
  ·rename_i id off n q
   cases off with
   | succ off=>simp [BL] at hc
   | zero=>
   simp only [BL] at hc
   split at hc
   ·rename_i hn
    cases hc
    subst hn
    simp only [VR] at hx
    rw [←hh]
    rcases hx with⟨_,_,_,a,e⟩| ⟨_,_,a,cap,e,_,hs,_⟩
    ·exact empty v ⟨a,0,e,fun _=>rfl⟩
    ·refine empty v ⟨a,cap,e,fun ha=>?_⟩
     rw [ha] at hs; cases hs
   ·rename_i hn
    rw [aaH] at hc
    obtain⟨ob,ho,hc⟩:=hc
    split at hc
    rotate_left
    ·cases hc
    rename_i cs
    split at hc
    rotate_left
    ·cases hc
    rename_i hq
    cases hc
    have hid:id≠0:=by
     simp only [VR] at hx
     rcases hx with hx | hx
     ·exact absurd hx.2.2.1 hn
     ·exact hx.1
    obtain⟨j,rfl⟩:∃j,id=j+1:=⟨id - 1,by omega⟩
    have Mk:gp h z (.rs (j+1) 0 n q)=some ((cs.take (n*z)).map kK,n):=by
     simp only [gp,eT]
     rw [if_neg (fun hz=>hz.elim hid fun hz=>hn hz.1),ho]
     simp only [aaG]
     rw [if_pos ⟨hq.1,by omega⟩,abl]; rfl
    have:=h3 j n q h _ _ _ _ (BE T hz hn hq.2.2 Mk (ic _ (by rintro st h; cases h)))
    exact (hcf _ _ _ _ _ this).2 L0 c [v] hh hb0 hrel ⟨hx,trivial⟩
 | [x],[],hargs=>exact hargs.elim
 | [x],_::_::_,hargs=>exact hargs.2.elim
end
end Go.R
namespace Go.Proofs.YtifafejidnjckaaGreat
open Go Go.R Go.Shelf
open Go.IntKind (i64 u64 u8 u32)
theorem fits:Fit Tryz.prog:=MF kr kr
def Oe:Ren:={f:=(fun x=>match x with | 189=>66 | 125=>100 | 257=>99 | 128=>125 | 129=>126 | 294=>116 | 295=>117 | 296=>118 | 297=>119 | 298=>120 | 299=>121 | 216=>122 | 300=>123 | 301=>124 | 328=>135 | 329=>136 | 330=>137 | 331=>138 | 332=>139 | 215=>140 | 343=>147 | n=>n),t:=(fun x=>match x with | 28=>22 | 3=>3 | 46=>106 | 0=>0 | 51=>131 | 53=>133 | 4=>4 | 183=>124 | 182=>123 | 131=>102 | 5=>5 | 9=>9 | 218=>139 | 222=>143 | 228=>150 | 229=>151 | n=>n),g:=(fun n=>n)}
theorem Ro:Lays.n189 Tryz.prog Oe:={
 mixed:=by kernel_rfl,
 f125:=Tryz.func100.trans (congrArg some kr),
 f128:=Tryz.func125.trans (congrArg some kr),
 f129:=Tryz.func126.trans (congrArg some kr),
 f189:=Tryz.func66.trans (congrArg some kr),
 f215:=Tryz.func140.trans (congrArg some kr),
 f216:=Tryz.func122.trans (congrArg some kr),
 f257:=Tryz.func99.trans (congrArg some kr),
 f294:=Tryz.func116.trans (congrArg some kr),
 f295:=Tryz.func117.trans (congrArg some kr),
 f296:=Tryz.func118.trans (congrArg some kr),
 f297:=Tryz.func119.trans (congrArg some kr),
 f298:=Tryz.func120.trans (congrArg some kr),
 f299:=Tryz.func121.trans (congrArg some kr),
 f300:=Tryz.func123.trans (congrArg some kr),
 f301:=Tryz.func124.trans (congrArg some kr),
 f328:=Tryz.func135.trans (congrArg some kr),
 f329:=Tryz.func136.trans (congrArg some kr),
 f330:=Tryz.func137.trans (congrArg some kr),
 f331:=Tryz.func138.trans (congrArg some kr),
 f332:=Tryz.func139.trans (congrArg some kr),
 f343:=Tryz.func147.trans (congrArg some kr),
 t0:=Tryz.underlying0,
 a0:=Tryz.isAgg0,
 z0:=Tryz.sizeOf0,
 v0:=Tryz.zeroValue0,
 t3:=Tryz.underlying3,
 a3:=Tryz.isAgg3,
 z3:=Tryz.sizeOf3,
 v3:=Tryz.zeroValue3,
 t4:=Tryz.underlying4,
 a4:=Tryz.isAgg4,
 z4:=Tryz.sizeOf4,
 v4:=Tryz.zeroValue4,
 t5:=Tryz.underlying5,
 a5:=Tryz.isAgg5,
 z5:=Tryz.sizeOf5,
 v5:=Tryz.zeroValue5,
 t9:=Tryz.underlying9,
 a9:=Tryz.isAgg9,
 z9:=Tryz.sizeOf9,
 v9:=Tryz.zeroValue9,
 t28:=Tryz.underlying22,
 a28:=Tryz.isAgg22,
 z28:=Tryz.sizeOf22,
 v28:=Tryz.zeroValue22,
 t46:=Tryz.underlying106,
 a46:=Tryz.isAgg106,
 z46:=Tryz.sizeOf106,
 v46:=Tryz.zeroValue106,
 t51:=Tryz.underlying131,
 a51:=Tryz.isAgg131,
 z51:=Tryz.sizeOf131,
 v51:=Tryz.zeroValue131,
 t53:=Tryz.underlying133,
 a53:=Tryz.isAgg133,
 z53:=Tryz.sizeOf133,
 v53:=Tryz.zeroValue133,
 t131:=Tryz.underlying102,
 a131:=Tryz.isAgg102,
 z131:=Tryz.sizeOf102,
 v131:=Tryz.zeroValue102,
 t182:=Tryz.underlying123,
 a182:=Tryz.isAgg123,
 z182:=Tryz.sizeOf123,
 v182:=Tryz.zeroValue123,
 t183:=Tryz.underlying124,
 a183:=Tryz.isAgg124,
 z183:=Tryz.sizeOf124,
 v183:=Tryz.zeroValue124,
 t218:=Tryz.underlying139,
 a218:=Tryz.isAgg139,
 z218:=Tryz.sizeOf139,
 v218:=Tryz.zeroValue139,
 t222:=Tryz.underlying143,
 a222:=Tryz.isAgg143,
 z222:=Tryz.sizeOf143,
 v222:=Tryz.zeroValue143,
 t228:=Tryz.underlying150,
 a228:=Tryz.isAgg150,
 z228:=Tryz.sizeOf150,
 v228:=Tryz.zeroValue150,
 t229:=Tryz.underlying151,
 a229:=Tryz.isAgg151,
 z229:=Tryz.sizeOf151,
 v229:=Tryz.zeroValue151}
theorem Of:∀(vs:Array Value) (w:World),(callFunc (Oe.f 189) vs).run Tryz.prog w = .ok (.enter (Oe.f 189) vs) w:=
 oe (c:=bN Tryz.f66) Tryz.func66 kr (by decide +kernel)
def se:bR:=gC [0,2,4] [] [] [] []
def pz:pj:={aS:=fun _=>se,intr:=fun _=>none,pure:=fun _=>none}
noncomputable def Rp:CallF:=a6 Tryz.prog pz.aS (fy Tryz.prog pz 10 0) 10
theorem JA:CallOK Tryz.prog Rp:=z8 fits (qC fits oT 10 0) (Ae fits.mixed (qC fits oT 10 0) (mR oT 10 0)) 10
theorem Ln (c:AV)(cs:List AV)(n:Nat)(ex:Bool)(h:AHeap)(i k w:Nat)(h':AHeap)(e:dN Tryz.prog h 22 22 (.fz [] 0 true) (.fz (c::cs) n ex)=some (.rs i 0 k w,h')):Rp 37 [.fz (c::cs) n ex] h=some (.rs i 0 k w,h'):=by
 have key:∃r h2,a6 Tryz.prog pz.aS (fy Tryz.prog pz 10 0) 10 37 [.fz (c::cs) n ex] h=some (r,h2)∧r = .rs i 0 k w∧h2=h':=by
  refine aq (fn:=Tryz.f37) (A:=se) rfl Tryz.func37 kr kr ?_
  refine aC (Q:=fun s=>aE Tryz.prog (s.open se) Tryz.f37.results.toList=some (.rs i 0 k w)∧s.h=h') (fun _ _ ⟨h1,h2,h3⟩=>⟨h1,_,h2,rfl,h3⟩) ?_
  show cZ _ _ se _ _ ⟨[.fz (c::cs) n ex,.any,.any],[],h⟩ _
  refine q1 <| qq <| q1 <| JM <| qk <| qs [.a 2 e] <| qt <| ⟨.inl rfl,by kernel_rfl,by kernel_rfl⟩
 obtain⟨r,h2,hb,rfl,rfl⟩:=key
 exact hb
theorem Lp (j n q:Nat)(h:AHeap)(i k w:Nat)(h':AHeap)(e:dN Tryz.prog h 22 22 (.fz [] 0 true) (.rs (j+1) 0 n q)=some (.rs i 0 k w,h')):Rp 37 [.rs (j+1) 0 n q] h=some (.rs i 0 k w,h'):=by
 have key:∃r h2,a6 Tryz.prog pz.aS (fy Tryz.prog pz 10 0) 10 37 [.rs (j+1) 0 n q] h=some (r,h2)∧r = .rs i 0 k w∧h2=h':=by
  refine aq (fn:=Tryz.f37) (A:=se) rfl Tryz.func37 kr kr ?_
  refine aC (Q:=fun s=>aE Tryz.prog (s.open se) Tryz.f37.results.toList=some (.rs i 0 k w)∧s.h=h') (fun _ _ ⟨h1,h2,h3⟩=>⟨h1,_,h2,rfl,h3⟩) ?_
  show cZ _ _ se _ _ ⟨[.rs (j+1) 0 n q,.any,.any],[],h⟩ _
  refine q1 <| qq <| q1 <| JM <| qk <| qs [.a 2 e] <| qt <| ⟨.inl rfl,by kernel_rfl,by kernel_rfl⟩
 obtain⟨r,h2,hb,rfl,rfl⟩:=key
 exact hb
theorem Rq:∀x,(∀st,x≠.str st)→jm Tryz.prog 22 x=true:=by
 intro x hx
 cases x<;>first | exact absurd rfl (hx _) | kernel_rfl
theorem Lq:CallOK Tryz.prog fun f args h=>if f=37 then BL 1 args h else none:=
 Md JA (F:=37) (t:=22) (z:=1) kr (by decide) kr kr Ln Lp Rq
theorem Lr (c:AV)(cs:List AV)(n:Nat)(ex:Bool)(h:AHeap)(i k w:Nat)(h':AHeap)(e:dN Tryz.prog h 23 23 (.fz [] 0 true) (.fz (c::cs) n ex)=some (.rs i 0 k w,h')):Rp 51 [.fz (c::cs) n ex] h=some (.rs i 0 k w,h'):=by
 have key:∃r h2,a6 Tryz.prog pz.aS (fy Tryz.prog pz 10 0) 10 51 [.fz (c::cs) n ex] h=some (r,h2)∧r = .rs i 0 k w∧h2=h':=by
  refine aq (fn:=Tryz.f51) (A:=se) rfl Tryz.func51 kr kr ?_
  refine aC (Q:=fun s=>aE Tryz.prog (s.open se) Tryz.f51.results.toList=some (.rs i 0 k w)∧s.h=h') (fun _ _ ⟨h1,h2,h3⟩=>⟨h1,_,h2,rfl,h3⟩) ?_
  show cZ _ _ se _ _ ⟨[.fz (c::cs) n ex,.any,.any],[],h⟩ _
  refine q1 <| qq <| q1 <| JM <| qk <| qs [.a 2 e] <| qt <| ⟨.inl rfl,by kernel_rfl,by kernel_rfl⟩
 obtain⟨r,h2,hb,rfl,rfl⟩:=key
 exact hb
theorem Ls (j n q:Nat)(h:AHeap)(i k w:Nat)(h':AHeap)(e:dN Tryz.prog h 23 23 (.fz [] 0 true) (.rs (j+1) 0 n q)=some (.rs i 0 k w,h')):Rp 51 [.rs (j+1) 0 n q] h=some (.rs i 0 k w,h'):=by
 have key:∃r h2,a6 Tryz.prog pz.aS (fy Tryz.prog pz 10 0) 10 51 [.rs (j+1) 0 n q] h=some (r,h2)∧r = .rs i 0 k w∧h2=h':=by
  refine aq (fn:=Tryz.f51) (A:=se) rfl Tryz.func51 kr kr ?_
  refine aC (Q:=fun s=>aE Tryz.prog (s.open se) Tryz.f51.results.toList=some (.rs i 0 k w)∧s.h=h') (fun _ _ ⟨h1,h2,h3⟩=>⟨h1,_,h2,rfl,h3⟩) ?_
  show cZ _ _ se _ _ ⟨[.rs (j+1) 0 n q,.any,.any],[],h⟩ _
  refine q1 <| qq <| q1 <| JM <| qk <| qs [.a 2 e] <| qt <| ⟨.inl rfl,by kernel_rfl,by kernel_rfl⟩
 obtain⟨r,h2,hb,rfl,rfl⟩:=key
 exact hb
theorem Rr:∀x,(∀st,x≠.str st)→jm Tryz.prog 23 x=true:=by
 intro x hx
 cases x<;>first | exact absurd rfl (hx _) | kernel_rfl
theorem Lt:CallOK Tryz.prog fun f args h=>if f=51 then BL 4 args h else none:=
 Md JA (F:=51) (t:=23) (z:=4) kr (by decide) kr kr Lr Ls Rr
noncomputable def Me:FuncId→Option (List AV→AHeap→Option (AV × AHeap)):=fun f=>if f=66 then some M0 else if f=37 then some (BL 1) else if f=51 then some (BL 4) else none
theorem JB:IntrOK Tryz.prog Me:=intr_cons (f0:=66) (PQ Ro Of) FR (intr_cons (f0:=37) Lq xQ (intr_cons (f0:=51) Lt xQ oT))
end Go.Proofs.YtifafejidnjckaaGreat
namespace Go.Proofs.YtifafejidnjckaaGreat
open Go Go.R
open Go.IntKind (i64 u64 u8 u32)
def ck:Nat→bR
 | 7=>IF
 | 8=>H0
 | 9=>{keep:=[0,1,2,3,4,5,6,7,8,9,10,11,12,13,14,16,17,19,22,25],aH:=[]}
 | 13=>gC [0,2,5] [] [6,2,5,5] [] []
 | 16=>D2
 | 21=>A0
 | 22=>vI
 | 23=>AZ
 | 24=>vJ
 | 25=>EI
 | 26=>Ed
 | 27=>Et
 | 28=>EJ
 | 29=>Eu
 | 30=>Ee
 | 31=>ED
 | 32=>gC [0,1,4,5,6,12] [] [60,44,12,51,51] [] []
 | 33=>Ev
 | 34=>Ef
 | 35=>AM
 | 36=>EE
 | 38=>AY
 | 42=>Ew
 | 44=>Em
 | 49=>D3
 | 58=>EK
 | 59=>En
 | 60=>xo
 | 61=>AS
 | 62=>EH
 | 63=>AT
 | 64=>Eg
 | 65=>D4
 | 66=>{keep:=[0,2],aH:=[]}
 | 67=>EG
 | 68=>xp
 | 69=>AN
 | 70=>Eh
 | 71=>D5
 | 72=>D6
 | 73=>Ey
 | 74=>Eo
 | 75=>AO
 | 76=>D7
 | 77=>Ei
 | 78=>Ez
 | 79=>Ep
 | 80=>Er
 | 82=>Es
 | 83=>Ej
 | 84=>Ek
 | 85=>D8
 | 86=>El
 | 87=>D9
 | 95=>Ea
 | 96=>qX
 | 97=>AP
 | 98=>AQ
 | 101=>vh
 | 102=>zb
 | 103=>y9
 | 104=>vi
 | 105=>yS
 | 106=>yT
 | 107=>yU
 | 108=>vt
 | 109=>vj
 | 110=>yW
 | 111=>vw
 | 114=>zd
 | 115=>za
 | 127=>y6
 | 128=>vk
 | 129=>y7
 | 130=>yX
 | 131=>yY
 | 134=>pV
 | 140=>yZ
 | 141=>y4
 | 145=>rW
 | 146=>ni
 | 148=>vz
 | 149=>vp
 | _=>{keep:=[],aH:=[]}
def aT:Nat:=18014398509481984
theorem aV:ie+bH≤aT:=by decide
def Rs:Nat→Option Nat
 | 7=>some aT
 | 8=>some aT
 | 9=>some aT
 | 13=>some aT
 | 23=>some aT
 | 24=>some aT
 | 25=>some aT
 | 26=>some aT
 | 27=>some aT
 | 28=>some aT
 | 32=>some aT
 | 35=>some aT
 | 36=>some aT
 | 38=>some aT
 | 49=>some aT
 | 59=>some aT
 | 60=>some aT
 | 61=>some aT
 | 62=>some aT
 | 64=>some aT
 | 65=>some aT
 | 67=>some aT
 | 70=>some aT
 | 72=>some aT
 | 73=>some aT
 | 74=>some aT
 | 75=>some aT
 | 76=>some aT
 | 77=>some aT
 | 78=>some aT
 | 79=>some aT
 | 80=>some aT
 | 82=>some aT
 | 83=>some aT
 | 84=>some aT
 | 85=>some aT
 | 86=>some aT
 | 87=>some aT
 | 95=>some aT
 | 96=>some aT
 | 98=>some aT
 | 101=>some aT
 | 102=>some aT
 | 103=>some aT
 | 104=>some aT
 | 105=>some aT
 | 107=>some aT
 | 108=>some aT
 | 109=>some aT
 | 110=>some aT
 | 111=>some aT
 | 115=>some aT
 | 127=>some aT
 | 128=>some aT
 | 129=>some aT
 | 130=>some aT
 | 131=>some aT
 | 140=>some aT
 | 141=>some aT
 | _=>none
def Og:Nat→Bool
 | 24=>true
 | 25=>true
 | 60=>true
 | 61=>true
 | 62=>true
 | 70=>true
 | _=>false
def M:Nat:=18446744073709551616
noncomputable def bu:pj:={aS:=ck,intr:=Me,pure:=Rs,eV:=Og}
noncomputable def cp:CallF:=jB Tryz.prog bu M
theorem Oh:CallOK Tryz.prog cp:=HH fits (T:=bu) JB
theorem Xn:Ts cp M:=fun args h=>uV (T:=bu) rfl
theorem Xo:Tr cp M:=fun args h=>uV (T:=bu) rfl
theorem Gt:(a6 Tryz.prog ck (fy Tryz.prog bu M 98) M 9 [] bo).map (fun x=>x.1)=some (.bool true):=by kernel_rfl
theorem j9:S9 cp M:=by
 intro r H h xs hx
 have H:some true=some r:=H
 cases H
 obtain⟨⟨x,h'⟩,hb,e⟩:=aaI.1 Gt
 dsimp only at e
 subst e
 obtain⟨l,h1,h2⟩:=kE (P:=Tryz.prog) ck M 9 [] bo _ _ hb
 have hb:=h2 cp fun e he=>ml.2 ⟨_,h1 e he⟩
 exact ba (T:=bu) (deep:=aT) rfl rfl rfl aV hx ⟨_,_,hb,tP (fU)⟩
end Go.Proofs.YtifafejidnjckaaGreat
