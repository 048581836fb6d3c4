/- Part of the proof: PB4, PB9, PV1, PA8, PA9, PA10, PA11, PA12, PC1, PC2, PC3, PC4, PC5, PU1, PU2, PB3, PB5. -/
import Derived.Test.YtifafejidnjckaaGreatK13
set_option linter.unusedVariables false
set_option linter.unusedSimpArgs false
set_option maxRecDepth 100000
open Bool renaming and_eq_true → abA, false_eq_true → abK, true_and → acH, not_true → acO
open Int renaming toNat_natCast → abC
open List renaming getElem?_eq_getElem → abD, getElem?_eq_some_iff → abG, mem_singleton → abI, mem_of_getElem? → abJ, length_map → abL, replicate → abM, getElem?_append_right → abN, getD_eq_getElem?_getD → abO, mem_append → abP, length_append → abQ, length_cons → abR, getElem?_append_left → abS, drop_eq_getElem_cons → abT, getElem?_eq_none → abU, map_append → abV, all_eq_true → abW, append_assoc → abX, mem_map → abZ, mem_cons → ab0, getElem?_map → ab1, take_succ_eq_append_getElem → ab2, length_nil → ab4, map_cons → ab5, mem_append_left → ab6, take_length → ace, nil_append → aci, length_take → acm, drop_zero → acn, getElem?_cons_zero → acp, all_cons → acr, idxOf_lt_length_of_mem → acs, ext_getElem? → acx, map_congr_left → acA, nodup_append → acB, getElem?_of_mem → acG, take_add_one → acI, set_append_right → acM, idxOf_append → acR, drop_eq_nil_of_le → acU, range → acX, getElem?_set → acZ
open Nat renaming le_refl → abB, zero_le → aco, le_trans → acv, add_sub_cancel_left → acw, sub_self → acE
open Option renaming bind_some → abw, map_some → abE
open Option.some renaming injEq → abz, inj → ab8
namespace Go.Proofs.YtifafejidnjckaaGreat
open Go Go.R
open Go.IntKind (i64 u64 u8 u32)
def gb (l:List Bool)(k:Nat):Bool:=l.getD k false
theorem LK {l:List Bool}{k:Nat}(h:k<l.length):l[k]? = some (gb l k):=by
 unfold gb; rw [abO,abD h]; rfl
theorem wi {l:List Bool}{i:Int}(h0:0≤i)(h:i.toNat<l.length):ix l i=some (gb l i.toNat):=by
 unfold ix; rw [if_pos h0,LK h]
theorem zJ {l:List Bool}{i k:Nat}{x:Bool}(hi:i<l.length):gb (l.set i x) k=if k=i then x else gb l k:=by
 unfold gb
 simp only [abO,acZ]
 by_cases h:i=k
 ·subst h; simp [hi]
 ·rw [if_neg h,if_neg (by omega)]
def ar (l:List ah)(i k:Nat):Nat:=(gt (nd l i).args k).toNat
def na (l:List ah)(i:Nat):Nat:=(nd l i).args.length
theorem lE {l:List ah}(ok:lS l){i k:Nat}(hi:i<l.length)(hk:k<na l i):ar l i k<l.length∧gt (nd l i).args k=(ar l i k:Int):=by
 obtain⟨h0,h1⟩:=(BA ok hi).2 _ (a8 (l:=(nd l i).args) (k:=k) hk)
 unfold ar; omega
theorem E4 {l:List ah}(ok:lS l){i:Nat}(hi:i<l.length):na l i≤8:=(BA ok hi).1
theorem wj {m:Nat}(a b:ah):∃x,eZ.f m a b=some x∧(x=true↔Alike a b):=by
 unfold eZ.f
 by_cases h1:a.kind=b.kind
 ·rw [if_pos (by simpa using h1)]
  by_cases h2:a.int=b.int
  ·rw [if_pos (by simpa using h2)]
   by_cases h3:a.label=b.label
   ·rw [if_pos (by rw [h3]; simp)]
    refine⟨_,rfl,⟨fun h=>⟨h1,h2,h3,by have:=beq_iff_eq.1 h; omega⟩,fun h=>by have:=h.len; rw [beq_iff_eq]; omega⟩⟩
   ·rw [if_neg (fun h=>h3 (zG (by simpa using h)))]
    exact⟨_,rfl,⟨fun h=>(by cases h),fun h=>absurd h.label h3⟩⟩
  ·rw [if_neg (by simpa using h2)]
   exact⟨_,rfl,⟨fun h=>(by cases h),fun h=>absurd h.int h2⟩⟩
 ·rw [if_neg (by simpa using h1)]
  exact⟨_,rfl,⟨fun h=>(by cases h),fun h=>absurd h.kind h1⟩⟩
def SA (l:List ah)(c:List Int)(i j:Nat):Prop:=∀k,k<na l i→gt c (ar l i k)=gt c (ar l j k)
theorem ML {m:Nat}{l:List ah}{c:List Int}(ok:lS l)(hc:c.length=l.length){i j:Nat}(hi:i<l.length)(hj:j<l.length)(hl:na l i=na l j):∀(f k:Nat),na l i - k<f→k≤na l i→
  ∃o,bI.l0 m (nd l i) (nd l j) c f (k:Int)=some o∧((∃x,o = .inr x)∧(∀q,k≤q→q<na l i→gt c (ar l i q)=gt c (ar l j q))∨o = .inl false∧∃q,q<na l i∧gt c (ar l i q)≠gt c (ar l j q))
 | 0,k,hf,_=>absurd hf (by omega)
 | f+1,k,hf,hk=>by
  have h8:=E4 ok hi
  unfold bI.l0
  by_cases h:k<na l i
  ·obtain⟨a1,a2⟩:=lE ok hi h
   obtain⟨b1,b2⟩:=lE ok hj (show k<na l j by omega)
   have e1:ix c (gt (nd l i).args k)=some (gt c (ar l i k)):=gP a2 (by omega)
   have e2:ix c (gt (nd l j).args k)=some (gt c (ar l j k)):=gP b2 (by omega)
   rw [if_pos (by simp only [decide_eq_true_eq]; unfold na at h; omega),dv (l:=(nd l i).args) h,abw,e1,abw,dv (l:=(nd l j).args) (show k<(nd l j).args.length by unfold na at hl h; omega),abw,e2,abw]
   by_cases e:gt c (ar l i k)=gt c (ar l j k)
   ·obtain⟨o,k1,k2⟩:=ML (m:=m) ok hc hi hj hl f (k+1) (by omega) (by omega)
    rw [if_neg (by simp [e]),bl (by omega) (by omega),show (k:Int)+1=((k+1:Nat):Int) by omega,k1]
    refine⟨o,rfl,k2.imp (fun ⟨x,y⟩=>⟨x,fun q q1 q2=>?_⟩) id⟩
    by_cases hq:q=k
    ·subst hq; exact e
    ·exact y q (by omega) q2
   ·rw [if_pos (by simpa using e)]
    exact⟨_,rfl,.inr ⟨rfl,k,h,e⟩⟩
  ·refine⟨_,by rw [if_neg (by simp only [decide_eq_true_eq]; unfold na at h; omega)],.inl ⟨⟨_,rfl⟩,fun q q1 q2=>absurd q2 (by omega)⟩⟩
theorem E5 {m:Nat}(hm:2 ^ 30≤m){l:List ah}{c:List Int}(ok:lS l)(hc:c.length=l.length){i j:Nat}(hi:i<l.length)(hj:j<l.length)(hl:na l i=na l j):∃x,bI.f m (nd l i) (nd l j) c=some x∧(x=true↔SA l c i j):=by
 have rl:(2:Nat) ^ 30=1073741824:=by decide
 have h8:=E4 ok hi
 obtain⟨o,k1,k2⟩:=ML (m:=m) ok hc hi hj hl m 0 (by omega) (by omega)
 have k1:bI.l0 m (nd l i) (nd l j) c m 0=_:=k1
 unfold bI.f
 rw [k1,abw]
 rcases k2 with⟨⟨x,rfl⟩,k⟩| ⟨rfl,q,q1,q2⟩
 ·exact⟨true,rfl,⟨fun _ k0 hk=>k k0 (by omega) hk,fun _=>rfl⟩⟩
 ·exact⟨false,rfl,⟨fun h=>(by cases h),fun h=>absurd (h q q1) q2⟩⟩
def XO (l:List ah)(dn:List Bool)(i:Nat):Prop:=∀k,k<na l i→gb dn (ar l i k)=true
theorem Jw {m:Nat}{l:List ah}{dn:List Bool}(ok:lS l)(hd:dn.length=l.length){i:Nat}(hi:i<l.length):∀(f k:Nat),na l i - k<f→k≤na l i→
  ∃o,cG.l0 m (nd l i) dn f (k:Int)=some o∧((∃x,o = .inr x)∧(∀q,k≤q→q<na l i→gb dn (ar l i q)=true)∨o = .inl false∧∃q,q<na l i∧gb dn (ar l i q)=false)
 | 0,k,hf,_=>absurd hf (by omega)
 | f+1,k,hf,hk=>by
  have h8:=E4 ok hi
  unfold cG.l0
  by_cases h:k<na l i
  ·obtain⟨a1,a2⟩:=lE ok hi h
   have e1:ix dn (gt (nd l i).args k)=some (gb dn (ar l i k)):=by
    have:=wi (l:=dn) (i:=gt (nd l i).args k) (by omega) (by rw [a2,abC]; omega)
    rw [this,a2,abC]
   rw [if_pos (by simp only [decide_eq_true_eq]; unfold na at h; omega),dv (l:=(nd l i).args) h,abw,e1,abw]
   cases e:gb dn (ar l i k) with
   | true=>
    obtain⟨o,k1,k2⟩:=Jw (m:=m) ok hd hi f (k+1) (by omega) (by omega)
    rw [if_neg (by simp),bl (by omega) (by omega),show (k:Int)+1=((k+1:Nat):Int) by omega,k1]
    refine⟨o,rfl,k2.imp (fun ⟨x,y⟩=>⟨x,fun q q1 q2=>?_⟩) id⟩
    by_cases hq:q=k
    ·subst hq; exact e
    ·exact y q (by omega) q2
   | false=>exact⟨_,rfl,.inr ⟨rfl,k,h,e⟩⟩
  ·refine⟨_,by rw [if_neg (by simp only [decide_eq_true_eq]; unfold na at h; omega)],.inl ⟨⟨_,rfl⟩,fun q q1 q2=>absurd q2 (by omega)⟩⟩
theorem Jx {m:Nat}(hm:2 ^ 30≤m){l:List ah}{dn:List Bool}(ok:lS l)(hd:dn.length=l.length){i:Nat}(hi:i<l.length):∃x,cG.f m (nd l i) dn=some x∧(x=true→XO l dn i)∧(x=false→∃q,q<na l i∧gb dn (ar l i q)=false):=by
 have rl:(2:Nat) ^ 30=1073741824:=by decide
 have h8:=E4 ok hi
 obtain⟨o,k1,k2⟩:=Jw (m:=m) ok hd hi m 0 (by omega) (by omega)
 have k1:cG.l0 m (nd l i) dn m 0=_:=k1
 unfold cG.f
 rw [k1,abw]
 rcases k2 with⟨⟨x,rfl⟩,k⟩| ⟨rfl,hq⟩
 ·exact⟨true,rfl,fun _ k0 hk=>k k0 (by omega) hk,fun h=>by cases h⟩
 ·exact⟨false,rfl,fun h=>(by cases h),fun _=>hq⟩
def te (l:List ah)(c:List Int)(i j:Nat):Prop:=Alike (nd l i) (nd l j)∧SA l c i j
theorem E6 {m:Nat}(hm:2 ^ 30≤m){l:List ah}{c fs:List Int}(ok:lS l)(hc:c.length=l.length){i:Nat}(hi:i<l.length)(hf:∀f∈fs,0≤f∧f<l.length)(NA:fs.length≤8000):∀(f k:Nat),fs.length - k<f→k≤fs.length→
  ∃o,cN.l0 m l fs (i:Int) c f (k:Int)=some o∧((∃x,o = .inr x)∧(∀q,k≤q→q<fs.length→¬te l c i (gt fs q).toNat)∨∃v,o = .inl v∧v∈fs∧te l c i v.toNat)
 | 0,k,h,_=>absurd h (by omega)
 | f+1,k,h,hk=>by
  unfold cN.l0
  by_cases Kj:k<fs.length
  ·obtain⟨b0,b1⟩:=hf _ (a8 Kj)
   have R7:((gt fs k).toNat:Int)=gt fs k:=by omega
   obtain⟨xa,a1,a2⟩:=wj (m:=m) (nd l (i:Int)) (nd l (gt fs k))
   have ih:=E6 hm ok hc hi hf NA f (k+1) (by omega) (by omega)
   obtain⟨o,k1,k2⟩:=ih
   have next:¬te l c i (gt fs k).toNat→∃o',(cN.l0 m l fs (i:Int) c f (i64.wrap ((k:Int)+1)))=some o'∧((∃x,o' = .inr x)∧(∀q,k≤q→q<fs.length→¬te l c i (gt fs q).toNat)∨∃v,o' = .inl v∧v∈fs∧te l c i v.toNat):=fun hn=>by
    rw [bl (by omega) (by omega),show (k:Int)+1=((k+1:Nat):Int) by omega,k1]
    refine⟨o,rfl,k2.imp (fun ⟨x,y⟩=>⟨x,fun q q1 q2=>?_⟩) id⟩
    by_cases hq:q=k
    ·subst hq; exact hn
    ·exact y q (by omega) q2
   rw [if_pos (by simp only [decide_eq_true_eq]; omega),iZ (by omega) (by omega),abw,dv Kj,abw,iZ b0 b1,abw,a1,abw]
   cases xa with
   | false=>
    rw [if_neg (by simp)]
    refine next fun hs=>?_
    have:=a2.2 (by have:=hs.1; rw [R7] at this; exact this)
    cases this
   | true=>
    have hA:=a2.1 rfl
    have hl:na l i=na l (gt fs k).toNat:=by unfold na; rw [R7]; exact hA.len
    obtain⟨xs,s1,s2⟩:=E5 hm ok hc hi (j:=(gt fs k).toNat) (by omega) hl
    rw [R7] at s1
    rw [if_pos rfl,abw,abw,iZ b0 b1,abw,s1,abw]
    cases xs with
    | false=>
     rw [if_neg (by simp)]
     refine next fun hs=>?_
     have:=s2.2 hs.2; cases this
    | true=>
     exact⟨_,rfl,.inr ⟨_,rfl,a8 Kj,by rw [R7]; exact hA,s2.1 rfl⟩⟩
  ·exact⟨_,by rw [if_neg (by simp only [decide_eq_true_eq]; omega)],.inl ⟨⟨_,rfl⟩,fun q q1 q2=>absurd q2 (by omega)⟩⟩
theorem find_spec {m:Nat}(hm:2 ^ 30≤m){l:List ah}{c fs:List Int}(ok:lS l)(hc:c.length=l.length){i:Nat}(hi:i<l.length)(hf:∀f∈fs,0≤f∧f<l.length)(NA:fs.length≤8000) :
  ∃v,cN.f m l fs (i:Int) c=some v∧(v=i∧(∀f∈fs,¬te l c i f.toNat)∨v∈fs∧te l c i v.toNat):=by
 have rl:(2:Nat) ^ 30=1073741824:=by decide
 obtain⟨o,k1,k2⟩:=E6 hm ok hc hi hf NA m 0 (by omega) (by omega)
 have k1:cN.l0 m l fs (i:Int) c m 0=_:=k1
 unfold cN.f
 rw [k1,abw]
 rcases k2 with⟨⟨x,rfl⟩,k⟩| ⟨v,rfl,hv,hs⟩
 ·refine⟨_,rfl,.inl ⟨rfl,fun f hf=>?_⟩⟩
  obtain⟨q,hq,e⟩:=gq hf
  rw [←e]; exact k q (by omega) hq
 ·exact⟨v,rfl,.inr ⟨hv,hs⟩⟩
end Go.Proofs.YtifafejidnjckaaGreat
namespace Go.Proofs.YtifafejidnjckaaGreat
open Go Go.R
open Go.IntKind (i64 u64 u8 u32)
inductive wk (κ:Int→Int)(A:Int→List Int):List Int→List Int→List Int→Prop
 | nil (o:List Int):wk κ A [] o o
 | skip {v:Int} {st o o':List Int}:κ v∈o.map κ→wk κ A st o o'→wk κ A (v::st) o o'
 | push {v:Int} {st o o':List Int}:κ v∉o.map κ→wk κ A (A v++st) (o++[v]) o'→wk κ A (v::st) o o'
theorem wk.XP {κ:Int→Int}{A:Int→List Int}{st o o1 o2:List Int}(h:wk κ A st o o1)(k:wk κ A st o o2):o1=o2:=by
 induction h with
 | nil o=>cases k; rfl
 | skip hm _ ih=>
  cases k with
  | skip _ k=>exact ih k
  | push hn _=>exact absurd hm hn
 | push hn _ ih=>
  cases k with
  | skip hm _=>exact absurd hm hn
  | push _ k=>exact ih k
theorem wk.facts {κ:Int→Int}{A:Int→List Int}{n:Nat}{st o o':List Int}(h:wk κ A st o o')(hA:∀v:Int,0≤v→v<n→∀a∈A v,0≤a∧a<n)(hst:∀v∈st,0≤v∧v<n)(ho:∀v∈o,0≤v∧v<n)(Dn:(o.map κ).Nodup) :
  (∃t,o'=o++t)∧(∀v∈o',0≤v∧v<n)∧(o'.map κ).Nodup∧(∀v∈st,κ v∈o'.map κ)∧((∀v∈o,∀a∈A v,κ a∈o.map κ∨a∈st)→∀v∈o',∀a∈A v,κ a∈o'.map κ):=by
 induction h with
 | nil o=>
  refine⟨⟨[],by simp⟩,ho,Dn,?_,?_⟩
  ·intro v hv; cases hv
  ·intro h v hv a ha; exact (h v hv a ha).resolve_right (by simp)
 | @skip v st o o' hm _ ih=>
  obtain⟨⟨t,rfl⟩,a,b,c,d⟩:=ih (fun x hx=>hst x (by simp [hx])) ho Dn
  refine⟨⟨t,rfl⟩,a,b,fun x hx=>?_,fun h=>d fun x hx y hy=>?_⟩
  ·rcases ab0.1 hx with rfl | hx
   ·rw [abV]; exact ab6 _ hm
   ·exact c x hx
  ·rcases h x hx y hy with h | h
   ·exact .inl h
   ·rcases ab0.1 h with rfl | h
    ·exact .inl hm
    ·exact .inr h
 | @push v st o o' hn _ ih=>
  have hv:=hst v (by simp)
  have h1:∀x∈A v++st,0≤x∧x<n:=fun x hx=>by
   rcases abP.1 hx with hx | hx
   ·exact hA v hv.1 hv.2 x hx
   ·exact hst x (by simp [hx])
  have h2:∀x∈o++[v],0≤x∧x<n:=fun x hx=>by
   rcases abP.1 hx with hx | hx
   ·exact ho x hx
   ·rw [abI] at hx; subst hx; exact hv
  have h3:((o++[v]).map κ).Nodup:=by
   rw [abV,acB]
   refine⟨Dn,by simp,fun a ha b hb=>?_⟩
   simp only [ab5,List.map_nil,abI] at hb
   subst hb; intro e; subst e; exact hn ha
  obtain⟨⟨t,rfl⟩,a,b,c,d⟩:=ih h1 h2 h3
  refine⟨⟨[v]++t,by simp⟩,a,b,fun x hx=>?_,fun h=>d fun x hx y hy=>?_⟩
  ·rcases ab0.1 hx with rfl | hx
   ·simp
   ·exact c x (by simp [hx])
  ·rcases abP.1 hx with hx | hx
   ·rcases h x hx y hy with h | h
    ·exact .inl (by rw [abV]; exact ab6 _ h)
    ·rcases ab0.1 h with rfl | h
     ·exact .inl (by simp)
     ·exact .inr (by simp [h])
   ·rw [abI] at hx; subst hx
    exact .inr (ab6 _ hy)
theorem wk.from {A:Int→List Int}{root:Int}{st o o':List Int}(h:wk id A st o o')(hst:∀v∈st,v=root∨∃q,q<o.length∧v∈A (gt o q))(ho:∀i,i<o.length→gt o i=root∨∃q,q<i∧gt o i∈A (gt o q)) :
  ∀i,i<o'.length→gt o' i=root∨∃q,q<i∧gt o' i∈A (gt o' q):=by
 induction h with
 | nil o=>exact ho
 | skip hm _ ih=>exact ih (fun x hx=>hst x (by simp [hx])) ho
 | @push v st o o' hn _ ih=>
  have gl:∀q,q<o.length→gt (o++[v]) q=gt o q:=fun q hq=>ju hq
  have gv:gt (o++[v]) o.length=v:=by unfold gt; rw [abO,abN (abB _),acE]; rfl
  refine ih (fun x hx=>?_) (fun i hi=>?_)
  ·rcases abP.1 hx with hx | hx
   ·exact .inr ⟨o.length,by simp,by rw [gv]; exact hx⟩
   ·rcases hst x (by simp [hx]) with h | ⟨q,q1,q2⟩
    ·exact .inl h
    ·exact .inr ⟨q,by simp; omega,by rw [gl q q1]; exact q2⟩
  ·by_cases h:i<o.length
   ·rw [gl i h]
    rcases ho i h with h1 | ⟨q,q1,q2⟩
    ·exact .inl h1
    ·exact .inr ⟨q,q1,by rw [gl q (by omega)]; exact q2⟩
   ·have e:i=o.length:=by simp at hi; omega
    subst e
    rw [gv]
    rcases hst v (by simp) with h | ⟨q,q1,q2⟩
    ·exact .inl h
    ·exact .inr ⟨q,q1,by rw [gl q q1]; exact q2⟩
theorem BG (cls:List Int)(l:List ah)(k:Nat)(i:Int)(o:List Int):tc cls l (k+1) i o=if fQ cls i∈o.map (fQ cls) then o else (nd l i).args.foldl (fun o a=>tc cls l k a o) (o++[i]):=rfl
theorem Jy {cls:List Int}{l:List ah}(ok:lS l):∀(k:Nat) (i:Int) (o:List Int),0≤i→i<l.length→Vs cls l.length o→Vs cls l.length (tc cls l k i o)∧o.length≤(tc cls l k i o).length
 | 0,i,o,_,_,v=>⟨v,abB _⟩
 | k+1,i,o,h0,h1,v=>by
  rw [BG]
  split
  ·exact⟨v,abB _⟩
  ·rename_i h
   have v1:Vs cls l.length (o++[i]):=by
    refine⟨?_,fun x hx=>?_⟩
    ·rw [abV,acB]
     refine⟨v.Kc,by simp,fun a ha b hb=>?_⟩
     simp only [ab5,List.map_nil,abI] at hb
     subst hb; intro e; subst e; exact h ha
    ·rcases abP.1 hx with hx | hx
     ·exact v.oY x hx
     ·simp only [abI] at hx; subst hx; exact⟨h0,h1⟩
   have fold:∀(zs:List Int) (o:List Int),(∀a∈zs,0≤a∧a<l.length)→Vs cls l.length o→Vs cls l.length (zs.foldl (fun o a=>tc cls l k a o) o)∧o.length≤(zs.foldl (fun o a=>tc cls l k a o) o).length:=by
    intro zs
    induction zs with
    | nil=>intro o _ v; exact⟨v,abB _⟩
    | cons a zs ih=>
     intro o ha v
     have hr:=ha a (by simp)
     obtain⟨v2,l2⟩:=Jy ok k a o hr.1 hr.2 v
     obtain⟨v3,l3⟩:=ih (tc cls l k a o) (fun x hx=>ha x (by simp [hx])) v2
     exact⟨v3,acv l2 l3⟩
   obtain⟨v2,l2⟩:=fold (nd l i).args (o++[i]) (ok.2 _ (gQ h0 h1)).2 v1
   exact⟨v2,by simp at l2; omega⟩
theorem rm {cls:List Int}{l:List ah}(ok:lS l):∀(k:Nat) (i:Int) (o st o':List Int),0≤i→i<l.length→Vs cls l.length o→l.length<k+o.length→
  wk (fQ cls) (fun v=>(nd l v).args) st (tc cls l k i o) o'→wk (fQ cls) (fun v=>(nd l v).args) (i::st) o o'
 | 0,i,o,st,o',_,_,v,hk,_=>absurd v.xZ (by omega)
 | k+1,i,o,st,o',h0,h1,v,hk,h=>by
  rw [BG] at h
  by_cases hm:fQ cls i∈o.map (fQ cls)
  ·rw [if_pos hm] at h
   exact .skip hm h
  ·rw [if_neg hm] at h
   refine .push hm ?_
   have v1:Vs cls l.length (o++[i]):=by
    refine⟨?_,fun x hx=>?_⟩
    ·rw [abV,acB]
     refine⟨v.Kc,by simp,fun a ha b hb=>?_⟩
     simp only [ab5,List.map_nil,abI] at hb
     subst hb; intro e; subst e; exact hm ha
    ·rcases abP.1 hx with hx | hx
     ·exact v.oY x hx
     ·simp only [abI] at hx; subst hx; exact⟨h0,h1⟩
   have fold:∀(zs:List Int) (o:List Int),(∀a∈zs,0≤a∧a<l.length)→Vs cls l.length o→l.length<k+o.length→wk (fQ cls) (fun v=>(nd l v).args) st (zs.foldl (fun o a=>tc cls l k a o) o) o'→wk (fQ cls) (fun v=>(nd l v).args) (zs++st) o o':=by
    intro zs
    induction zs with
    | nil=>intro o _ _ _ h; exact h
    | cons a zs ih=>
     intro o ha v hk h
     have hr:=ha a (by simp)
     obtain⟨v2,l2⟩:=Jy ok k a o hr.1 hr.2 v
     exact rm ok k a o (zs++st) o' hr.1 hr.2 v hk (ih _ (fun x hx=>ha x (by simp [hx])) v2 (by omega) h)
   exact fold (nd l i).args (o++[i]) (ok.2 _ (gQ h0 h1)).2 v1 (by simp; omega) h
theorem k8 {od:List Int}{n:Nat}(h:od.Nodup)(hr:∀x∈od,0≤x∧x<n):od.length≤n:=by
 have:=h.length_le_of_subset (l₂:=ints n) (fun x hx=>jL.2 (hr x hx))
 rwa [fB] at this
theorem Jz {m:Nat}{l:List ah}(ok:lS l){v:Int}(h0:0≤v)(h1:v<l.length):∀(f i:Nat) (st:List Int),i<f→i≤(nd l v).args.length→st.length+i≤1000000→
  ∃x,a6.l1 m l v f st ((i:Int) - 1)=some (st++((nd l v).args.take i).reverse,x)
 | 0,i,st,hf,_,_=>absurd hf (by omega)
 | f+1,0,st,hf,hi,hs=>by
  unfold a6.l1
  rw [if_neg (by simp)]
  exact⟨_,by simp; rfl⟩
 | f+1,i+1,st,hf,hi,hs=>by
  have h8:=(ok.2 _ (gQ h0 h1)).1
  have ei:((i+1:Nat):Int) - 1=(i:Int):=by omega
  have ew:i64.wrap ((i:Int) - 1)=(i:Int) - 1:=bl (by omega) (by omega)
  have pW:app 8 st [gt (nd l v).args i]=some (st++[gt (nd l v).args i]):=by unfold app; rw [if_pos (by simp; omega)]
  obtain⟨x,ih⟩:=Jz (m:=m) ok h0 h1 f i (st++[gt (nd l v).args i]) (by omega) (by omega) (by simp; omega)
  refine⟨x,?_⟩
  unfold a6.l1
  rw [ei,if_pos (by simp),iZ h0 h1,abw,dv (by omega),abw,pW,abw,ew,ih]
  rw [acI,bP (by omega)]
  simp
theorem Dq {m:Nat}(hm:2 ^ 30≤m){l:List ah}(ok:lS l):∀(f:Nat) (met:List Bool) (o st:List Int),st.length+9*(l.length - o.length)<f→st.length+9*(l.length - o.length)≤100000→met.length=l.length→(∀i,i<l.length→(gb met i=true↔(i:Int)∈o))→o.Nodup→(∀v∈o,0≤v∧v<l.length)→(∀v∈st,0≤v∧v<l.length)→
  ∃zK o' ,a6.l0 m l f met o st.reverse=some (zK,o',[])∧wk id (fun v=>(nd l v).args) st o o'
 | 0,met,o,st,hf,_,_,_,_,_,_=>absurd hf (by omega)
 | f+1,met,o,[],hf,hb,Pd,R8,SY,SZ,OF=>by
  unfold a6.l0
  rw [if_neg (by simp)]
  exact⟨met,o,rfl,.nil o⟩
 | f+1,met,o,v::st,hf,hb,Pd,R8,SY,SZ,OF=>by
  have rl:(2:Nat) ^ 30=1073741824:=by decide
  have LH:=k8 SY SZ
  obtain⟨v0,v1⟩:=OF v (by simp)
  have h8:=(ok.2 _ (gQ v0 v1)).1
  have OJ:((v.toNat:Nat):Int)=v:=by omega
  simp only [abR] at hf hb
  have R9:=ok.1
  unfold a6.l0
  have hlen:((v::st).reverse.length:Int)=(st.length:Int)+1:=by simp
  have ew:i64.wrap ((st.length:Int)+1 - 1)=(st.length:Int):=by rw [bl (by omega) (by omega)]; omega
  have e1:ix (v::st).reverse (st.length:Int)=some v:=by
   unfold ix
   rw [if_pos (by omega),abC,List.reverse_cons,abN (by simp)]
   simp
  have e2:D4 (v::st).reverse 0 (st.length:Int)=some st.reverse:=by
   unfold D4
   rw [if_pos ⟨by omega,by omega,by simp; omega⟩,List.reverse_cons]
   simp only [abC,acn,Int.toNat_zero,Nat.sub_zero]
   rw [List.take_left' (by simp)]
  have e3:ix met v=some (gb met v.toNat):=wi v0 (by omega)
  rw [if_pos (by rw [hlen]; simp only [gt_iff_lt,decide_eq_true_eq]; omega),hlen,ew,e1,abw,e2,abw,e3,abw]
  cases hg:gb met v.toNat with
  | true=>
   have rN:v∈o:=by have:=(R8 v.toNat (by omega)).1 hg; rwa [OJ] at this
   obtain⟨zK,o',k1,k2⟩:=Dq hm ok f met o st (by omega) (by omega) Pd R8 SY SZ (fun x hx=>OF x (by simp [hx]))
   rw [if_pos rfl]
   exact⟨zK,o',k1,.skip (by simpa using rN) k2⟩
  | false=>
   have S3:v∉o:=fun h=>by
    have:=(R8 v.toNat (by omega)).2 (by rw [OJ]; exact h)
    rw [hg] at this; cases this
   have Sa:(o++[v]).Nodup:=by
    rw [acB]
    refine⟨SY,by simp,fun a ha b hb=>?_⟩
    rw [abI] at hb
    subst hb; intro e; subst e; exact S3 ha
   have Sd:∀x∈o++[v],0≤x∧x<l.length:=fun x hx=>by
    rcases abP.1 hx with hx | hx
    ·exact SZ x hx
    ·rw [abI] at hx; subst hx; exact⟨v0,v1⟩
   have BC:=k8 Sa Sd
   simp only [abQ,abR,ab4] at BC
   have pW:app 8 o [v]=some (o++[v]):=by unfold app; rw [if_pos (by simp; omega)]
   have VL:i64.wrap (((nd l v).args.length:Int) - 1)=((nd l v).args.length:Int) - 1:=bl (by omega) (by omega)
   obtain⟨x,q1⟩:=Jz (m:=m) ok v0 v1 m (nd l v).args.length st.reverse (by omega) (abB _) (by simp; omega)
   rw [ace] at q1
   have OL:st.reverse++(nd l v).args.reverse=((nd l v).args++st).reverse:=by simp
   rw [OL] at q1
   rw [if_neg (by simp),abw,pW,abw,iZ v0 v1,abw,VL,q1,abw]
   dsimp only
   obtain⟨zK,o',k1,k2⟩:=Dq hm ok f (met.set v.toNat true) (o++[v]) ((nd l v).args++st) (by simp; omega) (by simp; omega) (by simpa using Pd) (fun i hi=>by
    rw [zJ (by omega),abP,abI]
    by_cases e:i=v.toNat
    ·subst e; simp [OJ]
    ·rw [if_neg e,R8 i hi]
     constructor
     ·exact fun h=>.inl h
     ·rintro (h | h)
      ·exact h
      ·omega) Sa Sd (fun x hx=>by
    rcases abP.1 hx with hx | hx
    ·exact (ok.2 _ (gQ v0 v1)).2 x hx
    ·exact OF x (by simp [hx]))
   exact⟨zK,o',k1,.push (by simpa using S3) k2⟩
theorem zL {n k:Nat}:gb (abM n false) k=false:=by
 unfold gb; rw [abO,List.getElem?_replicate]; split<;>rfl
theorem rn {m:Nat}(hm:2 ^ 30≤m){l:List ah}(ok:lS l){root:Int}(h0:0≤root)(h1:root<l.length):∃o,a6.f m l root=some o∧wk id (fun v=>(nd l v).args) [root] [] o:=by
 have rl:(2:Nat) ^ 30=1073741824:=by decide
 have R9:=ok.1
 unfold a6.f
 have e1:pX 1 (l.length:Int) false=some (abM l.length false):=by unfold pX; rw [if_pos ⟨by omega,by rw [abC]; omega⟩,abC]
 have pW:app 8 ([]:List Int) [root]=some [root]:=by unfold app; rw [if_pos (by simp),aci]
 obtain⟨zK,o',k1,k2⟩:=Dq hm ok m (abM l.length false) [] [root] (by simp; omega) (by simp; omega) (by simp) (fun i hi=>by rw [zL]; simp) (by simp) (fun v hv=>by cases hv) (fun v hv=>by rw [abI] at hv; subst hv; exact⟨h0,h1⟩)
 have k1:a6.l0 m l m (abM l.length false) [] [root]=_:=k1
 rw [e1,abw,pW,abw,k1,abw]
 exact⟨o',rfl,k2⟩
end Go.Proofs.YtifafejidnjckaaGreat
namespace Go.Proofs.YtifafejidnjckaaGreat
open Go Go.R
open Go.IntKind (i64 u64 u8 u32)
structure Dr (l k:List ah)(R:Int→Int→Prop):Prop where
 oY:∀i j,R i j→(0≤i∧i<l.length)∧0≤j∧j<k.length
 top:∀i j,R i j→Alike (nd l i) (nd k j)
 arg:∀i j,R i j→∀n,n<(nd l i).args.length→R (gt (nd l i).args n) (gt (nd k j).args n)
theorem Min.same {l:List ah}{c:List Int}(M:Min l c){a b:Int}(a0:0≤a)(a1:a<l.length)(b0:0≤b)(b1:b<l.length)(e:fQ c a=fQ c b) :
  Alike (nd l a) (nd l b)∧∀n,n<(nd l a).args.length→fQ c (gt (nd l a).args n)=fQ c (gt (nd l b).args n):=by
 have ea:((a.toNat:Nat):Int)=a:=by omega
 have eb:((b.toNat:Nat):Int)=b:=by omega
 have hA:=M.top a.toNat b.toNat (by omega) (by omega) e
 have hg:=M.arg a.toNat b.toNat (by omega) (by omega) e
 rw [ea,eb] at hA hg
 exact⟨hA,hg⟩
theorem Dr.swap {l k:List ah}{R:Int→Int→Prop}(S:Dr l k R):Dr k l fun j i=>R i j:=
 ⟨fun i j h=>⟨(S.oY j i h).2,(S.oY j i h).1⟩,fun i j h=>(S.top j i h).symm,fun i j h n hn=>S.arg j i h n (by have:=(S.top j i h).len; omega)⟩
theorem Dr.cls {l k:List ah}{R:Int→Int→Prop}(S:Dr l k R){c1 c2:List Int}(M1:Min l c1)(M2:Min k c2){i j i' j':Int}(h:R i j)(h':R i' j')(e:fQ c1 i=fQ c1 i'):fQ c2 j=fQ c2 j':=by
 have g:=S.oY _ _ h
 have g':=S.oY _ _ h'
 refine M2.max (fun a b=>∃i i':Int,R i a∧R i' b∧fQ c1 i=fQ c1 i') ⟨?_,?_,?_⟩ j.toNat j'.toNat ⟨i,i',by rwa [show ((j.toNat:Nat):Int)=j by omega],by rwa [show ((j'.toNat:Nat):Int)=j' by omega],e⟩
 ·rintro a b ⟨i,i',h,h',_⟩
  have:=S.oY _ _ h
  have:=S.oY _ _ h'
  omega
 ·rintro a b ⟨i,i',h,h',e⟩
  have g:=S.oY _ _ h
  have g':=S.oY _ _ h'
  exact ((S.top _ _ h).symm.trans (M1.same g.1.1 g.1.2 g'.1.1 g'.1.2 e).1).trans (S.top _ _ h')
 ·rintro a b ⟨i,i',h,h',e⟩ n hn
  have g:=S.oY _ _ h
  have g':=S.oY _ _ h'
  obtain⟨sA,sg⟩:=M1.same g.1.1 g.1.2 g'.1.1 g'.1.2 e
  have Hq:n<(nd l i).args.length:=by have:=(S.top _ _ h).len; omega
  have k1:=S.arg _ _ h n Hq
  have k2:=S.arg _ _ h' n (by have:=sA.len; omega)
  have r1:=(S.oY _ _ k1).2
  have r2:=(S.oY _ _ k2).2
  exact⟨_,_,by rwa [show (((gt (nd k a).args n).toNat:Nat):Int)=gt (nd k a).args n by omega],by rwa [show (((gt (nd k b).args n).toNat:Nat):Int)=gt (nd k b).args n by omega],sg n Hq⟩
inductive Rl (R:Int→Int→Prop):List Int→List Int→Prop
 | nil:Rl R [] []
 | cons {a b:Int} {xs ys:List Int}:R a b→Rl R xs ys→Rl R (a::xs) (b::ys)
theorem Rl.app {R:Int→Int→Prop}{a b c d:List Int}(h:Rl R a b)(k:Rl R c d):Rl R (a++c) (b++d):=by
 induction h with
 | nil=>exact k
 | cons h _ ih=>exact .cons h ih
theorem Rl.len {R:Int→Int→Prop}{a b:List Int}(h:Rl R a b):a.length=b.length:=by
 induction h with
 | nil=>rfl
 | cons _ _ ih=>simp [ih]
theorem Rl.at {R:Int→Int→Prop}{a b:List Int}(h:Rl R a b):∀n,n<a.length→R (gt a n) (gt b n):=by
 induction h with
 | nil=>intro n hn; exact absurd hn (by simp)
 | cons h _ ih=>
  intro n hn
  cases n with
  | zero=>exact h
  | succ n=>exact ih n (by simpa using hn)
theorem Rl.of {R:Int→Int→Prop}:∀{a b:List Int},a.length=b.length→(∀n,n<a.length→R (gt a n) (gt b n))→Rl R a b
 | [],[],_,_=>.nil
 | [],_::_,h,_=>by simp at h
 | _::_,[],h,_=>by simp at h
 | x::a,y::b,h,k=>.cons (k 0 (by simp)) (Rl.of (by simpa using h) fun n hn=>k (n+1) (by simpa using hn))
section
variable {l k:List ah}{R:Int→Int→Prop}{c1 c2:List Int}
theorem Dr.mem (S:Dr l k R)(M1:Min l c1)(M2:Min k c2){v w:Int}(h:R v w){o o2:List Int}(ho:Rl R o o2):fQ c1 v∈o.map (fQ c1)↔fQ c2 w∈o2.map (fQ c2):=by
 induction ho with
 | nil=>simp
 | cons h' _ ih=>
  rw [ab5,ab5,ab0,ab0,ih]
  have z1:=S.cls M1 M2 h h'
  have z2:=S.swap.cls M2 M1 h h'
  constructor
  ·rintro (e | e)
   ·exact .inl (z1 e)
   ·exact .inr e
  ·rintro (e | e)
   ·exact .inl (z2 e)
   ·exact .inr e
theorem Dr.idx (S:Dr l k R)(M1:Min l c1)(M2:Min k c2){v w:Int}(h:R v w){o o2:List Int}(ho:Rl R o o2):idx c1 o v=idx c2 o2 w:=by
 unfold Go.Proofs.YtifafejidnjckaaGreat.idx
 congr 1
 induction ho with
 | nil=>rfl
 | @cons a b xs ys h' _ ih=>
  rw [ab5,ab5,List.idxOf_cons,List.idxOf_cons,ih]
  have h1:=S.cls M1 M2 h' h
  have h2:=S.swap.cls M2 M1 h' h
  by_cases e:fQ c1 a=fQ c1 v
  ·rw [e,h1 e]; simp
  ·have e2:¬fQ c2 b=fQ c2 w:=fun z=>e (h2 z)
   rw [show (fQ c1 a==fQ c1 v)=false from by simpa using e,show (fQ c2 b==fQ c2 w)=false from by simpa using e2]
theorem Dr.pre (S:Dr l k R)(M1:Min l c1)(M2:Min k c2){st o o':List Int}(h:wk (fQ c1) (fun v=>(nd l v).args) st o o'):∀{bf o2:List Int},Rl R st bf→Rl R o o2→∃Kd,wk (fQ c2) (fun v=>(nd k v).args) bf o2 Kd∧Rl R o' Kd:=by
 induction h with
 | nil o=>intro bf o2 hs ho; cases hs; exact⟨o2,.nil _,ho⟩
 | skip hm _ ih=>
  intro bf o2 hs ho
  cases hs with
  | cons h hs=>
   obtain⟨Kd,k1,k2⟩:=ih hs ho
   exact⟨Kd,.skip ((S.mem M1 M2 h ho).1 hm) k1,k2⟩
 | push hn _ ih=>
  intro bf o2 hs ho
  cases hs with
  | cons h hs=>
   obtain⟨Kd,k1,k2⟩:=ih ((Rl.of (S.top _ _ h).len (S.arg _ _ h)).app hs) (ho.app (.cons h .nil))
   exact⟨Kd,.push (fun z=>hn ((S.mem M1 M2 h ho).2 z)) k1,k2⟩
end
theorem LL {c O:List Int}{a b:Int}(h:fQ c a=fQ c b):idx c O a=idx c O b:=by unfold idx; rw [h]
theorem OM {f:Int→Int}{a b:List Int}{g:Int→Int}(hl:a.length=b.length)(h:∀n,n<a.length→f (gt a n)=g (gt b n)):a.map f=b.map g:=by
 apply acx fun n=>?_
 simp only [ab1]
 by_cases hn:n<a.length
 ·rw [bP hn,bP (by omega)]; simp only [abE,h n hn]
 ·rw [abU (by omega),abU (by omega)]; rfl
theorem Gt {m:Nat}(hm:2 ^ 41≤m){t u:aZ}(ht:fM t=true)(hu:fM u=true){R:Int→Int→Prop}(S:Dr t.nodes u.nodes R)(hr:R t.root u.root):∃s,eF.f m t=some s∧eF.f m u=some s:=by
 have wZ:(2:Nat) ^ 41=2199023255552:=by decide
 obtain⟨G0,_,r0,r1,_⟩:=jW ht
 obtain⟨XQ,_,q0,q1,_⟩:=jW hu
 obtain⟨c1,n1,e1,M1,Q1,_⟩:=nh hm ht
 obtain⟨c2,n2,e2,M2,Q2,_⟩:=nh hm hu
 have l1:=G0.1
 have l2:=XQ.1
 have P1:=rm (cls:=c1) G0 m t.root [] [] _ r0 r1 ⟨by simp,fun x hx=>by cases hx⟩ (by simp; omega) (.nil _)
 have P2:=rm (cls:=c2) XQ m u.root [] [] _ q0 q1 ⟨by simp,fun x hx=>by cases hx⟩ (by simp; omega) (.nil _)
 obtain⟨Kd,k1,k2⟩:=S.pre M1 M2 P1 (.cons hr .nil) .nil
 have:=k1.XP P2
 subst this
 generalize hO1:tc c1 t.nodes m t.root []=O1 at *
 generalize hO2:tc c2 u.nodes m u.root []=O2 at *
 have hl:=k2.len
 have w1:=Q1.len
 have w2:=Q2.len
 have hn:n1=n2:=by
  apply acx fun q=>?_
  by_cases hq:q<O1.length
  ·rw [Q1.new q (by simp) hq,Q2.new q (by simp) (by omega)]
   have h:=k2.at q hq
   have A:=S.top _ _ h
   unfold w5
   rw [A.kind,A.int,A.label,OM A.len fun n hn=>S.idx M1 M2 (S.arg _ _ h n hn) k2]
  ·rw [abU (by omega),abU (by omega)]
 subst hn
 exact⟨_,e1,e2⟩
theorem Ds {n:ah}{a b:Int}{f:Int→Int}(h:fu n a=true)(hf:∀x∈n.args,0≤f x∧f x<b):fu ⟨n.kind,n.int,n.label,n.args.map f⟩ b=true:=by
 unfold fu at h ⊢
 have he:(n.args.map f).isEmpty=n.args.isEmpty:=by cases n.args<;>rfl
 dsimp only
 rw [he,abL]
 have ha:((n.args.map f).all fun a=>decide (0≤a)&&decide (a<b))=true:=by
  rw [abW]
  intro x hx
  obtain⟨y,hy,rfl⟩:=abZ.1 hx
  have:=hf y hy
  simp only [abA,decide_eq_true_eq]; exact this
 rw [ha]
 split<;>rename_i h0
 ·rw [if_pos h0] at h; exact h
 ·rw [if_neg h0] at h
  split<;>rename_i h1
  ·rw [if_pos h1] at h; exact h
  ·rw [if_neg h1] at h
   split<;>rename_i h2
   ·rw [if_pos h2] at h; exact h
   ·rw [if_neg h2] at h
    split<;>rename_i h3
    ·rw [if_pos h3] at h
     simp only [abA] at h ⊢
     exact⟨h.1,trivial⟩
    ·rw [if_neg h3] at h
     exact h
theorem Gu {m:Nat}(hm:2 ^ 41≤m){t:aZ}(ht:fM t=true):∃s R,eF.f m t=some s∧fM s=true∧s.nodes.length≤t.nodes.length∧Dr t.nodes s.nodes R∧R t.root s.root:=by
 have wZ:(2:Nat) ^ 41=2199023255552:=by decide
 obtain⟨ok,_,r0,r1,_⟩:=jW ht
 obtain⟨c,ns,e,M,Q,hr⟩:=nh hm ht
 have l1:=ok.1
 have fv:=ht
 unfold fM at fv
 simp only [abA,decide_eq_true_eq] at fv
 generalize hO:tc c t.nodes m t.root []=O at *
 have xZ:=Q.vs.xZ
 have hlen:=Q.len
 have oP:0<O.length:=by cases O with | nil=>simp at hr | cons _ _=>simp
 have Dn:∀q:Nat,q<O.length→nd ns (q:Int)=w5 c t.nodes O (gt O q):=fun q hq=>by
  have:=Q.new q (by simp) hq
  unfold nd
  rw [abC,abO,this]; rfl
 have S5:∀{v:Int},fQ c v∈O.map (fQ c)→0≤idx c O v∧idx c O v<O.length∧fQ c (gt O (idx c O v).toNat)=fQ c v:=fun {v} hv=>by
  have h1:=acs hv
  have h2:=List.getElem_idxOf h1
  rw [abL] at h1
  unfold idx
  refine⟨by omega,by omega,?_⟩
  rw [abC]
  have h3:=abD (l:=O.map (fQ c)) (i:=(O.map (fQ c)).idxOf (fQ c v)) (by rw [abL]; exact h1)
  rw [h2,ab1,bP h1] at h3
  exact ab8 h3
 refine⟨⟨ns,0⟩,fun i j=>(0≤i∧i<t.nodes.length)∧fQ c i∈O.map (fQ c)∧j=idx c O i,e,?_,by show ns.length≤_; omega,⟨?_,?_,?_⟩,⟨r0,r1⟩,hr,?_⟩
 ·unfold fM
  simp only [abA,decide_eq_true_eq]
  refine⟨⟨⟨⟨by omega,by omega⟩,by omega⟩,by omega⟩,?_⟩
  rw [abW]
  intro x hx
  obtain⟨q,hq,e2⟩:=List.getElem_of_mem hx
  have h1:=Q.new q (by simp) (by omega)
  rw [abD hq,e2] at h1
  have h1:=ab8 h1
  subst h1
  have DX:=Q.vs.oY _ (a8 (l:=O) (k:=q) (by omega))
  refine Ds (abW.1 fv.2 _ (gQ DX.1 DX.2)) fun a ha=>?_
  have:=S5 (Q.arg q (by simp) (by omega) a ha)
  omega
 ·rintro i j ⟨h1,h2,rfl⟩
  have:=S5 h2
  exact⟨h1,by show 0≤_∧_<(ns.length:Int); omega⟩
 ·rintro i j ⟨h1,h2,rfl⟩
  obtain⟨a,b,d⟩:=S5 h2
  have DX:=Q.vs.oY _ (a8 (l:=O) (k:=(idx c O i).toNat) (by omega))
  have hx:=Dn (idx c O i).toNat (by omega)
  rw [show (((idx c O i).toNat:Nat):Int)=idx c O i by omega] at hx
  rw [hx]
  have A:=(M.same h1.1 h1.2 DX.1 DX.2 d.symm).1
  exact⟨A.kind,A.int,A.label,by show _=(List.map _ _).length; rw [abL]; exact A.len⟩
 ·rintro i j ⟨h1,h2,rfl⟩ n hn
  obtain⟨a,b,d⟩:=S5 h2
  have DX:=Q.vs.oY _ (a8 (l:=O) (k:=(idx c O i).toNat) (by omega))
  have hx:=Dn (idx c O i).toNat (by omega)
  rw [show (((idx c O i).toNat:Nat):Int)=idx c O i by omega] at hx
  rw [hx]
  obtain⟨A,hg⟩:=M.same h1.1 h1.2 DX.1 DX.2 d.symm
  have Hr:n<(nd t.nodes (gt O (idx c O i).toNat)).args.length:=by have:=A.len; omega
  have hg:=hg n hn
  have hin:=Q.arg (idx c O i).toNat (by simp) (by omega) _ (a8 Hr)
  refine⟨(ok.2 _ (gQ h1.1 h1.2)).2 _ (a8 hn),by rw [hg]; exact hin,?_⟩
  have e1:gt (w5 c t.nodes O (gt O (idx c O i).toNat)).args n=idx c O (gt (nd t.nodes (gt O (idx c O i).toNat)).args n):=by
   have h3:=bP (l:=(w5 c t.nodes O (gt O (idx c O i).toNat)).args) (k:=n) (by show n<(List.map _ _).length; rw [abL]; exact Hr)
   have h4:(w5 c t.nodes O (gt O (idx c O i).toNat)).args[n]? = some (idx c O (gt (nd t.nodes (gt O (idx c O i).toNat)).args n)):=by
    show (List.map _ _)[n]? = _
    rw [ab1,bP Hr]; rfl
   rw [h4] at h3; exact (ab8 h3).symm
  rw [e1]
  exact LL hg.symm
 ·show (0:Int)=idx c O t.root
  have P1:=rm (cls:=c) ok m t.root [] [] _ r0 r1 ⟨by simp,fun x hx=>by cases hx⟩ (by simp; omega) (.nil _)
  rw [hO] at P1
  cases P1 with
  | skip h _=>simp at h
  | push _ k=>
   obtain⟨⟨T,e⟩,_⟩:=k.facts (n:=t.nodes.length) (fun v a b=>(ok.2 _ (gQ a b)).2) (fun v hv=>by
    rcases abP.1 hv with hv | hv
    ·exact (ok.2 _ (gQ r0 r1)).2 v hv
    ·cases hv) (fun v hv=>by simp at hv; subst hv; exact⟨r0,r1⟩) (by simp)
   rw [e]
   unfold idx
   simp
end Go.Proofs.YtifafejidnjckaaGreat
namespace Go.Uf
open Go Go.R
open Go.IntKind (i64 u64 u8 u32)
def ga (a L:Nat):List Int:=(acX L).map fun i=>((a+i:Nat):Int)
theorem lF (a L:Nat):(ga a L).length=L:=by simp [ga]
theorem sD (a L:Nat):ga a (L+1)=ga a L++[((a+L:Nat):Int)]:=by
 unfold ga; rw [List.range_succ,abV]; rfl
theorem Dt {to:List Int}(o:MG to):∀L,MG (to++ga to.length L)∧(∀n,Rg to.length n→rp (to++ga to.length L) n=rp to n)∧∀n:Int,(to.length:Int)≤n→n<to.length+L→rp (to++ga to.length L) n=n
 | 0=>⟨by simpa [ga] using o,fun n _=>by simp [ga],fun n h1 h2=>by omega⟩
 | L+1=>by
  obtain⟨a,b,c⟩:=Dt o L
  have hl:(to++ga to.length L).length=to.length+L:=by rw [abQ,lF]
  have e:to++ga to.length (L+1)=(to++ga to.length L)++[(((to++ga to.length L).length:Nat):Int)]:=by
   rw [sD,←abX,hl]
  obtain⟨g1,g2,g3⟩:=RR a
  rw [←e] at g1 g2 g3
  refine⟨g1,fun n h=>?_,fun n h1 h2=>?_⟩
  ·rw [g2 n (by unfold Rg at h ⊢; rw [hl]; omega),b n h]
  ·by_cases h:n=to.length+L
   ·have:n=(((to++ga to.length L).length:Nat):Int):=by rw [hl]; omega
    rw [this]; exact g3
   ·rw [g2 n (by unfold Rg; rw [hl]; omega)]
    exact c n h1 (by omega)
theorem ni {N V:List ah}{n:Int}(h:Rg N.length n):gI (N++V) n=gI N n:=by
 have hl:n.toNat<N.length:=by have:=h.1; have:=h.2; omega
 unfold gI
 rw [abO,abO,abS hl]
end Go.Uf
namespace Go.Proofs.YtifafejidnjckaaGreat
open Go Go.R Go.Uf
open Go.IntKind (i64 u64 u8 u32)
def VM (s s':aj):Prop:=s.ae.length≤s'.ae.length∧(∀n,Rg s.ae.length n→sy s.ae (rp s.aB n)→oX (gI s.ae (rp s.aB n)) (gI s'.ae (rp s'.aB n)))∧(∀n,Rg s.ae.length n→gI s'.ae n=gI s.ae n)∧Vw s.ae (rp s.aB) (rp s'.aB)
theorem oX.refl (a:ah):oX a a:=⟨rfl,rfl,rfl,rfl⟩
theorem sE {n:ah}{size tg z:Int}(h:fu n size=true)(f:Int→Int)(hf:∀a∈n.args,0≤f a∧f a<tg)(h0:n.kind=0→0≤z)(h1:n.kind≠0→z=n.int):fu ⟨n.kind,z,n.label,n.args.map f⟩ tg=true:=by
 unfold fu at h ⊢
 simp only at h ⊢
 by_cases k0:n.kind=0
 ·rw [if_pos k0] at h ⊢
  simp only [abA,decide_eq_true_eq,List.isEmpty_map] at h ⊢
  exact⟨⟨h0 k0,h.1.2⟩,h.2⟩
 ·have hz:=h1 k0
  subst hz
  rw [if_neg k0] at h ⊢
  split at h
  ·rename_i k1; rw [if_pos k1]; simpa using h
  ·rename_i k1; rw [if_neg k1]
   split at h
   ·rename_i k2; rw [if_pos k2]; simpa using h
   ·rename_i k2; rw [if_neg k2]
    split at h
    ·rename_i k3; rw [if_pos k3]
     simp only [abA,decide_eq_true_eq,abW,abL,abZ] at h ⊢
     refine⟨h.1,?_⟩
     rintro x ⟨a,ha,rfl⟩
     exact hf a ha
    ·rename_i k3; rw [if_neg k3]
     split at h
     ·rename_i k4; rw [if_pos k4]; simpa using h
     ·cases h
theorem JA {n:ah}{size tg:Int}(h:fu n size=true)(hs:size≤tg):fu n tg=true:=by
 have:=sE (tg:=tg) (z:=n.int) h id (fun a ha=>by have:=(jv h).2 a ha; simp only [id]; omega) (fun k=>by
  unfold fu at h; rw [if_pos k] at h; simp only [abA,decide_eq_true_eq] at h; exact h.1.1) (fun _=>rfl)
 rwa [List.map_id] at this
section
variable {m:Nat}{s:aj}
theorem Inv2.more (v:Inv2 s)(V:List ah)(hW:∀(i:Nat) x,V[i]? = some x→fu x ((s.ae.length+V.length:Nat):Int)=true∧(x.kind=0→x.int=((s.ae.length+i:Nat):Int)))(hl:s.ae.length+V.length≤8000) :
  Inv2 ⟨s.aF,s.ae++V,s.aB++ga s.ae.length V.length⟩∧VM s ⟨s.aF,s.ae++V,s.aB++ga s.ae.length V.length⟩:=by
 have hlen:=v.inv.len
 have hV:∀x∈V,x.args.length≤8∧∀a∈x.args,Rg (s.ae.length+V.length) a:=fun x hx=>by
  obtain⟨i,hi⟩:=acG hx
  obtain⟨T,ha⟩:=jv (hW i x hi).1
  exact⟨T.args,fun a h=>by have:=ha a h; unfold Rg; omega⟩
 obtain⟨g1,g2,g3⟩:=Dt v.inv.ok V.length
 rw [hlen] at g1 g2 g3
 have hN:(s.ae++V).length=s.ae.length+V.length:=abQ
 have hc:∀n,Rg (s.ae++V).length n→Rg s.ae.length n∨((s.ae.length:Int)≤n∧n<s.ae.length+V.length):=fun n h=>by
  rw [hN] at h; unfold Rg at h ⊢; omega
 have up:∀n,Rg s.ae.length n→Rg (s.ae++V).length n:=fun n h=>by rw [hN]; unfold Rg at h ⊢; omega
 have old:∀n,Rg s.ae.length n→rp (s.aB++ga s.ae.length V.length) n=rp s.aB n:=g2
 have new:∀n:Int,(s.ae.length:Int)≤n→n<s.ae.length+V.length→rp (s.aB++ga s.ae.length V.length) n=n:=g3
 refine⟨⟨⟨v.inv.made,?_,by show (s.ae++V).length≤8000; omega,g1,⟨fun n h=>?_,fun n h=>?_,fun n h=>?_⟩,?_⟩,?_,?_⟩,?_,fun n h hv=>?_,fun n h=>ni h,fun x y hx hy h=>?_⟩
 ·show (_++_:List Int).length=_
  rw [abQ,lF,hN,hlen]
 ·show Rg _ (rp (s.aB++ga s.ae.length V.length) n)
  rcases hc n h with h | ⟨h1,h2⟩
  ·rw [old n h]; exact up _ (v.inv.cn.rg n h)
  ·rw [new n h1 h2]; exact h
 ·show rp (s.aB++_) (rp (s.aB++ga s.ae.length V.length) n)=rp (s.aB++_) n
  rcases hc n h with h | ⟨h1,h2⟩
  ·rw [old n h,old _ (v.inv.cn.rg n h),v.inv.cn.id n h]
  ·rw [new n h1 h2,new n h1 h2]
 ·show Bt (s.ae++V) (rp (s.aB++ga s.ae.length V.length) n) n
  rcases hc n h with h | ⟨h1,h2⟩
  ·rw [old n h]
   have:=v.inv.cn.bt n h
   unfold Bt sy at this ⊢
   rw [ni h,ni (v.inv.cn.rg n h)]; exact this
  ·rw [new n h1 h2]; exact Bt.refl
 ·intro x hx
  rcases abP.1 hx with hx | hx
  ·obtain⟨a1,a2⟩:=v.inv.args x hx
   exact⟨a1,fun a ha=>up a (a2 a ha)⟩
  ·obtain⟨a1,a2⟩:=hV x hx
   exact⟨a1,fun a ha=>by show Rg (s.ae++V).length a; rw [hN]; exact a2 a ha⟩
 ·intro x y hx hy he vx vy
  have he:rp (s.aB++ga s.ae.length V.length) x=rp (s.aB++ga s.ae.length V.length) y:=he
  rcases hc x hx with hx1 | ⟨x1,x2⟩<;>rcases hc y hy with Pz | ⟨y1,y2⟩
  ·rw [old x hx1,old y Pz] at he
   have wx:gI (s.ae++V) x=gI s.ae x:=ni hx1
   have wy:gI (s.ae++V) y=gI s.ae y:=ni Pz
   have vx':sy s.ae x:=by unfold sy at vx ⊢; rw [←wx]; exact vx
   have vy':sy s.ae y:=by unfold sy at vy ⊢; rw [←wy]; exact vy
   obtain⟨t,q⟩:=v.cl x y hx1 Pz he vx' vy'
   show oX (gI (s.ae++V) x) (gI (s.ae++V) y)∧∀(i:Nat) (a b:Int),(gI (s.ae++V) x).args[i]? = some a→(gI (s.ae++V) y).args[i]? = some b→rp (s.aB++ga s.ae.length V.length) a=rp (s.aB++ga s.ae.length V.length) b
   rw [wx,wy]
   refine⟨t,fun i a b ha hb=>?_⟩
   rw [old a ((v.inv.args _ (jK hx1)).2 a (abJ ha)),old b ((v.inv.args _ (jK Pz)).2 b (abJ hb))]
   exact q i a b ha hb
  ·rw [old x hx1,new y y1 y2] at he
   have:=(v.inv.cn.rg x hx1).2
   omega
  ·rw [old y Pz,new x x1 x2] at he
   have:=(v.inv.cn.rg y Pz).2
   omega
  ·rw [new x x1 x2,new y y1 y2] at he
   subst he
   refine⟨oX.refl _,fun i a b ha hb=>?_⟩
   rw [ha] at hb; cases hb; rfl
 ·intro n h
  show fu (gI (s.ae++V) n) ((s.ae++V).length:Int)=true∧((gI (s.ae++V) n).kind=0→(gI (s.ae++V) n).int=n)
  rcases hc n h with h3 | ⟨h1,h2⟩
  ·rw [ni h3,hN]
   exact⟨JA (v.vn n h3).1 (by omega),(v.vn n h3).2⟩
  ·have hg:=zB h
   obtain⟨i,rfl⟩:∃i:Nat,n=((s.ae.length+i:Nat):Int):=⟨(n - s.ae.length).toNat,by omega⟩
   have hg:(s.ae++V)[s.ae.length+i]? = some (gI (s.ae++V) ((s.ae.length+i:Nat):Int)):=hg
   rw [abN (by omega),acw] at hg
   rw [hN]
   exact hW i _ hg
 ·show s.ae.length≤(s.ae++V).length
  omega
 ·show oX _ (gI (s.ae++V) (rp (s.aB++ga s.ae.length V.length) n))
  rw [old n h,ni (v.inv.cn.rg n h)]
  exact oX.refl _
 ·show rp (s.aB++ga s.ae.length V.length) x=rp (s.aB++ga s.ae.length V.length) y
  rw [old x hx,old y hy]; exact h
end
end Go.Proofs.YtifafejidnjckaaGreat
namespace Go.Proofs.YtifafejidnjckaaGreat
open Go Go.R Go.Uf
open Go.IntKind (i64 u64 u8 u32)
end Go.Proofs.YtifafejidnjckaaGreat
namespace Go.Proofs.YtifafejidnjckaaGreat
open Go Go.R Go.Uf
open Go.IntKind (i64 u64 u8 u32)
section
variable {m:Nat}{s:aj}
theorem LM:Inv2 ⟨true,[],[]⟩:=by
 have no:∀(P:Int→Prop) (n:Int),Rg ([]:List ah).length n→P n:=fun P n h=>by have:=h.1; have:=h.2; simp at this; omega
 exact⟨⟨rfl,rfl,by simp,EW,⟨fun n h=>no _ n h,fun n h=>no _ n h,fun n h=>no _ n h⟩,fun v h=>by simp at h⟩,fun x y hx=>(no (fun _=>False) x hx).elim,fun n h=>(no (fun _=>False) n h).elim⟩
def JB (s:aj):List Int:=(acX s.ae.length).map fun (i:Nat)=>rp s.aB (i:Int)
theorem E7 (a:List Int)(hl:a.length<2 ^ 63):∀(k i:Nat),i≤a.length→a.length - i<k→cR.l0 m a a k (i:Int)=some (.inr (a.length:Int))
 | 0,i,h1,h2=>by omega
 | k+1,i,h1,h2=>by
  have p50:(2:Nat) ^ 63=9223372036854775808:=by decide
  simp only [cR.l0]
  by_cases hi:i<a.length
  ·have d:decide ((i:Int)<(a.length:Int))=true:=by rw [decide_eq_true_eq]; omega
   have ew:i64.wrap ((i:Int)+1)=((i+1:Nat):Int):=by rw [lj (by omega) (by omega)]; omega
   rw [if_pos d,xU (abD hi)]
   simp only [abw,ew,BEq.rfl,acO,abK,if_false]
   exact E7 a hl k (i+1) (by omega) (by omega)
  ·have d:decide ((i:Int)<(a.length:Int))=false:=by rw [decide_eq_false_iff_not]; omega
   have e:i=a.length:=by omega
   rw [if_neg (by rw [d]; decide),e]
theorem yb (a:List Int)(hl:a.length<2 ^ 63)(hm:2 ^ 63≤m):cR.f m a a=some true:=by
 have p50:(2:Nat) ^ 63=9223372036854775808:=by decide
 have p51:(2:Nat) ^ 63=9223372036854775808:=by decide
 have:=E7 (m:=m) a hl m 0 (aco _) (by omega)
 have this:cR.l0 m a a m 0=_:=this
 simp only [cR.f,BEq.rfl,acO,abK,if_false,this,abw]
theorem ON (v:Inv s):eK.f m s=some (s.ae.length:Int):=by
 simp only [eK.f,dL.f,v.made,abw,acO,abK,if_false]
end
end Go.Proofs.YtifafejidnjckaaGreat
namespace Go.Proofs.YtifafejidnjckaaGreat
open Go Go.R Go.Uf
open Go.IntKind (i64 u64 u8 u32)
section
variable {m:Nat}{s:aj}
theorem ui {n:Int}(h:Rg s.ae.length n):ix (JB s) n=some (rp s.aB n):=by
 have hl:n.toNat<s.ae.length:=by have:=h.1; have:=h.2; omega
 have hn:((n.toNat:Nat):Int)=n:=by have:=h.1; omega
 unfold ix JB
 rw [if_pos h.1,ab1,List.getElem?_range hl,abE,hn]
end
end Go.Proofs.YtifafejidnjckaaGreat
namespace Go.Proofs.YtifafejidnjckaaGreat
open Go Go.R Go.Uf
open Go.IntKind (i64 u64 u8 u32)
section
variable {m:Nat}{s:aj}
theorem BH (hm:16000≤m)(v:Inv s){l:List Int}(h8:l.length≤8)(hr:∀a∈l,Rg s.ae.length a):∀(k i:Nat),i≤l.length→l.length - i<k→bq.l0 m s l k ((l.take i).map (rp s.aB)++l.drop i) (i:Int)=some (l.map (rp s.aB),(l.length:Int))
 | 0,i,h1,h2=>by omega
 | k+1,i,h1,h2=>by
  simp only [bq.l0]
  by_cases hi:i<l.length
  ·have d:decide ((i:Int)<(l.length:Int))=true:=by rw [decide_eq_true_eq]; omega
   have hl:((l.take i).map (rp s.aB)).length=i:=by rw [abL,acm]; omega
   have ed:l.drop i=l[i]::l.drop (i+1):=abT hi
   have et:l.take (i+1)=l.take i++[l[i]]:=ab2 hi
   have eg:((l.take i).map (rp s.aB)++l.drop i)[i]? = some l[i]:=by
    rw [abN (by omega),hl,acE,ed]; rfl
   have es:((l.take i).map (rp s.aB)++l.drop i).set i (rp s.aB l[i])=(l.take (i+1)).map (rp s.aB)++l.drop (i+1):=by
    rw [acM _ _ (by omega),hl,acE,ed,et,abV,abX]; rfl
   have ew:i64.wrap ((i:Int)+1)=((i+1:Nat):Int):=by rw [lj (by omega) (by omega)]; omega
   rw [if_pos d,xU eg]
   simp only [abw,Bp hm v (hr _ (List.getElem_mem hi)),ew,abC,es]
   exact BH hm v h8 hr k (i+1) (by omega) (by omega)
  ·have d:decide ((i:Int)<(l.length:Int))=false:=by rw [decide_eq_false_iff_not]; omega
   have e:i=l.length:=by omega
   rw [if_neg (by rw [d]; decide),e]
   simp
def k9 (s:aj)(r:Int):ah:=⟨(gI s.ae r).kind,(gI s.ae r).int,(gI s.ae r).label,(gI s.ae r).args.map (rp s.aB)⟩
theorem E8 (hm:16000≤m)(v:Inv s){n:Int}(h:Rg s.ae.length n):bq.f m s n=some (k9 s n):=by
 obtain⟨a1,a2⟩:=v.args _ (jK h)
 have hc:J7 1 (gI s.ae n).args=some (gI s.ae n).args:=by unfold J7; rw [if_pos (by omega)]
 have:=BH (m:=m) hm v a1 a2 m 0 (aco _) (by omega)
 have this:bq.l0 m s (gI s.ae n).args m (gI s.ae n).args 0=_:=this
 simp only [bq.f,vT h,abw,hc,this]
 rfl
theorem LN (hm:2000000≤m)(v:Inv s)(n:Int):ef.f m s n=some (if Rg s.ae.length n then (k9 s (rp s.aB n),0) else (⟨0,0,⟨#[]⟩,[]⟩,1)):=by
 unfold ef.f
 rw [rf hm v.made [n] (by simp)]
 by_cases h:Rg s.ae.length n
 ·simp [h,Bp (m:=m) (by omega) v h,E8 (m:=m) (by omega) v (v.cn.rg n h)]
 ·simp [h]
end
end Go.Proofs.YtifafejidnjckaaGreat
namespace Go.Uf
open Go Go.R
open Go.IntKind (i64 u64 u8 u32)
theorem E9 (l:List (Int × Bool))(k x:Int)(v:Bool):(wR (Cb l k v) x).1=if x=k then v else (wR l x).1:=by
 induction l with
 | nil=>
  simp only [Cb,wR]
  split<;>rfl
 | cons p l ih=>
  obtain⟨a,b⟩:=p
  simp only [Cb]
  by_cases h:k=a
  ·subst h
   rw [if_pos rfl]
   simp only [wR]
   by_cases hx:x=k
   ·rw [if_pos hx,if_pos hx]
   ·rw [if_neg hx,if_neg hx,if_neg hx]
  ·rw [if_neg h]
   simp only [wR]
   by_cases hx:x=a
   ·rw [if_pos hx,if_pos hx]
    have:¬x=k:=by omega
    rw [if_neg this]
   ·rw [if_neg hx,if_neg hx,ih]
theorem LO (l:List (Int × Int))(k x:Int)(v:Int):(nn (zU l k v) x).1=if x=k then v else (nn l x).1:=by
 induction l with
 | nil=>
  simp only [zU,nn]
  split<;>rfl
 | cons p l ih=>
  obtain⟨a,b⟩:=p
  simp only [zU]
  by_cases h:k=a
  ·subst h
   rw [if_pos rfl]
   simp only [nn]
   by_cases hx:x=k
   ·rw [if_pos hx,if_pos hx]
   ·rw [if_neg hx,if_neg hx,if_neg hx]
  ·rw [if_neg h]
   simp only [nn]
   by_cases hx:x=a
   ·rw [if_pos hx,if_pos hx]
    have:¬x=k:=by omega
    rw [if_neg this]
   ·rw [if_neg hx,if_neg hx,ih]
end Go.Uf
namespace Go.Proofs.YtifafejidnjckaaGreat
open Go Go.R Go.Uf
open Go.IntKind (i64 u64 u8 u32)
inductive LP (N:List ah)(R:Int→Int)(r:Int):Int→Prop
 | refl:LP N R r r
 | step {x a:Int}:LP N R r x→a∈(gI N x).args→LP N R r (R a)
def SI (out:List Int)(seen:List (Int × Bool)):Prop:=∀x,(wR seen x).1=true↔x∈out
structure RI (s:aj)(r:Int)(out:List Int):Prop where
 nd:out.Nodup
 rt:∀x∈out,Rg s.ae.length x∧rp s.aB x=x∧LP s.ae (rp s.aB) r x
 hd:out[0]? = some r
section
variable {m:Nat}{s:aj}{r:Int}
theorem RI.xZ {out:List Int}(h:RI s r out):out.length≤s.ae.length:=k8 h.nd fun x hx=>(h.rt x hx).1
theorem wo (hm:16000≤m)(v:Inv s){y:Int}(hy:Rg s.ae.length y)(hr:LP s.ae (rp s.aB) r y):∀(k i:Nat) (out:List Int) (seen:List (Int × Bool)),i≤(gI s.ae y).args.length→(gI s.ae y).args.length - i<k→SI out seen→RI s r out→(∀j a,j<i→(gI s.ae y).args[j]? = some a→rp s.aB a∈out)→
  ∃nH yc,aM.l1 m s (gI s.ae y) k out seen (i:Int)=some (nH,yc,((gI s.ae y).args.length:Int))∧SI nH yc∧RI s r nH∧(∃t,nH=out++t)∧∀a∈(gI s.ae y).args,rp s.aB a∈nH
 | 0,i,out,seen,h1,h2,_,_,_=>by omega
 | k+1,i,out,seen,h1,h2,hs,hi,hj=>by
  simp only [aM.l1]
  obtain⟨n8,nR⟩:=v.args _ (jK hy)
  by_cases hlt:i<(gI s.ae y).args.length
  ·have d:decide ((i:Int)<((gI s.ae y).args.length:Int))=true:=by rw [decide_eq_true_eq]; omega
   have eg:=abD hlt
   generalize (gI s.ae y).args[i]=a at eg
   have XR:=abJ eg
   have ha:=nR a XR
   have ew:i64.wrap ((i:Int)+1)=((i+1:Nat):Int):=by rw [lj (by omega) (by omega)]; omega
   rw [if_pos d,xU eg]
   simp only [abw,ew,Bp (m:=m) (by omega) v ha]
   cases hq:(wR seen (rp s.aB a)).1 with
   | true=>
    rw [if_neg (by simp)]
    have hin:=(hs _).1 hq
    exact wo hm v hy hr k (i+1) out seen (by omega) (by omega) hs hi (fun j b VN hb=>by
     by_cases e:j<i
     ·exact hj j b e hb
     ·have:j=i:=by omega
      subst this
      rw [eg] at hb; cases hb; exact hin)
   | false=>
    have VO:rp s.aB a∉out:=fun h=>by rw [(hs _).2 h] at hq; cases hq
    have hf:=hi.xZ
    have h8:=v.max
    rw [if_pos (by simp),vU (by simp only [abR,ab4]; omega),abw]
    have ku:RI s r (out++[rp s.aB a]):=by
     refine⟨?_,fun x hx=>?_,?_⟩
     ·rw [acB]
      refine⟨hi.nd,by simp,fun x hx z hz=>?_⟩
      simp only [abI] at hz
      subst hz
      intro e
      subst e
      exact VO hx
     ·rcases abP.1 hx with hx | hx
      ·exact hi.rt x hx
      ·simp only [abI] at hx
       subst hx
       exact⟨v.cn.rg a ha,v.cn.id a ha,.step hr XR⟩
     ·have h0:=hi.hd
      have:=(abG.1 h0).1
      rw [abS (by omega)]; exact h0
    have Md:SI (out++[rp s.aB a]) (Cb seen (rp s.aB a) true):=by
     intro x
     rw [E9,abP,abI]
     by_cases e:x=rp s.aB a
     ·simp [e]
     ·rw [if_neg e,hs x]; simp [e]
    obtain⟨nH,yc,e1,e2,e3,⟨t,e4⟩,e5⟩:=wo hm v hy hr k (i+1) _ _ (by omega) (by omega) Md ku (fun j b VN hb=>by
     by_cases e:j<i
     ·exact ab6 _ (hj j b e hb)
     ·have:j=i:=by omega
      subst this
      rw [eg] at hb; cases hb; exact List.mem_append_right _ (by simp))
    exact⟨nH,yc,e1,e2,e3,⟨_,by rw [e4,abX]⟩,e5⟩
  ·have d:decide ((i:Int)<((gI s.ae y).args.length:Int))=false:=by rw [decide_eq_false_iff_not]; omega
   have e:i=(gI s.ae y).args.length:=by omega
   subst e
   rw [if_neg (by rw [d]; decide)]
   refine⟨out,seen,rfl,hs,hi,⟨[],by simp⟩,fun a ha=>?_⟩
   obtain⟨j,Se⟩:=acG ha
   exact hj j a (abG.1 Se).1 Se
theorem BI (hm:16000≤m)(v:Inv s):∀(k i:Nat) (out:List Int) (seen:List (Int × Bool)),i≤out.length→s.ae.length - i<k→SI out seen→RI s r out→(∀j x,j<i→out[j]? = some x→∀a∈(gI s.ae x).args,rp s.aB a∈out)→
  ∃nH z w,aM.l0 m s k out seen (i:Int)=some (nH,z,w)∧RI s r nH∧∀x∈nH,∀a∈(gI s.ae x).args,rp s.aB a∈nH
 | 0,i,out,seen,h1,h2,_,_,_=>by omega
 | k+1,i,out,seen,h1,h2,hs,hi,hj=>by
  simp only [aM.l0]
  have hf:=hi.xZ
  have h8:=v.max
  by_cases hlt:i<out.length
  ·have d:decide ((i:Int)<(out.length:Int))=true:=by rw [decide_eq_true_eq]; omega
   have eg:=abD hlt
   generalize out[i]=y at eg
   obtain⟨y1,y2,y3⟩:=hi.rt y (abJ eg)
   have ew:i64.wrap ((i:Int)+1)=((i+1:Nat):Int):=by rw [lj (by omega) (by omega)]; omega
   have n8:=(v.args _ (jK y1)).1
   obtain⟨nH,yc,e1,e2,e3,⟨t,e4⟩,e5⟩:=wo (m:=m) hm v y1 y3 m 0 out seen (aco _) (by omega) hs hi (fun j a h=>by omega)
   have e1:aM.l1 m s (gI s.ae y) m out seen 0=_:=e1
   rw [if_pos d,xU eg,abw,vT y1,abw,e1,abw]
   simp only [ew]
   refine BI hm v k (i+1) nH yc ?_ (by omega) e2 e3 (fun j x VN hx a ha=>?_)
   ·rw [e4,abQ]; omega
   ·rw [e4,abS (by omega)] at hx
    by_cases e:j<i
    ·rw [e4]; exact ab6 _ (hj j x e hx a ha)
    ·have:j=i:=by omega
     subst this
     rw [eg] at hx; cases hx
     exact e5 a ha
  ·have d:decide ((i:Int)<(out.length:Int))=false:=by rw [decide_eq_false_iff_not]; omega
   rw [if_neg (by rw [d]; decide)]
   refine⟨out,_,_,rfl,hi,fun x hx a ha=>?_⟩
   obtain⟨j,Se⟩:=acG hx
   exact hj j x (by have:=(abG.1 Se).1; omega) Se a ha
structure Reach (s:aj)(r:Int)(l:List Int):Prop extends RI s r l where
 cl:∀x∈l,∀a∈(gI s.ae x).args,rp s.aB a∈l
theorem Fa (hm:16000≤m)(v:Inv s){n:Int}(h:Rg s.ae.length n):∃l,aM.f m s n=some l∧Reach s (rp s.aB n) l:=by
 have h8:=v.max
 unfold aM.f
 rw [Bp hm v h,abw]
 have e0:ix [rp s.aB n] (0:Int)=some (rp s.aB n):=rfl
 rw [e0,abw]
 obtain⟨l,z,w,e1,e2,e3⟩:=BI (m:=m) (r:=rp s.aB n) hm v m 0 [rp s.aB n] (Cb [] (rp s.aB n) true) (aco _) (by omega)
  (fun x=>by rw [E9,abI]; by_cases e:x=rp s.aB n<;>simp [e,wR])
  ⟨by simp,fun x hx=>by simp only [abI] at hx; subst hx; exact⟨v.cn.rg n h,v.cn.id n h,.refl⟩,rfl⟩ (fun j x h=>by omega)
 have e1:aM.l0 m s m [rp s.aB n] (Cb [] (rp s.aB n) true) 0=_:=e1
 rw [e1,abw]
 exact⟨l,rfl,e2,e3⟩
end
end Go.Proofs.YtifafejidnjckaaGreat
namespace Go.Proofs.YtifafejidnjckaaGreat
open Go Go.R Go.Uf
open Go.IntKind (i64 u64 u8 u32)
def tP (l:List Int)(x:Int):Int:=((l.idxOf x:Nat):Int)
theorem mw {l:List Int}{x:Int}(h:x∈l):l[(tP l x).toNat]? = some x:=by
 have:=acs h
 unfold tP
 rw [abC,abD this,List.getElem_idxOf]
theorem rq {l:List Int}{x:Int}(h:x∈l):0≤tP l x∧tP l x<l.length:=by
 have:=acs h
 unfold tP; omega
theorem uj {l:List Int}(hn:l.Nodup){x:Int}{j:Nat}(h:l[j]? = some x):tP l x=j:=by
 have hm:=abJ h
 have h1:=acs hm
 obtain⟨h2,h3⟩:=abG.1 h
 unfold tP
 congr 1
 exact (List.getElem_inj hn (h₀:=h1) (h₁:=h2)).1 (by rw [List.getElem_idxOf,h3])
def PI (place:List (Int × Int))(l:List Int)(i:Nat):Prop:=∀(j:Nat) x,j<i→l[j]? = some x→(nn place x).1=j
def th (s:aj)(l:List Int)(r:Int):ah:=⟨(gI s.ae r).kind,(gI s.ae r).int,(gI s.ae r).label,(gI s.ae r).args.map fun a=>tP l (rp s.aB a)⟩
def TN (s:aj)(l:List Int):List ah:=l.map (th s l)
section
variable {m:Nat}{s:aj}{r:Int}
theorem Fb {l:List Int}(hn:l.Nodup)(h8:l.length≤8000):∀(k i:Nat) (place:List (Int × Int)),i≤l.length→l.length - i<k→PI place l i→∃sF,aD.l0 m l k place (i:Int)=some (sF,(l.length:Int))∧PI sF l l.length
 | 0,i,place,h1,h2,_=>by omega
 | k+1,i,place,h1,h2,hp=>by
  simp only [aD.l0]
  by_cases hlt:i<l.length
  ·have d:decide ((i:Int)<(l.length:Int))=true:=by rw [decide_eq_true_eq]; omega
   have eg:=abD hlt
   generalize l[i]=y at eg
   have ew:i64.wrap ((i:Int)+1)=((i+1:Nat):Int):=by rw [lj (by omega) (by omega)]; omega
   rw [if_pos d,xU eg,abw,ew]
   refine Fb hn h8 k (i+1) _ (by omega) (by omega) fun j x hj hx=>?_
   rw [LO]
   by_cases e:j<i
   ·have:¬x=y:=fun e2=>by
     subst e2
     have a1:=uj hn hx
     have a2:=uj hn eg
     omega
    rw [if_neg this]
    exact hp j x e hx
   ·have:j=i:=by omega
    subst this
    rw [eg] at hx; cases hx
    rw [if_pos rfl]
  ·have d:decide ((i:Int)<(l.length:Int))=false:=by rw [decide_eq_false_iff_not]; omega
   have e:i=l.length:=by omega
   rw [if_neg (by rw [d]; decide),e]
   exact⟨place,rfl,by rw [←e]; exact hp⟩
theorem Fc (place:List (Int × Int))(v:ah)(h8:v.args.length≤8):∀(k i:Nat),i≤v.args.length→v.args.length - i<k→
  aD.l2 m place v k ((v.args.take i).map (fun a=>(nn place a).1)++v.args.drop i) (i:Int)=some (v.args.map (fun a=>(nn place a).1),(v.args.length:Int))
 | 0,i,h1,h2=>by omega
 | k+1,i,h1,h2=>by
  simp only [aD.l2]
  by_cases hi:i<v.args.length
  ·have d:decide ((i:Int)<(v.args.length:Int))=true:=by rw [decide_eq_true_eq]; omega
   have hl:((v.args.take i).map (fun a=>(nn place a).1)).length=i:=by rw [abL,acm]; omega
   have ed:v.args.drop i=v.args[i]::v.args.drop (i+1):=abT hi
   have et:v.args.take (i+1)=v.args.take i++[v.args[i]]:=ab2 hi
   have eg:((v.args.take i).map (fun a=>(nn place a).1)++v.args.drop i)[i]? = some v.args[i]:=by
    rw [abN (by omega),hl,acE,ed]; rfl
   have es:((v.args.take i).map (fun a=>(nn place a).1)++v.args.drop i).set i ((nn place v.args[i]).1)=(v.args.take (i+1)).map (fun a=>(nn place a).1)++v.args.drop (i+1):=by
    rw [acM _ _ (by omega),hl,acE,ed,et,abV,abX]; rfl
   have ew:i64.wrap ((i:Int)+1)=((i+1:Nat):Int):=by rw [lj (by omega) (by omega)]; omega
   rw [if_pos d,xU eg]
   simp only [abw,ew,abC,es]
   exact Fc place v h8 k (i+1) (by omega) (by omega)
  ·have d:decide ((i:Int)<(v.args.length:Int))=false:=by rw [decide_eq_false_iff_not]; omega
   have e:i=v.args.length:=by omega
   rw [if_neg (by rw [d]; decide),e]
   simp
theorem Fe (hm:16000≤m)(v:Inv s){l:List Int}(h:Reach s r l){place:List (Int × Int)}(hp:PI place l l.length):∀(k i:Nat),i≤l.length→l.length - i<k→
  aD.l1 m s l place k (i:Int) ((l.take i).map (th s l)) 0=some ((l.length:Int),TN s l,0)
 | 0,i,h1,h2=>by omega
 | k+1,i,h1,h2=>by
  simp only [aD.l1]
  have hf:=h.xZ
  have h8:=v.max
  by_cases hi:i<l.length
  ·have d:decide ((i:Int)<(l.length:Int))=true:=by rw [decide_eq_true_eq]; omega
   have eg:=abD hi
   have et:l.take (i+1)=l.take i++[l[i]]:=ab2 hi
   generalize l[i]=y at eg et
   have hy:=abJ eg
   obtain⟨y1,y2,_⟩:=h.rt y hy
   have ew:i64.wrap ((i:Int)+1)=((i+1:Nat):Int):=by rw [lj (by omega) (by omega)]; omega
   have n8:=(v.args _ (jK y1)).1
   have ea:(k9 s y).args.map (fun a=>(nn place a).1)=(gI s.ae y).args.map fun a=>tP l (rp s.aB a):=by
    show ((gI s.ae y).args.map _).map _=_
    rw [List.map_map]
    apply acA
    intro a ha
    have hin:=h.cl y hy a ha
    have h0:=mw hin
    have h1:=rq hin
    show (nn place (rp s.aB a)).1=_
    rw [hp _ _ (by omega) h0]
    omega
   have hl:(k9 s y).args.length≤8:=by show (List.map _ _).length≤8; rw [abL]; exact n8
   have e2:=Fc (m:=m) place (k9 s y) hl m 0 (aco _) (by omega)
   have e2:aD.l2 m place (k9 s y) m (k9 s y).args 0=_:=e2
   rw [if_pos d,xU eg,abw,E8 hm v y1,abw,e2,abw]
   simp only [ew]
   rw [vU (by simp only [abL,acm,abR,ab4]; omega),abw]
   have:=Fe hm v h hp k (i+1) (by omega) (by omega)
   rw [et,abV] at this
   rw [ea]
   exact this
  ·have d:decide ((i:Int)<(l.length:Int))=false:=by rw [decide_eq_false_iff_not]; omega
   have e:i=l.length:=by omega
   rw [if_neg (by rw [d]; decide),e,ace]
   rfl
theorem BJ (v:Inv2 s){l:List Int}(h:Reach s r l):fM ⟨TN s l,0⟩=true:=by
 have hf:=h.xZ
 have h8:=v.inv.max
 have h0:=(abG.1 h.hd).1
 have hl:(TN s l).length=l.length:=abL ..
 unfold fM
 simp only [abA,decide_eq_true_eq,abW]
 refine⟨⟨⟨⟨by omega,by omega⟩,by omega⟩,by omega⟩,fun n hn=>?_⟩
 obtain⟨y,hy,rfl⟩:=abZ.1 hn
 obtain⟨y1,y2,_⟩:=h.rt y hy
 obtain⟨k1,k2⟩:=v.vn y y1
 exact sE k1 _ (fun a ha=>by rw [hl]; exact rq (h.cl y hy a ha)) (fun hk=>by rw [k2 hk]; exact y1.1) (fun _=>rfl)
theorem OO (hm:2 ^ 41≤m)(v:Inv2 s){n:Int}(h:Rg s.ae.length n):∃l z,Reach s (rp s.aB n) l∧fM ⟨TN s l,0⟩=true∧eF.f m ⟨TN s l,0⟩=some z∧aD.f m s n=some (z,0)∧fM z=true:=by
 have wZ:(2:Nat) ^ 41=2199023255552:=by decide
 obtain⟨l,e1,R⟩:=Fa (m:=m) (by omega) v.inv h
 have hf:=R.xZ
 have h8:=v.inv.max
 have hV:=BJ v R
 obtain⟨z,_,e4,hz,_⟩:=Gu hm hV
 obtain⟨place,e2,hp⟩:=Fb (m:=m) R.nd (by omega) m 0 [] (aco _) (by omega) (fun j x hj=>by omega)
 have e2:aD.l0 m l m [] 0=_:=e2
 have e3:=Fe (m:=m) (by omega) v.inv R hp m 0 (aco _) (by omega)
 have e3:aD.l1 m s l place m 0 [] 0=_:=e3
 refine⟨l,z,R,hV,e4,?_,hz⟩
 unfold aD.f
 rw [rf (by omega) v.inv.made [n] (by simp),show ([n].all fun n=>decide (Rg s.ae.length n))=true by simp [h],if_pos rfl,abw,if_neg (by decide),e1,abw,e2,abw]
 simp only []
 rw [e3,abw]
 simp only []
 unfold gD.f
 rw [nf (by omega),hV,abw,if_neg (by decide),e4]
 rfl
theorem JC (hm:2 ^ 41≤m)(v:Inv2 s){n:Int}(h:¬Rg s.ae.length n):aD.f m s n=some (⟨[],0⟩,1):=by
 have wZ:(2:Nat) ^ 41=2199023255552:=by decide
 unfold aD.f
 rw [rf (by omega) v.inv.made [n] (by simp),show ([n].all fun n=>decide (Rg s.ae.length n))=false by simp [h]]
 rfl
end
end Go.Proofs.YtifafejidnjckaaGreat
namespace Go.Proofs.YtifafejidnjckaaGreat
open Go Go.R Go.Uf
open Go.IntKind (i64 u64 u8 u32)
section
variable {m:Nat}
def Eqv (t u:aZ):Prop:=∃R,Dr t.nodes u.nodes R∧R t.root u.root
end
end Go.Proofs.YtifafejidnjckaaGreat
namespace Go.Proofs.YtifafejidnjckaaGreat
open Go Go.R Go.Uf
open Go.IntKind (i64 u64 u8 u32)
structure VP (s:aj)(Q:Int→Int→Prop):Prop where
 oY:∀u v,Q u v→(Rg s.ae.length u∧rp s.aB u=u)∧Rg s.ae.length v∧rp s.aB v=v
 top:∀u v,Q u v→oX (gI s.ae u) (gI s.ae v)
 arg:∀u v,Q u v→∀(i:Nat) a b,(gI s.ae u).args[i]? = some a→(gI s.ae v).args[i]? = some b→Q (rp s.aB a) (rp s.aB b)
def Sb (s:aj)(u v:Int):Prop:=∃Q,VP s Q∧Q u v
theorem Du {a b:ah}(h:oX a b):Alike a b:=⟨h.1,h.2.1,zG h.2.2.1,h.2.2.2⟩
theorem Alike.VQ {a b:ah}(h:Alike a b):oX a b:=⟨h.1,h.2,by rw [h.3],h.4⟩
section
variable {s:aj}{u v w:Int}
theorem Sb.refl (v:Inv s){u:Int}(hu:Rg s.ae.length u)(hr:rp s.aB u=u):Sb s u u:=
 ⟨fun x y=>x=y∧Rg s.ae.length x∧rp s.aB x=x,⟨fun x y ⟨e,h⟩=>by subst e; exact⟨h,h⟩,fun x y ⟨e,h⟩=>by subst e; exact oX.refl _,fun x y ⟨e,h⟩ i a b ha hb=>by
  subst e
  rw [ha] at hb; cases hb
  have:=(v.args _ (jK h.1)).2 a (abJ ha)
  exact⟨rfl,v.cn.rg a this,v.cn.id a this⟩⟩,rfl,hu,hr⟩
theorem Sb.top (h:Sb s u w):oX (gI s.ae u) (gI s.ae w):=by
 obtain⟨Q,B,q⟩:=h
 exact B.top _ _ q
theorem Sb.arg (h:Sb s u w){i:Nat}{a b:Int}(ha:(gI s.ae u).args[i]? = some a)(hb:(gI s.ae w).args[i]? = some b):Sb s (rp s.aB a) (rp s.aB b):=by
 obtain⟨Q,B,q⟩:=h
 exact⟨Q,B,B.arg _ _ q i a b ha hb⟩
end
end Go.Proofs.YtifafejidnjckaaGreat
namespace Go.Proofs.YtifafejidnjckaaGreat
open Go Go.R Go.Uf
open Go.IntKind (i64 u64 u8 u32)
section
variable {m:Nat}{s:aj}{a b:Int}
theorem rr {l:List Int}{i u:Int}(h:l[i.toNat]? = some u):nd (TN s l) i=th s l u:=by
 unfold nd TN
 rw [abO,ab1,h]
 rfl
theorem Sf {l:List Int}{k:Nat}{x:Int}(h:l[k]? = some x):gt l k=x:=by
 unfold gt
 rw [abO,h]; rfl
theorem JD {l:List Int}{i u:Int}(h0:0≤i)(h:l[i.toNat]? = some u):i<l.length:=by
 have:=(abG.1 h).1
 omega
theorem uk {l:List Int}{u x:Int}{k:Nat}(h:(gI s.ae u).args[k]? = some x):gt (th s l u).args k=tP l (rp s.aB x):=by
 apply Sf
 show ((gI s.ae u).args.map fun a=>tP l (rp s.aB a))[k]? = _
 rw [ab1,h]; rfl
theorem OP {p q:Int}{l1 l2:List Int}(h1:Reach s p l1)(h2:Reach s q l2):Eqv ⟨TN s l1,0⟩ ⟨TN s l2,0⟩↔Sb s p q:=by
 have VS:(TN s l1).length=l1.length:=abL ..
 have VT:(TN s l2).length=l2.length:=abL ..
 constructor
 ·rintro⟨R,B,r⟩
  have B:Dr (TN s l1) (TN s l2) R:=B
  refine⟨fun u w=>∃i j,R i j∧l1[i.toNat]? = some u∧l2[j.toNat]? = some w,⟨?_,?_,?_⟩,0,0,r,h1.hd,h2.hd⟩
  ·rintro u w ⟨i,j,h,g1,g2⟩
   obtain⟨u1,u2,_⟩:=h1.rt u (abJ g1)
   obtain⟨w1,w2,_⟩:=h2.rt w (abJ g2)
   exact⟨⟨u1,u2⟩,w1,w2⟩
  ·rintro u w ⟨i,j,h,g1,g2⟩
   have:=B.top _ _ h
   rw [rr g1,rr g2] at this
   have:=this.VQ
   unfold th oX at this
   simp only [abL] at this
   exact this
  ·rintro u w ⟨i,j,h,g1,g2⟩ k x y hx hy
   have hk:=(abG.1 hx).1
   have:=B.arg _ _ h k (by rw [rr g1]; show k<(List.map _ _).length; rw [abL]; exact hk)
   rw [rr g1,rr g2,uk hx,uk hy] at this
   exact⟨_,_,this,mw (h1.cl u (abJ g1) x (abJ hx)),mw (h2.cl w (abJ g2) y (abJ hy))⟩
 ·intro h
  refine⟨fun i j=>(0≤i∧0≤j)∧∃u w,l1[i.toNat]? = some u∧l2[j.toNat]? = some w∧Sb s u w,⟨?_,?_,?_⟩,⟨Int.le_refl 0,Int.le_refl 0⟩,p,q,h1.hd,h2.hd,h⟩
  ·rintro i j ⟨⟨i0,j0⟩,u,w,g1,g2,_⟩
   show (0≤i∧i<(TN s l1).length)∧0≤j∧j<(TN s l2).length
   rw [VS,VT]
   exact⟨⟨i0,JD i0 g1⟩,j0,JD j0 g2⟩
  ·rintro i j ⟨_,u,w,g1,g2,hb⟩
   show Alike (nd (TN s l1) i) (nd (TN s l2) j)
   rw [rr g1,rr g2]
   apply Du
   have:=hb.top
   unfold th oX
   unfold oX at this
   simp only [abL]
   exact this
  ·rintro i j ⟨_,u,w,g1,g2,hb⟩ k hk
   show (0≤gt (nd (TN s l1) i).args k∧0≤gt (nd (TN s l2) j).args k)∧_
   have hk:k<(nd (TN s l1) i).args.length:=hk
   show _∧∃x y,l1[(gt (nd (TN s l1) i).args k).toNat]? = some x∧l2[(gt (nd (TN s l2) j).args k).toNat]? = some y∧Sb s x y
   rw [rr g1] at hk ⊢
   rw [rr g2]
   have hk:k<(List.map _ (gI s.ae u).args).length:=hk
   rw [abL] at hk
   have hl:=hb.top.2.2.2
   have gx:=abD hk
   have gy:=abD (l:=(gI s.ae w).args) (i:=k) (by omega)
   rw [uk gx,uk gy]
   have m1:=h1.cl u (abJ g1) _ (abJ gx)
   have m2:=h2.cl w (abJ g2) _ (abJ gy)
   exact⟨⟨(rq m1).1,(rq m2).1⟩,_,_,mw m1,mw m2,hb.arg gx gy⟩
theorem wq (hm:2 ^ 63≤m)(x:ah)(h:x.args.length<2 ^ 63):fP.f m x x=some true:=by
 unfold fP.f
 simp only [BEq.rfl,if_true,yb x.args h hm,abw]
end
end Go.Proofs.YtifafejidnjckaaGreat
namespace Go.Proofs.YtifafejidnjckaaGreat
open Go Go.R
open Go.IntKind (i64 u64 u8 u32)
end Go.Proofs.YtifafejidnjckaaGreat
namespace Go.Proofs.YtifafejidnjckaaGreat
open Go Go.R
open Go.IntKind (i64 u64 u8 u32)
end Go.Proofs.YtifafejidnjckaaGreat
namespace Go.Proofs.YtifafejidnjckaaGreat
open Go Go.R
open Go.IntKind (i64 u64 u8 u32)
theorem zM {m:Nat}(c:Int):gz.f m c=some (iN c):=by
 unfold gz.f
 by_cases h1:97≤c<;>by_cases h2:c≤122<;>by_cases h3:65≤c<;>by_cases h4:c≤90<;>by_cases h5:48≤c<;>by_cases h6:c≤57<;>simp [iN,h1,h2,h3,h4,h5,h6]<;>omega
theorem BK {m:Nat}{s:ByteArray}(hs:s.size≤16):∀(f i:Nat),s.size - i<f→i≤s.size→
  ∃o,cX.l0 m s f (i:Int)=some o∧((∃x,o = .inr x)∧((s.data.toList.drop i).all fun c=>iN (c.toNat:Int))=true∨o = .inl false∧((s.data.toList.drop i).all fun c=>iN (c.toNat:Int))=false)
 | 0,i,hf,_=>absurd hf (by omega)
 | f+1,i,hf,hi=>by
  unfold cX.l0
  by_cases h:i<s.size
  ·obtain⟨c,hc,hb⟩:=ug h
   obtain⟨h4,h5⟩:=abG.1 hc
   have hd:s.data.toList.drop i=c::s.data.toList.drop (i+1):=by rw [←h5]; exact abT h4
   rw [if_pos (by simp only [decide_eq_true_eq]; omega),hb,abw,zM,abw,hd,acr]
   cases hl:iN (c.toNat:Int) with
   | false=>exact⟨_,rfl,.inr ⟨rfl,rfl⟩⟩
   | true=>
    obtain⟨o,h1,h2⟩:=BK (m:=m) hs f (i+1) (by omega) (by omega)
    rw [if_neg (by simp),bl (by omega) (by omega),show (i:Int)+1=((i+1:Nat):Int) by omega,h1]
    exact⟨o,rfl,by simpa using h2⟩
  ·refine⟨_,by rw [if_neg (by simp only [decide_eq_true_eq]; omega)],.inl ⟨⟨_,rfl⟩,?_⟩⟩
   rw [acU (by simp; omega)]; rfl
def JE (s:ByteArray):Bool:=decide (1≤s.data.toList.length)&&decide (s.data.toList.length≤16)&&s.data.toList.all fun c=>iN (c.toNat:Int)
theorem Dv {m:Nat}(hm:20≤m)(s:ByteArray):cX.f m s=some (JE s):=by
 have hsz:s.size=s.data.toList.length:=by simp
 unfold cX.f JE
 by_cases h1:1≤s.data.toList.length
 ·by_cases h2:s.data.toList.length≤16
  ·obtain⟨o,k1,k2⟩:=BK (m:=m) (s:=s) (by omega) m 0 (by omega) (by omega)
   have k1:cX.l0 m s m 0=_:=k1
   rw [acn] at k2
   rw [if_neg (by simp only [decide_eq_true_eq]; omega),if_neg (by simp only [decide_eq_true_eq]; omega),k1,abw,decide_eq_true h1,decide_eq_true h2]
   simp only [acH]
   rcases k2 with⟨⟨x,rfl⟩,k⟩| ⟨rfl,k⟩
   ·rw [k]
   ·rw [k]
  ·rw [if_neg (by simp only [decide_eq_true_eq]; omega),if_pos (by simp only [decide_eq_true_eq]; omega),decide_eq_false h2,Bool.and_false]; rfl
 ·rw [if_pos (by simp only [decide_eq_true_eq]; omega),decide_eq_false h1]; rfl
theorem ti {m:Nat}(hm:20≤m)(s:ByteArray):fK.f m s=some (nt s):=by
 have hsz:s.size=s.data.toList.length:=by simp
 unfold fK.f nt
 show (if (s.data.toList==[124])=true then _ else if (s.data.toList==[35])=true then _ else _)=_
 cases h1:s.data.toList==[124] with
 | true=>rfl
 | false=>
  cases h2:s.data.toList==[35] with
  | true=>rfl
  | false=>
   simp only [abK,if_false,Bool.false_or]
   rw [Dv hm,abw]
   unfold JE Bu
   cases hl:s.data.toList with
   | nil=>rfl
   | cons c cs=>
    obtain⟨c',g1,g2⟩:=ug (s:=s) (i:=0) (by rw [hsz,hl]; simp)
    rw [hl] at g1
    simp only [acp,abz] at g1
    subst g1
    have g2:bt s 0=_:=g2
    rw [g2]
    simp only [abw,abR]
    cases ha:(c::cs).all fun c=>iN (c.toNat:Int) with
    | false=>simp
    | true=>
     by_cases h3:cs.length≤15
     ·rw [decide_eq_true (show 1≤cs.length+1 by omega),decide_eq_true (show cs.length+1≤16 by omega),decide_eq_true h3]
      simp only [Bool.and_self,if_true,Bool.and_true,acH]
      by_cases h4:(97:Int)≤(c.toNat:Int)
      ·rw [if_pos (by simpa using h4),decide_eq_true h4]; rfl
      ·rw [if_neg (by simpa using h4),decide_eq_false h4]; rfl
     ·rw [decide_eq_false (show ¬cs.length+1≤16 by omega),decide_eq_false h3]; simp
theorem BL {m:Nat}{n:ah}{size:Int}(h8:n.args.length≤8):∀(f i:Nat),n.args.length - i<f→i≤n.args.length→
  ∃o,cw.l0 m n size f (i:Int)=some o∧((∃x,o = .inr x)∧((n.args.drop i).all fun a=>decide (0≤a)&&decide (a<size))=true∨o = .inl false∧((n.args.drop i).all fun a=>decide (0≤a)&&decide (a<size))=false)
 | 0,i,hf,_=>absurd hf (by omega)
 | f+1,i,hf,hi=>by
  unfold cw.l0
  by_cases h:i<n.args.length
  ·have hd:n.args.drop i=gt n.args i::n.args.drop (i+1):=by
    obtain⟨h4,h5⟩:=abG.1 (bP h)
    rw [←h5]; exact abT h4
   rw [if_pos (by simp only [decide_eq_true_eq]; omega),dv h,abw,hd,acr,abw]
   by_cases h1:gt n.args i<0
   ·rw [if_pos (by simpa using h1),decide_eq_false (show ¬0≤gt n.args i by omega)]
    exact⟨_,rfl,.inr ⟨rfl,rfl⟩⟩
   ·rw [if_neg (by simpa using h1),decide_eq_true (show 0≤gt n.args i by omega)]
    by_cases h2:gt n.args i<size
    ·obtain⟨o,k1,k2⟩:=BL (m:=m) (size:=size) h8 f (i+1) (by omega) (by omega)
     rw [if_neg (by simp only [decide_eq_true_eq]; omega),decide_eq_true h2,bl (by omega) (by omega),show (i:Int)+1=((i+1:Nat):Int) by omega,k1]
     exact⟨o,rfl,by simpa using k2⟩
    ·rw [if_pos (by simp only [decide_eq_true_eq]; omega),decide_eq_false h2]
     exact⟨_,rfl,.inr ⟨rfl,rfl⟩⟩
  ·refine⟨_,by rw [if_neg (by simp only [decide_eq_true_eq]; omega)],.inl ⟨⟨_,rfl⟩,?_⟩⟩
   rw [acU (by omega)]; rfl
theorem wu {m:Nat}(hm:20≤m)(n:ah)(size:Int):cw.f m n size=some (fu n size):=by
 unfold cw.f fu
 by_cases k0:n.kind=0
 ·rw [if_pos (by simpa using k0),if_pos k0]
  by_cases h1:0≤n.int
  ·rw [if_pos (by simpa using h1),show decide (0≤n.int)=true by simpa using h1]
   show (if (n.label.data.toList==[])=true then _ else _)=_
   cases n.label.data.toList==[] with
   | true=>rw [if_pos rfl,Bw]; rfl
   | false=>rfl
  ·rw [if_neg (by simpa using h1),show decide (0≤n.int)=false by simp; omega]; rfl
 rw [if_neg (by simpa using k0),if_neg k0]
 by_cases k1:n.kind=1
 ·rw [if_pos (by simpa using k1),if_pos k1]
  by_cases h1 : -1099511627776≤n.int
  ·rw [if_pos (by simpa using h1),show decide (-1099511627776≤n.int)=true by simpa using h1]
   by_cases h3:n.int≤1099511627776
   ·rw [if_pos (by simpa using h3),show decide (n.int≤1099511627776)=true by simpa using h3]
    show (if (n.label.data.toList==[])=true then _ else _)=_
    cases n.label.data.toList==[] with
    | true=>rw [if_pos rfl,Bw]; rfl
    | false=>rfl
   ·rw [if_neg (by simpa using h3),show decide (n.int≤1099511627776)=false by simp; omega]; rfl
  ·rw [if_neg (by simpa using h1),show decide (-1099511627776≤n.int)=false by simp; omega]; rfl
 rw [if_neg (by simpa using k1),if_neg k1]
 by_cases k2:n.kind=2
 ·rw [if_pos (by simpa using k2),if_pos k2,ti hm,abw]
  cases nt n.label with
  | false=>simp
  | true=>
   rw [if_pos rfl]
   cases h1:n.int==0 with
   | false=>rfl
   | true=>rw [if_pos rfl,Bw]; rfl
 rw [if_neg (by simpa using k2),if_neg k2]
 by_cases k4:n.kind=4
 ·rw [if_pos (by simpa using k4),if_neg (show ¬n.kind=3 by omega),if_pos k4]
  unfold Bv
  show (if (n.label.data.toList==[112,114,111,99])=true then _ else if (n.label.data.toList==[99,101,108,108])=true then _ else if (n.label.data.toList==[112,111,114,116])=true then _ else _)=_
  by_cases h1:0≤n.int
  ·have d1:decide (n.int≥0)=true:=decide_eq_true h1
   rw [d1]
   cases n.label.data.toList==[112,114,111,99]<;>cases n.label.data.toList==[99,101,108,108]<;>cases n.label.data.toList==[112,111,114,116]<;>first | rfl | (show some ((n.args.length:Int)==(0:Int))=_; rw [Bw]; rfl)
  ·have d1:decide (n.int≥0)=false:=decide_eq_false h1
   rw [d1]
   cases n.label.data.toList==[112,114,111,99]<;>cases n.label.data.toList==[99,101,108,108]<;>cases n.label.data.toList==[112,111,114,116]<;>rfl
 rw [if_neg (by simpa using k4)]
 by_cases k3:n.kind=3
 ·rw [if_pos (by simpa using k3),if_pos k3,ti hm,abw]
  cases nt n.label with
  | false=>simp
  | true=>
   cases h1:n.int==0 with
   | false=>rfl
   | true=>
    simp only [acO,abK,if_false,Bool.and_self,acH]
    by_cases g1:1≤n.args.length
    ·rw [if_neg (by simp only [decide_eq_true_eq]; omega),decide_eq_true g1]
     by_cases g2:n.args.length≤8
     ·obtain⟨o,k1,k2⟩:=BL (m:=m) (size:=size) g2 m 0 (by omega) (by omega)
      have k1:cw.l0 m n size m 0=_:=k1
      rw [acn] at k2
      rw [if_neg (by simp only [decide_eq_true_eq]; omega),decide_eq_true g2,k1,abw]
      simp only [acH]
      rcases k2 with⟨⟨x,rfl⟩,k⟩| ⟨rfl,k⟩
      ·rw [k]
      ·rw [k]
     ·rw [if_pos (by simp only [decide_eq_true_eq]; omega),decide_eq_false g2]; simp
    ·rw [if_pos (by simp only [decide_eq_true_eq]; omega),decide_eq_false g1]; simp
 rw [if_neg (by simpa using k3),if_neg k3,if_neg k4]
theorem yd {m:Nat}(hm:20≤m){t:aZ}(hl:t.nodes.length≤8000):∀(f i:Nat),t.nodes.length - i<f→i≤t.nodes.length→
  ∃o,cJ.l0 m t f (i:Int)=some o∧((∃x,o = .inr x)∧((t.nodes.drop i).all fun n=>fu n t.nodes.length)=true∨o = .inl false∧((t.nodes.drop i).all fun n=>fu n t.nodes.length)=false)
 | 0,i,hf,_=>absurd hf (by omega)
 | f+1,i,hf,hi=>by
  unfold cJ.l0
  by_cases h:i<t.nodes.length
  ·have hx:ix t.nodes (i:Int)=some t.nodes[i]:=by unfold ix; rw [if_pos (by omega)]; simp [h]
   rw [if_pos (by simp only [decide_eq_true_eq]; omega),hx,abw,wu hm,abw,abT h,acr]
   cases hb:fu t.nodes[i] t.nodes.length with
   | false=>exact⟨_,rfl,.inr ⟨rfl,rfl⟩⟩
   | true=>
    obtain⟨o,k1,k2⟩:=yd (m:=m) hm hl f (i+1) (by omega) (by omega)
    rw [if_neg (by simp),bl (by omega) (by omega),show (i:Int)+1=((i+1:Nat):Int) by omega,k1]
    exact⟨o,rfl,by simpa using k2⟩
  ·refine⟨_,by rw [if_neg (by simp only [decide_eq_true_eq]; omega)],.inl ⟨⟨_,rfl⟩,?_⟩⟩
   rw [acU (by omega)]; rfl
theorem BM {m:Nat}(hm:2 ^ 30≤m)(t:aZ):cJ.f m t=some (fM t):=by
 have rl:(2:Nat) ^ 30=1073741824:=by decide
 unfold cJ.f fM
 by_cases h1:1≤t.nodes.length
 ·rw [if_neg (by simp only [decide_eq_true_eq]; omega),decide_eq_true h1]
  by_cases h2:t.nodes.length≤8000
  ·rw [if_neg (by simp only [decide_eq_true_eq]; omega),decide_eq_true h2]
   by_cases h3:0≤t.root
   ·rw [if_neg (by simp only [decide_eq_true_eq]; omega),decide_eq_true h3]
    by_cases h4:t.root<t.nodes.length
    ·rw [if_neg (by simp only [decide_eq_true_eq]; omega),decide_eq_true h4]
     obtain⟨o,k1,k2⟩:=yd (m:=m) (t:=t) (by omega) h2 m 0 (by omega) (by omega)
     have k1:cJ.l0 m t m 0=_:=k1
     rw [acn] at k2
     rw [k1,abw]
     simp only [acH]
     rcases k2 with⟨⟨x,rfl⟩,k⟩| ⟨rfl,k⟩
     ·rw [k]
     ·rw [k]
    ·rw [if_pos (by simp only [decide_eq_true_eq]; omega),decide_eq_false h4]; rfl
   ·rw [if_pos (by simp only [decide_eq_true_eq]; omega),decide_eq_false h3]; rfl
  ·rw [if_pos (by simp only [decide_eq_true_eq]; omega),decide_eq_false h2]; rfl
 ·rw [if_pos (by simp only [decide_eq_true_eq]; omega),decide_eq_false h1]; rfl
end Go.Proofs.YtifafejidnjckaaGreat
namespace Go.Proofs.YtifafejidnjckaaGreat
open Go Go.R
open Go.IntKind (i64 u64 u8 u32)
theorem te.refl {l:List ah}{c:List Int}(i:Nat):te l c i i:=⟨Alike.refl _,fun _ _=>rfl⟩
theorem te.symm {l:List ah}{c:List Int}{i j:Nat}(h:te l c i j):te l c j i:=⟨h.1.symm,fun k hk=>(h.2 k (by have:=h.1.len; unfold na at *; omega)).symm⟩
theorem te.trans {l:List ah}{c:List Int}{i j q:Nat}(h:te l c i j)(g:te l c j q):te l c i q:=
 ⟨h.1.trans g.1,fun k hk=>(h.2 k hk).trans (g.2 k (by have:=h.1.len; unfold na at *; omega))⟩
theorem Gr.symm {l:List ah}{R:Nat→Nat→Prop}(B:Gr l R):Gr l fun i j=>R j i:=
 ⟨fun i j h=>(B.oY j i h).symm,fun i j h=>(B.top j i h).symm,fun i j h k hk=>B.arg j i h k (by have:=(B.top j i h).len; omega)⟩
structure Ke (l:List ah)(cls:List Int)(dn:List Bool)(fs od:List Int):Prop where
 lc:cls.length=l.length
 ld:dn.length=l.length
 VU:od.Nodup
 OQ:∀x∈od,0≤x∧x<l.length
 Kf:∀i,i<l.length→(gb dn i=true↔(i:Int)∈od)
 w7:∀i:Nat,(i:Int)∈od→∀k,k<na l i→((ar l i k:Nat):Int)∈od∧od.idxOf ((ar l i k:Nat):Int)<od.idxOf (i:Int)
 S8:fs.Nodup
 fst:∀f∈fs,f∈od∧gt cls f.toNat=f
 rC:∀i:Nat,(i:Int)∈od→gt cls i∈fs∧te l cls i (gt cls i).toNat
 apart:∀f∈fs,∀g∈fs,te l cls f.toNat g.toNat→f=g
 coarse:∀R,Gr l R→∀i j:Nat,R i j→(i:Int)∈od→(j:Int)∈od→gt cls i=gt cls j
theorem Ff {od:List Int}{n:Nat}(h:od.Nodup)(hr:∀x∈od,0≤x∧x<n):od.length≤n:=by
 have:=h.length_le_of_subset (l₂:=ints n) (fun x hx=>jL.2 (hr x hx))
 rwa [fB] at this
theorem Ke.VV {l cls dn fs od}(P:Ke l cls dn fs od):∀f∈fs,0≤f∧f<l.length:=fun f hf=>P.OQ f (P.fst f hf).1
theorem JF {l:List ah}{cls:List Int}{dn:List Bool}{fs od:List Int}(ok:lS l)(P:Ke l cls dn fs od){i:Nat}(hi:i<l.length)(hn:(i:Int)∉od)(hr:XO l dn i){v:Int}
  (hv:v=i∧(∀f∈fs,¬te l cls i f.toNat)∨v∈fs∧te l cls i v.toNat) :
  Ke l (cls.set i v) (dn.set i true) (if v=i then fs++[(i:Int)] else fs) (od++[(i:Int)]):=by
 have XS:(i:Int)∉fs:=fun h=>hn (P.fst _ h).1
 have PA:v∈fs→v≠i:=fun h e=>XS (e ▸ h)
 have gc:∀x,x≠i→gt (cls.set i v) x=gt cls x:=fun x hx=>by rw [fL (by rw [P.lc]; exact hi),if_neg hx]
 have gi:gt (cls.set i v) i=v:=by rw [fL (by rw [P.lc]; exact hi),if_pos rfl]
 have ne:∀{x:Nat},(x:Int)∈od→x≠i:=fun h e=>hn (by rw [←e]; exact h)
 have ad:∀x:Nat,((x:Int)∈od∨x=i)→∀k,k<na l x→((ar l x k:Nat):Int)∈od:=fun x hx k hk=>by
  rcases hx with hx | rfl
  ·exact (P.w7 x hx k hk).1
  ·exact (P.Kf _ (lE ok hi hk).1).1 (hr k hk)
 have sm:∀x y:Nat,((x:Int)∈od∨x=i)→((y:Int)∈od∨y=i)→(te l (cls.set i v) x y↔te l cls x y):=fun x y hx hy=>by
  constructor
  ·rintro⟨a,b⟩
   refine⟨a,fun k hk=>?_⟩
   have:=b k hk
   rwa [gc _ (ne (ad x hx k hk)),gc _ (ne (ad y hy k (by have:=a.len; unfold na at *; omega)))] at this
  ·rintro⟨a,b⟩
   refine⟨a,fun k hk=>?_⟩
   rw [gc _ (ne (ad x hx k hk)),gc _ (ne (ad y hy k (by have:=a.len; unfold na at *; omega)))]
   exact b k hk
 have fo:∀f∈fs,((f.toNat:Nat):Int)∈od∧((f.toNat:Nat):Int)=f:=fun f hf=>by
  have h:=P.fst f hf
  have r:=P.OQ f h.1
  have e:((f.toNat:Nat):Int)=f:=by omega
  exact⟨by rw [e]; exact h.1,e⟩
 have split:∀{x:Int},x∈od++[(i:Int)]→x∈od∨x=i:=fun h=>by
  rcases abP.1 h with h | h
  ·exact .inl h
  ·exact .inr (abI.1 h)
 have one:∀R,Gr l R→∀j:Nat,R i j→(j:Int)∈od→v=gt cls j:=fun R B j hR hj=>by
  obtain⟨g1,g2⟩:=P.rC j hj
  have s1:te l cls i j:=⟨B.top i j hR,fun k hk=>P.coarse R B _ _ (B.arg i j hR k hk) (ad i (.inr rfl) k hk) (ad j (.inl hj) k (by have:=(B.top i j hR).len; unfold na at *; omega))⟩
  rcases hv with⟨rfl,h⟩| ⟨h1,h2⟩
  ·exact absurd (s1.trans g2) (h _ g1)
  ·exact P.apart v h1 _ g1 (h2.symm.trans (s1.trans g2))
 refine⟨by simpa using P.lc,by simpa using P.ld,?_,?_,fun x hx=>?_,fun x hx k hk=>?_,?_,fun f hf=>?_,fun x hx=>?_,fun f hf g hg hs=>?_,fun R B x y hR hx hy=>?_⟩
 ·rw [acB]
  refine⟨P.VU,by simp,fun a ha b hb=>?_⟩
  rw [abI] at hb
  subst hb; intro e; subst e; exact hn ha
 ·intro x hx
  rcases split hx with h | h
  ·exact P.OQ x h
  ·omega
 ·rw [zJ (by rw [P.ld]; exact hi),abP,abI]
  by_cases e:x=i
  ·subst e; simp
  ·rw [if_neg e,P.Kf x hx]
   constructor
   ·exact fun h=>.inl h
   ·rintro (h | h)
    ·exact h
    ·omega
 ·rcases split hx with h | h
  ·obtain⟨r1,r2⟩:=P.w7 x h k hk
   refine⟨ab6 _ r1,?_⟩
   rw [acR,if_pos r1,acR,if_pos h]; exact r2
  ·have e:x=i:=by omega
   subst e
   have r1:=ad x (.inr rfl) k hk
   refine⟨ab6 _ r1,?_⟩
   rw [acR,if_pos r1,acR,if_neg hn]
   have:=acs r1
   omega
 ·split
  ·rw [acB]
   refine⟨P.S8,by simp,fun a ha b hb=>?_⟩
   rw [abI] at hb
   subst hb; intro e; subst e; exact XS ha
  ·exact P.S8
 ·have P6:f∈fs∨(f=i∧v=i):=by
   split at hf
   ·rcases abP.1 hf with h | h
    ·exact .inl h
    ·exact .inr ⟨abI.1 h,by assumption⟩
   ·exact .inl hf
  rcases P6 with h | ⟨rfl,h2⟩
  ·obtain⟨a,b⟩:=P.fst f h
   refine⟨ab6 _ a,?_⟩
   rw [gc _ (by have:=(fo f h).1; exact ne this)]; exact b
  ·refine⟨by simp,?_⟩
   rw [abC,gi]; exact h2
 ·have XT:∀z∈fs,z∈(if v=(i:Int) then fs++[(i:Int)] else fs):=fun z hz=>by
   split
   ·exact ab6 _ hz
   ·exact hz
  rcases split hx with h | h
  ·obtain⟨a,b⟩:=P.rC x h
   rw [gc x (ne h)]
   exact⟨XT _ a,(sm x _ (.inl h) (.inl (fo _ a).1)).2 b⟩
  ·have e:x=i:=by omega
   subst e
   rw [gi]
   rcases hv with⟨rfl,_⟩| ⟨h1,h2⟩
   ·rw [if_pos rfl,abC]
    exact⟨by simp,te.refl _⟩
   ·exact⟨XT _ h1,(sm x _ (.inr rfl) (.inl (fo _ h1).1)).2 h2⟩
 ·have cs:∀z,z∈(if v=(i:Int) then fs++[(i:Int)] else fs)→z∈fs∨(z=i∧v=i):=fun z hz=>by
   split at hz
   ·rcases abP.1 hz with h | h
    ·exact .inl h
    ·exact .inr ⟨abI.1 h,by assumption⟩
   ·exact .inl hz
  have XU:v=i→∀f∈fs,¬te l cls i f.toNat:=fun e f hf=>by
   rcases hv with⟨_,h⟩| ⟨h,_⟩
   ·exact h f hf
   ·exact absurd e (PA h)
  rcases cs f hf with h1 | ⟨rfl,e1⟩
  ·rcases cs g hg with h2 | ⟨rfl,e2⟩
   ·exact P.apart f h1 g h2 ((sm _ _ (.inl (fo f h1).1) (.inl (fo g h2).1)).1 hs)
   ·rw [abC] at hs
    have:=(sm _ _ (.inl (fo f h1).1) (.inr rfl)).1 hs
    exact absurd this.symm (XU e2 f h1)
  ·rcases cs g hg with h2 | ⟨rfl,e2⟩
   ·rw [abC] at hs
    have:=(sm _ _ (.inr rfl) (.inl (fo g h2).1)).1 hs
    exact absurd this (XU e1 g h2)
   ·rfl
 ·rcases split hx with h1 | h1
  ·rcases split hy with h2 | h2
   ·rw [gc x (ne h1),gc y (ne h2)]; exact P.coarse R B x y hR h1 h2
   ·have e:y=i:=by omega
    subst e
    rw [gc x (ne h1),gi]
    exact (one _ B.symm x hR h1).symm
  ·have e:x=i:=by omega
   subst e
   rcases split hy with h2 | h2
   ·rw [gc y (ne h2),gi]; exact one R B y hR h2
   ·have e:y=x:=by omega
    subst e; rfl
theorem zN {m:Nat}(hm:2 ^ 30≤m){l:List ah}(ok:lS l):∀(f i:Nat) (cls:List Int) (dn:List Bool) (fs od:List Int) (more:Bool),i<f→i≤l.length→Ke l cls dn fs od→
  ∃ko BN BO jw x wG,ak.l1 m l f cls dn fs more ((i:Int) - 1)=some (ko,BN,BO,jw,x)∧Ke l ko BN BO wG∧od.length≤wG.length∧
   (jw=true→more=true∨od.length<wG.length)∧(jw=false→more=false∧wG=od∧∀j,j<i→(j:Int)∉od→∃k,k<na l j∧((ar l j k:Nat):Int)∉od)
 | 0,i,_,_,_,_,_,hf,_,_=>absurd hf (by omega)
 | f+1,0,cls,dn,fs,od,more,hf,hi,P=>by
  unfold ak.l1
  rw [if_neg (by simp)]
  exact⟨cls,dn,fs,more,_,od,rfl,P,abB _,fun h=>.inl h,fun h=>⟨h,rfl,fun j hj=>absurd hj (by omega)⟩⟩
 | f+1,i+1,cls,dn,fs,od,more,hf,hi,P=>by
  have rl:(2:Nat) ^ 30=1073741824:=by decide
  have h8:=ok.1
  have CM:i<l.length:=by omega
  unfold ak.l1
  have ei:((i+1:Nat):Int) - 1=(i:Int):=by omega
  have ew:i64.wrap ((i:Int) - 1)=(i:Int) - 1:=bl (by omega) (by omega)
  have hgb:ix dn (i:Int)=some (gb dn i):=by
   have:=wi (l:=dn) (i:=(i:Int)) (by omega) (by rw [abC,P.ld]; exact CM)
   rwa [abC] at this
  rw [ei,ew,if_pos (by simp),hgb,abw]
  cases hd:gb dn i with
  | true=>
   rw [if_pos rfl]
   obtain⟨ko,BN,BO,jw,x,wG,k1,k2,k3,k4,k5⟩:=zN hm ok f i cls dn fs od more (by omega) (by omega) P
   refine⟨ko,BN,BO,jw,x,wG,k1,k2,k3,k4,fun h=>?_⟩
   obtain⟨q1,q2,q3⟩:=k5 h
   refine⟨q1,q2,fun j hj hn=>?_⟩
   by_cases e:j=i
   ·subst e; exact absurd ((P.Kf j CM).1 hd) hn
   ·exact q3 j (by omega) hn
  | false=>
   have Dn:(i:Int)∉od:=fun h=>by rw [(P.Kf i CM).2 h] at hd; cases hd
   obtain⟨xr,r1,r2,r3⟩:=Jx hm ok P.ld CM
   rw [if_neg (by simp),iZ (by omega) (by omega),abw,r1,abw]
   cases xr with
   | false=>
    rw [if_pos (by simp)]
    obtain⟨ko,BN,BO,jw,x,wG,k1,k2,k3,k4,k5⟩:=zN hm ok f i cls dn fs od more (by omega) (by omega) P
    refine⟨ko,BN,BO,jw,x,wG,k1,k2,k3,k4,fun h=>?_⟩
    obtain⟨q1,q2,q3⟩:=k5 h
    refine⟨q1,q2,fun j hj hn=>?_⟩
    by_cases e:j=i
    ·subst e
     obtain⟨k,g1,g2⟩:=r3 rfl
     exact⟨k,g1,fun h=>by rw [(P.Kf _ (lE ok CM g1).1).2 h] at g2; cases g2⟩
    ·exact q3 j (by omega) hn
   | true=>
    have NA:fs.length≤8000:=acv (Ff P.S8 P.VV) h8
    obtain⟨v,f1,f2⟩:=find_spec hm ok P.lc CM P.VV NA
    have P':=JF ok P CM Dn (r2 rfl) f2
    have hlen:(od++[(i:Int)]).length=od.length+1:=by simp
    have e2:ix cls (i:Int)=some (gt cls i):=dv (by rw [P.lc]; exact CM)
    have e3:ix (cls.set i v) (i:Int)=some v:=by
     rw [dv (by simpa using (by rw [P.lc]; exact CM)),fL (by rw [P.lc]; exact CM),if_pos rfl]
    have rest:∀Ta,Ke l (cls.set i v) (dn.set i true) Ta (od++[(i:Int)])→∃ko BN BO jw x wG,ak.l1 m l f (cls.set i v) (dn.set i true) Ta true ((i:Int) - 1)=some (ko,BN,BO,jw,x)∧Ke l ko BN BO wG∧od.length≤wG.length∧
      (jw=true→more=true∨od.length<wG.length)∧(jw=false→more=false∧wG=od∧∀j,j<i+1→(j:Int)∉od→∃k,k<na l j∧((ar l j k:Nat):Int)∉od):=fun Ta P2=>by
     obtain⟨ko,BN,BO,jw,x,wG,k1,k2,k3,k4,k5⟩:=zN hm ok f i _ _ Ta _ true (by omega) (by omega) P2
     exact⟨ko,BN,BO,jw,x,wG,k1,k2,by omega,fun _=>.inr (by omega),fun h=>absurd (k5 h).1 (by simp)⟩
    rw [if_neg (by simp),f1,abw,e2,abw,abC,e3,abw]
    by_cases PA:v=i
    ·have pW:app 8 fs [(i:Int)]=some (fs++[(i:Int)]):=by unfold app; rw [if_pos (by simp; omega)]
     rw [if_pos (by simpa using PA),pW,abw,abw]
     rw [if_pos PA] at P'
     exact rest _ P'
    ·rw [if_neg (by simpa using PA),abw]
     rw [if_neg PA] at P'
     exact rest _ P'
theorem JG {m:Nat}(hm:2 ^ 30≤m){l:List ah}(ok:lS l):∀(f:Nat) (cls:List Int) (dn:List Bool) (fs od:List Int),l.length - od.length+1<f→Ke l cls dn fs od→
  ∃ko BN BO wG,ak.l0 m l f cls dn fs true=some (ko,BN,BO,false)∧Ke l ko BN BO wG∧∀j,j<l.length→(j:Int)∉wG→∃k,k<na l j∧((ar l j k:Nat):Int)∉wG
 | 0,_,_,_,_,hf,_=>absurd hf (by omega)
 | f+1,cls,dn,fs,od,hf,P=>by
  have rl:(2:Nat) ^ 30=1073741824:=by decide
  have h8:=ok.1
  unfold ak.l0
  obtain⟨ko,BN,BO,jw,x,wG,k1,k2,k3,k4,k5⟩:=zN hm ok m l.length cls dn fs od false (by omega) (abB _) P
  have ew:i64.wrap ((l.length:Int) - 1)=(l.length:Int) - 1:=bl (by omega) (by omega)
  rw [if_pos rfl,ew,k1,abw]
  dsimp only
  have LH:=Ff k2.VU k2.OQ
  cases jw with
  | true=>
   rcases k4 rfl with h | h
   ·cases h
   ·exact JG hm ok f ko BN BO wG (by omega) k2
  | false=>
   obtain⟨_,rfl,q⟩:=k5 rfl
   obtain⟨g,rfl⟩:∃g,f=g+1:=⟨f - 1,by omega⟩
   refine⟨ko,BN,BO,wG,?_,k2,q⟩
   unfold ak.l0
   rw [if_neg (by simp)]
end Go.Proofs.YtifafejidnjckaaGreat
