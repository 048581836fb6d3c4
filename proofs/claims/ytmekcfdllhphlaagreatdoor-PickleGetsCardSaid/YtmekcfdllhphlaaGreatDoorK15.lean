/- Part of the proof: PB9, PB10, PB11, PU3, Q34, PU4, Q7. -/
import Derived.Test.YtmekcfdllhphlaaGreatDoorK14
set_option linter.unusedVariables false
set_option linter.unusedSimpArgs false
set_option maxRecDepth 100000
open Int renaming toNat_natCast → aaH, tdiv → abr, tmod_eq_emod_of_nonneg → abB, tmod → abE, tdiv_eq_ediv_of_nonneg → abX, fdiv_eq_ediv_of_nonneg → ach
open List renaming length_append → aaI, getElem?_eq_some_iff → aaK, append_assoc → aaM, mem_singleton → aaO, drop_eq_getElem_cons → aaP, mem_append → aaQ, length_cons → aaR, drop_eq_nil_of_le → aaU, replicate → aaV, getD_eq_getElem?_getD → aaW, length_map → aaX, getElem?_append_right → aaY, getElem?_eq_none → aa1, drop_zero → aa3, nil_append → aa5, map_cons → aa6, map_append → aa8, mem_map → aba, mem_cons → abb, getElem_mem → abe, length_nil → abg, getElem?_map → abi, mem_append_left → abo, append_nil → abu, ext_getElem? → abF, take_add_one → abL, take_length → abO, length_take → abP, nodup_append → abT, map_congr_left → abV, getElem?_set → ab5, set_append_right → acf, length_replicate → acg, length → ack
open Nat renaming le_refl → aaE, le_trans → abj, lt_succ_self → abm, sub_self → acm, zero_le → acq
open Option renaming bind_some → aaA, map_some → aaG
open Option.some renaming injEq → aaD, inj → aa2
open Or renaming inr → abD, inl → abM
namespace Go.Proofs.YtmekcfdllhphlaaGreatDoor
open Go Go.R
open Go.IntKind (i64 u64 u8 u32)
inductive xp (κ:Int→Int)(A:Int→List Int):List Int→List Int→List Int→Prop
 | nil (o:List Int):xp κ A [] o o
 | skip {v:Int} {st o o':List Int}:κ v∈o.map κ→xp κ A st o o'→xp κ A (v::st) o o'
 | push {v:Int} {st o o':List Int}:κ v∉o.map κ→xp κ A (A v++st) (o++[v]) o'→xp κ A (v::st) o o'
theorem xp.Ze {κ:Int→Int}{A:Int→List Int}{st o o1 o2:List Int}(h:xp κ A st o o1)(k:xp κ A st o o2):o1=o2:=by
 induction h with
 | nil o=>cases k; rfl
 | skip hm _ ih=>
  cases k with
  | skip _ k=>exact ih k
  | push hn _=>exact absurd hm hn
 | push hn _ ih=>
  cases k with
  | skip hm _=>exact absurd hm hn
  | push _ k=>exact ih k
theorem xp.facts {κ:Int→Int}{A:Int→List Int}{n:Nat}{st o o':List Int}(h:xp κ A st o o')(hA:∀v:Int,0≤v→v<n→∀a∈A v,0≤a∧a<n)(hst:∀v∈st,0≤v∧v<n)(ho:∀v∈o,0≤v∧v<n)(GP:(o.map κ).Nodup) :
  (∃t,o'=o++t)∧(∀v∈o',0≤v∧v<n)∧(o'.map κ).Nodup∧(∀v∈st,κ v∈o'.map κ)∧((∀v∈o,∀a∈A v,κ a∈o.map κ∨a∈st)→∀v∈o',∀a∈A v,κ a∈o'.map κ):=by
 induction h with
 | nil o=>
  refine⟨⟨[],by simp⟩,ho,GP,?_,?_⟩
  ·intro v hv; cases hv
  ·intro h v hv a ha; exact (h v hv a ha).resolve_right (by simp)
 | @skip v st o o' hm _ ih=>
  obtain⟨⟨t,rfl⟩,a,b,c,d⟩:=ih (fun x hx=>hst x (by simp [hx])) ho GP
  refine⟨⟨t,rfl⟩,a,b,fun x hx=>?_,fun h=>d fun x hx y hy=>?_⟩
  ·rcases abb.1 hx with rfl | hx
   ·rw [aa8]; exact abo _ hm
   ·exact c x hx
  ·rcases h x hx y hy with h | h
   ·exact .inl h
   ·rcases abb.1 h with rfl | h
    ·exact .inl hm
    ·exact .inr h
 | @push v st o o' hn _ ih=>
  have hv:=hst v (by simp)
  have h1:∀x∈A v++st,0≤x∧x<n:=fun x hx=>by
   rcases aaQ.1 hx with hx | hx
   ·exact hA v hv.1 hv.2 x hx
   ·exact hst x (by simp [hx])
  have h2:∀x∈o++[v],0≤x∧x<n:=fun x hx=>by
   rcases aaQ.1 hx with hx | hx
   ·exact ho x hx
   ·rw [aaO] at hx; subst hx; exact hv
  have h3:((o++[v]).map κ).Nodup:=by
   rw [aa8,abT]
   refine⟨GP,by simp,fun a ha b hb=>?_⟩
   simp only [aa6,List.map_nil,aaO] at hb
   subst hb; intro e; subst e; exact hn ha
  obtain⟨⟨t,rfl⟩,a,b,c,d⟩:=ih h1 h2 h3
  refine⟨⟨[v]++t,by simp⟩,a,b,fun x hx=>?_,fun h=>d fun x hx y hy=>?_⟩
  ·rcases abb.1 hx with rfl | hx
   ·simp
   ·exact c x (by simp [hx])
  ·rcases aaQ.1 hx with hx | hx
   ·rcases h x hx y hy with h | h
    ·exact .inl (by rw [aa8]; exact abo _ h)
    ·rcases abb.1 h with rfl | h
     ·exact .inl (by simp)
     ·exact .inr (by simp [h])
   ·rw [aaO] at hx; subst hx
    exact .inr (abo _ hy)
theorem xp.from {A:Int→List Int}{root:Int}{st o o':List Int}(h:xp id A st o o')(hst:∀v∈st,v=root∨∃q,q<o.length∧v∈A (gt o q))(ho:∀i,i<o.length→gt o i=root∨∃q,q<i∧gt o i∈A (gt o q)) :
  ∀i,i<o'.length→gt o' i=root∨∃q,q<i∧gt o' i∈A (gt o' q):=by
 induction h with
 | nil o=>exact ho
 | skip hm _ ih=>exact ih (fun x hx=>hst x (by simp [hx])) ho
 | @push v st o o' hn _ ih=>
  have gl:∀q,q<o.length→gt (o++[v]) q=gt o q:=fun q hq=>jh hq
  have gv:gt (o++[v]) o.length=v:=by unfold gt; rw [aaW,aaY (aaE _),acm]; rfl
  refine ih (fun x hx=>?_) (fun i hi=>?_)
  ·rcases aaQ.1 hx with hx | hx
   ·exact .inr ⟨o.length,by simp,by rw [gv]; exact hx⟩
   ·rcases hst x (by simp [hx]) with h | ⟨q,q1,q2⟩
    ·exact .inl h
    ·exact .inr ⟨q,by simp; omega,by rw [gl q q1]; exact q2⟩
  ·by_cases h:i<o.length
   ·rw [gl i h]
    rcases ho i h with h1 | ⟨q,q1,q2⟩
    ·exact .inl h1
    ·exact .inr ⟨q,q1,by rw [gl q (by omega)]; exact q2⟩
   ·have e:i=o.length:=by simp at hi; omega
    subst e
    rw [gv]
    rcases hst v (by simp) with h | ⟨q,q1,q2⟩
    ·exact .inl h
    ·exact .inr ⟨q,q1,by rw [gl q q1]; exact q2⟩
theorem BT (cls:List Int)(l:List ae)(k:Nat)(i:Int)(o:List Int):vZ cls l (k+1) i o=if jb cls i∈o.map (jb cls) then o else (nd l i).args.foldl (fun o a=>vZ cls l k a o) (o++[i]):=rfl
theorem JB {cls:List Int}{l:List ae}(ok:mf l):∀(k:Nat) (i:Int) (o:List Int),0≤i→i<l.length→Vs cls l.length o→Vs cls l.length (vZ cls l k i o)∧o.length≤(vZ cls l k i o).length
 | 0,i,o,_,_,v=>⟨v,aaE _⟩
 | k+1,i,o,h0,h1,v=>by
  rw [BT]
  split
  ·exact⟨v,aaE _⟩
  ·rename_i h
   have v1:Vs cls l.length (o++[i]):=by
    refine⟨?_,fun x hx=>?_⟩
    ·rw [aa8,abT]
     refine⟨v.Kb,by simp,fun a ha b hb=>?_⟩
     simp only [aa6,List.map_nil,aaO] at hb
     subst hb; intro e; subst e; exact h ha
    ·rcases aaQ.1 hx with hx | hx
     ·exact v.Ch x hx
     ·simp only [aaO] at hx; subst hx; exact⟨h0,h1⟩
   have fold:∀(zs:List Int) (o:List Int),(∀a∈zs,0≤a∧a<l.length)→Vs cls l.length o→Vs cls l.length (zs.foldl (fun o a=>vZ cls l k a o) o)∧o.length≤(zs.foldl (fun o a=>vZ cls l k a o) o).length:=by
    intro zs
    induction zs with
    | nil=>intro o _ v; exact⟨v,aaE _⟩
    | cons a zs ih=>
     intro o ha v
     have hr:=ha a (by simp)
     obtain⟨v2,l2⟩:=JB ok k a o hr.1 hr.2 v
     obtain⟨v3,l3⟩:=ih (vZ cls l k a o) (fun x hx=>ha x (by simp [hx])) v2
     exact⟨v3,abj l2 l3⟩
   obtain⟨v2,l2⟩:=fold (nd l i).args (o++[i]) (ok.2 _ (iN h0 h1)).2 v1
   exact⟨v2,by simp at l2; omega⟩
theorem E0 {cls:List Int}{l:List ae}(ok:mf l):∀(k:Nat) (i:Int) (o st o':List Int),0≤i→i<l.length→Vs cls l.length o→l.length<k+o.length→
  xp (jb cls) (fun v=>(nd l v).args) st (vZ cls l k i o) o'→xp (jb cls) (fun v=>(nd l v).args) (i::st) o o'
 | 0,i,o,st,o',_,_,v,hk,_=>absurd v.ng (by omega)
 | k+1,i,o,st,o',h0,h1,v,hk,h=>by
  rw [BT] at h
  by_cases hm:jb cls i∈o.map (jb cls)
  ·rw [if_pos hm] at h
   exact .skip hm h
  ·rw [if_neg hm] at h
   refine .push hm ?_
   have v1:Vs cls l.length (o++[i]):=by
    refine⟨?_,fun x hx=>?_⟩
    ·rw [aa8,abT]
     refine⟨v.Kb,by simp,fun a ha b hb=>?_⟩
     simp only [aa6,List.map_nil,aaO] at hb
     subst hb; intro e; subst e; exact hm ha
    ·rcases aaQ.1 hx with hx | hx
     ·exact v.Ch x hx
     ·simp only [aaO] at hx; subst hx; exact⟨h0,h1⟩
   have fold:∀(zs:List Int) (o:List Int),(∀a∈zs,0≤a∧a<l.length)→Vs cls l.length o→l.length<k+o.length→xp (jb cls) (fun v=>(nd l v).args) st (zs.foldl (fun o a=>vZ cls l k a o) o) o'→xp (jb cls) (fun v=>(nd l v).args) (zs++st) o o':=by
    intro zs
    induction zs with
    | nil=>intro o _ _ _ h; exact h
    | cons a zs ih=>
     intro o ha v hk h
     have hr:=ha a (by simp)
     obtain⟨v2,l2⟩:=JB ok k a o hr.1 hr.2 v
     exact E0 ok k a o (zs++st) o' hr.1 hr.2 v hk (ih _ (fun x hx=>ha x (by simp [hx])) v2 (by omega) h)
   exact fold (nd l i).args (o++[i]) (ok.2 _ (iN h0 h1)).2 v1 (by simp; omega) h
theorem ry {od:List Int}{n:Nat}(h:od.Nodup)(hr:∀x∈od,0≤x∧x<n):od.length≤n:=by
 have:=h.length_le_of_subset (l₂:=ints n) (fun x hx=>jz.2 (hr x hx))
 rwa [eH] at this
theorem JC {m:Nat}{l:List ae}(ok:mf l){v:Int}(h0:0≤v)(h1:v<l.length):∀(f i:Nat) (st:List Int),i<f→i≤(nd l v).args.length→st.length+i≤1000000→
  ∃x,aW.l1 m l v f st ((i:Int) - 1)=some (st++((nd l v).args.take i).reverse,x)
 | 0,i,st,hf,_,_=>absurd hf (by omega)
 | f+1,0,st,hf,hi,hs=>by
  unfold aW.l1
  rw [if_neg (by simp)]
  exact⟨_,by simp; rfl⟩
 | f+1,i+1,st,hf,hi,hs=>by
  have h8:=(ok.2 _ (iN h0 h1)).1
  have ei:((i+1:Nat):Int) - 1=(i:Int):=by omega
  have ew:i64.wrap ((i:Int) - 1)=(i:Int) - 1:=ay (by omega) (by omega)
  have jf:app 8 st [gt (nd l v).args i]=some (st++[gt (nd l v).args i]):=by unfold app; rw [if_pos (by simp; omega)]
  obtain⟨x,ih⟩:=JC (m:=m) ok h0 h1 f i (st++[gt (nd l v).args i]) (by omega) (by omega) (by simp; omega)
  refine⟨x,?_⟩
  unfold aW.l1
  rw [ei,if_pos (by simp),iT h0 h1,aaA,db (by omega),aaA,jf,aaA,ew,ih]
  rw [abL,bL (by omega)]
  simp
theorem DA {m:Nat}(hm:2 ^ 30≤m){l:List ae}(ok:mf l):∀(f:Nat) (met:List Bool) (o st:List Int),st.length+9*(l.length - o.length)<f→st.length+9*(l.length - o.length)≤100000→met.length=l.length→(∀i,i<l.length→(gb met i=true↔(i:Int)∈o))→o.Nodup→(∀v∈o,0≤v∧v<l.length)→(∀v∈st,0≤v∧v<l.length)→
  ∃Gv o' ,aW.l0 m l f met o st.reverse=some (Gv,o',[])∧xp id (fun v=>(nd l v).args) st o o'
 | 0,met,o,st,hf,_,_,_,_,_,_=>absurd hf (by omega)
 | f+1,met,o,[],hf,hb,PH,Rw,Sk,Sm,NS=>by
  unfold aW.l0
  rw [if_neg (by simp)]
  exact⟨met,o,rfl,.nil o⟩
 | f+1,met,o,v::st,hf,hb,PH,Rw,Sk,Sm,NS=>by
  have kV:(2:Nat) ^ 30=1073741824:=by decide
  have wc:=ry Sk Sm
  obtain⟨v0,v1⟩:=NS v (by simp)
  have h8:=(ok.2 _ (iN v0 v1)).1
  have Va:((v.toNat:Nat):Int)=v:=by omega
  simp only [aaR] at hf hb
  have Uv:=ok.1
  unfold aW.l0
  have hlen:((v::st).reverse.length:Int)=(st.length:Int)+1:=by simp
  have ew:i64.wrap ((st.length:Int)+1 - 1)=(st.length:Int):=by rw [ay (by omega) (by omega)]; omega
  have e1:ix (v::st).reverse (st.length:Int)=some v:=by
   unfold ix
   rw [if_pos (by omega),aaH,List.reverse_cons,aaY (by simp)]
   simp
  have e2:kU (v::st).reverse 0 (st.length:Int)=some st.reverse:=by
   unfold kU
   rw [if_pos ⟨by omega,by omega,by simp; omega⟩,List.reverse_cons]
   simp only [aaH,aa3,Int.toNat_zero,Nat.sub_zero]
   rw [List.take_left' (by simp)]
  have e3:ix met v=some (gb met v.toNat):=EU v0 (by omega)
  rw [if_pos (by rw [hlen]; simp only [gt_iff_lt,decide_eq_true_eq]; omega),hlen,ew,e1,aaA,e2,aaA,e3,aaA]
  cases hg:gb met v.toNat with
  | true=>
   have y4:v∈o:=by have:=(Rw v.toNat (by omega)).1 hg; rwa [Va] at this
   obtain⟨Gv,o',k1,k2⟩:=DA hm ok f met o st (by omega) (by omega) PH Rw Sk Sm (fun x hx=>NS x (by simp [hx]))
   rw [if_pos rfl]
   exact⟨Gv,o',k1,.skip (by simpa using y4) k2⟩
  | false=>
   have Xj:v∉o:=fun h=>by
    have:=(Rw v.toNat (by omega)).2 (by rw [Va]; exact h)
    rw [hg] at this; cases this
   have Xk:(o++[v]).Nodup:=by
    rw [abT]
    refine⟨Sk,by simp,fun a ha b hb=>?_⟩
    rw [aaO] at hb
    subst hb; intro e; subst e; exact Xj ha
   have Xl:∀x∈o++[v],0≤x∧x<l.length:=fun x hx=>by
    rcases aaQ.1 hx with hx | hx
    ·exact Sm x hx
    ·rw [aaO] at hx; subst hx; exact⟨v0,v1⟩
   have IE:=ry Xk Xl
   simp only [aaI,aaR,abg] at IE
   have jf:app 8 o [v]=some (o++[v]):=by unfold app; rw [if_pos (by simp; omega)]
   have Zf:i64.wrap (((nd l v).args.length:Int) - 1)=((nd l v).args.length:Int) - 1:=ay (by omega) (by omega)
   obtain⟨x,q1⟩:=JC (m:=m) ok v0 v1 m (nd l v).args.length st.reverse (by omega) (aaE _) (by simp; omega)
   rw [abO] at q1
   have Vb:st.reverse++(nd l v).args.reverse=((nd l v).args++st).reverse:=by simp
   rw [Vb] at q1
   rw [if_neg (by simp),aaA,jf,aaA,iT v0 v1,aaA,Zf,q1,aaA]
   dsimp only
   obtain⟨Gv,o',k1,k2⟩:=DA hm ok f (met.set v.toNat true) (o++[v]) ((nd l v).args++st) (by simp; omega) (by simp; omega) (by simpa using PH) (fun i hi=>by
    rw [Jr (by omega),aaQ,aaO]
    by_cases e:i=v.toNat
    ·subst e; simp [Va]
    ·rw [if_neg e,Rw i hi]
     constructor
     ·exact fun h=>.inl h
     ·rintro (h | h)
      ·exact h
      ·omega) Xk Xl (fun x hx=>by
    rcases aaQ.1 hx with hx | hx
    ·exact (ok.2 _ (iN v0 v1)).2 x hx
    ·exact NS x (by simp [hx]))
   exact⟨Gv,o',k1,.push (by simpa using Xj) k2⟩
theorem Lt {n k:Nat}:gb (aaV n false) k=false:=by
 unfold gb; rw [aaW,List.getElem?_replicate]; split<;>rfl
theorem rz {m:Nat}(hm:2 ^ 30≤m){l:List ae}(ok:mf l){root:Int}(h0:0≤root)(h1:root<l.length):∃o,aW.f m l root=some o∧xp id (fun v=>(nd l v).args) [root] [] o:=by
 have kV:(2:Nat) ^ 30=1073741824:=by decide
 have Uv:=ok.1
 unfold aW.f
 have e1:xb 1 (l.length:Int) false=some (aaV l.length false):=by unfold xb; rw [if_pos ⟨by omega,by rw [aaH]; omega⟩,aaH]
 have jf:app 8 ([]:List Int) [root]=some [root]:=by unfold app; rw [if_pos (by simp),aa5]
 obtain⟨Gv,o',k1,k2⟩:=DA hm ok m (aaV l.length false) [] [root] (by simp; omega) (by simp; omega) (by simp) (fun i hi=>by rw [Lt]; simp) (by simp) (fun v hv=>by cases hv) (fun v hv=>by rw [aaO] at hv; subst hv; exact⟨h0,h1⟩)
 have k1:aW.l0 m l m (aaV l.length false) [] [root]=_:=k1
 rw [e1,aaA,jf,aaA,k1,aaA]
 exact⟨o',rfl,k2⟩
end Go.Proofs.YtmekcfdllhphlaaGreatDoor
namespace Go.Proofs.YtmekcfdllhphlaaGreatDoor
open Go Go.R
open Go.IntKind (i64 u64 u8 u32)
def pm (pl:List Int)(n:ae):ae:=⟨n.kind,n.int,n.label,n.args.map fun a=>gt pl a.toNat⟩
theorem rA {l:List ae}{i:Nat}(h:i<l.length):l[i]? = some (nd l i):=by
 have:=iT (l:=l) (i:=(i:Int)) (by omega) (by omega)
 unfold ix at this
 rwa [if_pos (by omega),aaH] at this
theorem DB {l:List ae}{i q:Nat}{x:ae}(hi:i<l.length):nd (l.set i x) q=if q=i then x else nd l q:=by
 unfold nd
 simp only [aaH,aaW,ab5]
 by_cases h:i=q
 ·subst h; simp [hi]
 ·rw [if_neg h,if_neg (by omega)]
theorem JD {f:ae→ae}{l:List ae}{i:Nat}(h:i<l.length):nd (l.map f) i=f (nd l i):=by
 have h1:=rA (l:=l.map f) (i:=i) (by simpa using h)
 rw [abi,rA h] at h1
 exact (aa2 h1).symm
theorem Lu {f:Int→ae}{l:List Int}{i:Nat}(h:i<l.length):nd (l.map f) i=f (gt l i):=by
 have h1:=rA (l:=l.map f) (i:=i) (by simpa using h)
 rw [abi,bL h] at h1
 exact (aa2 h1).symm
theorem JE {l r:List ae}(hl:l.length=r.length)(h:∀k,k<l.length→nd l k=nd r k):l=r:=by
 apply abF fun k=>?_
 by_cases hk:k<l.length
 ·rw [rA hk,rA (hl ▸ hk),h k hk]
 ·rw [aa1 (by omega),aa1 (by omega)]
theorem BU {m:Nat}{S:List Int}(hn:S.Nodup)(Rx:S.length≤8000):∀(f i:Nat) (pl:List Int),S.length - i<f→i≤S.length→(∀s∈S,0≤s∧s<pl.length)→(∀q,q<i→gt pl (gt S q).toNat=q)→
  ∃JF x,aq.l0 m S f pl (i:Int)=some (JF,x)∧JF.length=pl.length∧∀q,q<S.length→gt JF (gt S q).toNat=q
 | 0,i,pl,hf,_,_,_=>absurd hf (by omega)
 | f+1,i,pl,hf,hi,hS,hq=>by
  unfold aq.l0
  by_cases h:i<S.length
  ·obtain⟨s0,s1⟩:=hS _ (a8 h)
   have hx:∃z,ix pl (gt S i)=some z:=⟨_,gX (k:=(gt S i).toNat) (by omega) (by omega)⟩
   obtain⟨z,hx⟩:=hx
   obtain⟨JF,x,k1,k2,k3⟩:=BU (m:=m) hn Rx f (i+1) (pl.set (gt S i).toNat (i:Int)) (by omega) (by omega) (by simpa using hS) (fun q J5=>by
    rw [fj (by omega)]
    by_cases e:q=i
    ·subst e; rw [if_pos rfl]
    ·have hne:gt S q≠gt S i:=fun e2=>e (vY hn (by omega) h e2)
     have:=hS _ (a8 (l:=S) (k:=q) (by omega))
     rw [if_neg (by omega)]; exact hq q (by omega))
   refine⟨JF,x,?_,by simpa using k2,k3⟩
   rw [if_pos (by simp only [decide_eq_true_eq]; omega),db h,aaA,hx,aaA,ay (by omega) (by omega),show (i:Int)+1=((i+1:Nat):Int) by omega]
   exact k1
  ·exact⟨pl,_,by rw [if_neg (by simp only [decide_eq_true_eq]; omega)],rfl,fun q h=>hq q (by omega)⟩
theorem BV {m:Nat}{S:List Int}(hn:S.Nodup)(Rx:S.length≤8000):∀(f i:Nat) (pl:List Int),S.length - i<f→i≤S.length→(∀s∈S,0≤s∧s<pl.length)→(∀q,q<i→gt pl (gt S q).toNat=q)→
  ∃JF x,aq.l5 m S f pl (i:Int)=some (JF,x)∧JF.length=pl.length∧∀q,q<S.length→gt JF (gt S q).toNat=q
 | 0,i,pl,hf,_,_,_=>absurd hf (by omega)
 | f+1,i,pl,hf,hi,hS,hq=>by
  unfold aq.l5
  by_cases h:i<S.length
  ·obtain⟨s0,s1⟩:=hS _ (a8 h)
   have hx:∃z,ix pl (gt S i)=some z:=⟨_,gX (k:=(gt S i).toNat) (by omega) (by omega)⟩
   obtain⟨z,hx⟩:=hx
   obtain⟨JF,x,k1,k2,k3⟩:=BV (m:=m) hn Rx f (i+1) (pl.set (gt S i).toNat (i:Int)) (by omega) (by omega) (by simpa using hS) (fun q J5=>by
    rw [fj (by omega)]
    by_cases e:q=i
    ·subst e; rw [if_pos rfl]
    ·have hne:gt S q≠gt S i:=fun e2=>e (vY hn (by omega) h e2)
     have:=hS _ (a8 (l:=S) (k:=q) (by omega))
     rw [if_neg (by omega)]; exact hq q (by omega))
   refine⟨JF,x,?_,by simpa using k2,k3⟩
   rw [if_pos (by simp only [decide_eq_true_eq]; omega),db h,aaA,hx,aaA,ay (by omega) (by omega),show (i:Int)+1=((i+1:Nat):Int) by omega]
   exact k1
  ·exact⟨pl,_,by rw [if_neg (by simp only [decide_eq_true_eq]; omega)],rfl,fun q h=>hq q (by omega)⟩
theorem E1 {m:Nat}{pl:List Int}{n:ae}(h8:n.args.length≤8)(ha:∀a∈n.args,0≤a∧a<pl.length):∀(f k:Nat),n.args.length - k<f→k≤n.args.length→
  ∃x,aq.l2 m pl n f ((n.args.take k).map fun a=>gt pl a.toNat) (k:Int)=some (n.args.map fun a=>gt pl a.toNat,x)
 | 0,k,hf,_=>absurd hf (by omega)
 | f+1,k,hf,hk=>by
  unfold aq.l2
  by_cases h:k<n.args.length
  ·obtain⟨a0,a1⟩:=ha _ (a8 h)
   have hy:ix pl (gt n.args k)=some (gt pl (gt n.args k).toNat):=gX (by omega) (by omega)
   have hT:n.args.take (k+1)=n.args.take k++[gt n.args k]:=by rw [abL,bL h]; rfl
   have jf:app 8 ((n.args.take k).map fun a=>gt pl a.toNat) [gt pl (gt n.args k).toNat]=some ((n.args.take (k+1)).map fun a=>gt pl a.toNat):=by
    unfold app; rw [if_pos (by simp; omega),hT,aa8]; rfl
   obtain⟨x,ih⟩:=E1 (m:=m) h8 ha f (k+1) (by omega) (by omega)
   rw [if_pos (by simp only [decide_eq_true_eq]; omega),db h,aaA,hy,aaA,jf,aaA,ay (by omega) (by omega),show (k:Int)+1=((k+1:Nat):Int) by omega]
   exact⟨x,ih⟩
  ·have e:k=n.args.length:=by omega
   subst e
   exact⟨_,by rw [if_neg (by simp),abO]⟩
theorem E2 {m:Nat}{pl:List Int}{n:ae}(h8:n.args.length≤8)(ha:∀a∈n.args,0≤a∧a<pl.length):∀(f k:Nat),n.args.length - k<f→k≤n.args.length→
  ∃x,aq.l7 m pl n f ((n.args.take k).map fun a=>gt pl a.toNat) (k:Int)=some (n.args.map fun a=>gt pl a.toNat,x)
 | 0,k,hf,_=>absurd hf (by omega)
 | f+1,k,hf,hk=>by
  unfold aq.l7
  by_cases h:k<n.args.length
  ·obtain⟨a0,a1⟩:=ha _ (a8 h)
   have hy:ix pl (gt n.args k)=some (gt pl (gt n.args k).toNat):=gX (by omega) (by omega)
   have hT:n.args.take (k+1)=n.args.take k++[gt n.args k]:=by rw [abL,bL h]; rfl
   have jf:app 8 ((n.args.take k).map fun a=>gt pl a.toNat) [gt pl (gt n.args k).toNat]=some ((n.args.take (k+1)).map fun a=>gt pl a.toNat):=by
    unfold app; rw [if_pos (by simp; omega),hT,aa8]; rfl
   obtain⟨x,ih⟩:=E2 (m:=m) h8 ha f (k+1) (by omega) (by omega)
   rw [if_pos (by simp only [decide_eq_true_eq]; omega),db h,aaA,hy,aaA,jf,aaA,ay (by omega) (by omega),show (k:Int)+1=((k+1:Nat):Int) by omega]
   exact⟨x,ih⟩
  ·have e:k=n.args.length:=by omega
   subst e
   exact⟨_,by rw [if_neg (by simp),abO]⟩
theorem E3 {m:Nat}(hm:2 ^ 30≤m){l:List ae}{S pl:List Int}(ok:mf l)(hS:∀s∈S,0≤s∧s<l.length)(Rx:S.length≤8000)(Cw:pl.length=l.length):∀(f i:Nat),S.length - i<f→i≤S.length→
  ∃x,aq.l1 m l S pl f ((S.take i).map fun s=>pm pl (nd l s)) (i:Int)=some (S.map fun s=>pm pl (nd l s),x)
 | 0,i,hf,_=>absurd hf (by omega)
 | f+1,i,hf,hi=>by
  have kV:(2:Nat) ^ 30=1073741824:=by decide
  unfold aq.l1
  by_cases h:i<S.length
  ·obtain⟨s0,s1⟩:=hS _ (a8 h)
   obtain⟨n1,n2⟩:=ok.2 _ (iN s0 s1)
   obtain⟨x,q1⟩:=E1 (m:=m) (pl:=pl) (n:=nd l (gt S i)) n1 (fun a ha=>by have:=n2 a ha; omega) m 0 (by omega) (by omega)
   have q1:aq.l2 m pl (nd l (gt S i)) m [] 0=_:=q1
   have hT:S.take (i+1)=S.take i++[gt S i]:=by rw [abL,bL h]; rfl
   have jf:app 56 ((S.take i).map fun s=>pm pl (nd l s)) [ae.mk (nd l (gt S i)).kind (nd l (gt S i)).int (nd l (gt S i)).label ((nd l (gt S i)).args.map fun a=>gt pl a.toNat)]=some ((S.take (i+1)).map fun s=>pm pl (nd l s)):=by
    unfold app; rw [if_pos (by simp; omega),hT,aa8]; rfl
   obtain⟨x,ih⟩:=E3 hm ok hS Rx Cw f (i+1) (by omega) (by omega)
   rw [if_pos (by simp only [decide_eq_true_eq]; omega),db h,aaA,iT s0 s1,aaA,q1,aaA]
   dsimp only
   rw [jf,aaA,ay (by omega) (by omega),show (i:Int)+1=((i+1:Nat):Int) by omega]
   exact⟨x,ih⟩
  ·have e:i=S.length:=by omega
   subst e
   exact⟨_,by rw [if_neg (by simp),abO]⟩
theorem E4 {m:Nat}{P:List ae}{c:List Int}(hc:c.length=P.length){i:Nat}(hi:i<P.length)(h8:(nd P i).args.length≤8)(ha:∀a∈(nd P i).args,0≤a∧a<P.length):∀(f k:Nat),(nd P i).args.length - k<f→k≤(nd P i).args.length→
  ∃x,aq.l4 m c (i:Int) f (P.set i ⟨(nd P i).kind,(nd P i).int,(nd P i).label,(((nd P i).args.take k).map fun a=>gt c a.toNat)++(nd P i).args.drop k⟩) (k:Int)=some (P.set i (pm c (nd P i)),x)
 | 0,k,hf,_=>absurd hf (by omega)
 | f+1,k,hf,hk=>by
  unfold aq.l4
  have oV:∀w,ix (P.set i w) (i:Int)=some w:=fun w=>by
   rw [iT (by omega) (by simpa using hi),DB hi,if_pos rfl]
  have hlen:((((nd P i).args.take k).map fun a=>gt c a.toNat)++(nd P i).args.drop k).length=(nd P i).args.length:=by simp; omega
  rw [oV,aaA]
  by_cases h:k<(nd P i).args.length
  ·have hg:gt ((((nd P i).args.take k).map fun a=>gt c a.toNat)++(nd P i).args.drop k) k=gt (nd P i).args k:=by
    unfold gt
    rw [aaW,aaW,aaY (by simp; omega)]
    simp only [aaX,abP,List.getElem?_drop]
    congr 2; omega
   obtain⟨a0,a1⟩:=ha _ (a8 h)
   have hx:ix ((((nd P i).args.take k).map fun a=>gt c a.toNat)++(nd P i).args.drop k) (k:Int)=some (gt (nd P i).args k):=by rw [db (by omega),hg]
   have hy:ix c (gt (nd P i).args k)=some (gt c (gt (nd P i).args k).toNat):=gX (by omega) (by omega)
   have CD:((((nd P i).args.take k).map fun a=>gt c a.toNat)++(nd P i).args.drop k).set k (gt c (gt (nd P i).args k).toNat)=(((nd P i).args.take (k+1)).map fun a=>gt c a.toNat)++(nd P i).args.drop (k+1):=by
    have hT:(nd P i).args.take (k+1)=(nd P i).args.take k++[gt (nd P i).args k]:=by rw [abL,bL h]; rfl
    have hD:(nd P i).args.drop k=gt (nd P i).args k::(nd P i).args.drop (k+1):=by
     obtain⟨h4,h5⟩:=aaK.1 (bL h)
     rw [←h5]; exact aaP h4
    have J3:(((nd P i).args.take k).map fun a=>gt c a.toNat).length=k:=by simp; omega
    rw [acf _ _ (by omega),J3,acm,hD,List.set_cons_zero,hT,aa8,aaM]
    rfl
   rw [if_pos (by simp only [decide_eq_true_eq]; omega),aaA,aaA]
   dsimp only
   rw [hx,aaA,hy,aaA,aaA,aaH,aaH,List.set_set,CD,ay (by omega) (by omega),show (k:Int)+1=((k+1:Nat):Int) by omega]
   exact E4 hc hi h8 ha f (k+1) (by omega) (by omega)
  ·have e:k=(nd P i).args.length:=by omega
   subst e
   refine⟨((nd P i).args.length:Int),?_⟩
   rw [if_neg (by simp only [decide_eq_true_eq]; omega),abO,List.drop_length,abu]
   rfl
theorem E5 {m:Nat}(hm:2 ^ 30≤m){P:List ae}{c:List Int}(ok:mf P)(hc:c.length=P.length):∀(f i:Nat) (Q:List ae),P.length - i<f→i≤P.length→Q.length=P.length→(∀q,q<P.length→nd Q q=if q<i then pm c (nd P q) else nd P q)→
  ∃x,aq.l3 m c f Q (i:Int)=some (P.map (pm c),x)
 | 0,i,Q,hf,_,_,_=>absurd hf (by omega)
 | f+1,i,Q,hf,hi,hl,hq=>by
  have kV:(2:Nat) ^ 30=1073741824:=by decide
  have h8:=ok.1
  unfold aq.l3
  by_cases h:i<P.length
  ·obtain⟨n1,n2⟩:=Bf ok h
   have Sq:nd Q i=nd P i:=by rw [hq i h,if_neg (by omega)]
   obtain⟨x,q1⟩:=E4 (m:=m) (P:=Q) (c:=c) (by omega) (i:=i) (by omega) (by rw [Sq]; exact n1) (by rw [Sq,hl]; exact n2) m 0 (by rw [Sq]; omega) (by omega)
   have oV:Q.set i ⟨(nd Q i).kind,(nd Q i).int,(nd Q i).label,(((nd Q i).args.take 0).map fun a=>gt c a.toNat)++(nd Q i).args.drop 0⟩=Q:=by
    refine JE (by simp) fun k hk=>?_
    rw [DB (by omega)]
    by_cases e:k=i
    ·subst e; rw [if_pos rfl]; simp
    ·rw [if_neg e]
   rw [oV] at q1
   have q1:aq.l4 m c (i:Int) m Q 0=_:=q1
   rw [if_pos (by simp only [decide_eq_true_eq]; omega),q1,aaA]
   dsimp only
   rw [ay (by omega) (by omega),show (i:Int)+1=((i+1:Nat):Int) by omega]
   refine E5 hm ok hc f (i+1) _ (by omega) (by omega) (by simpa using hl) fun q Zg=>?_
   rw [DB (by omega)]
   by_cases e:q=i
   ·subst e; rw [if_pos rfl,if_pos (by omega),Sq]
   ·rw [if_neg e,hq q Zg]
    by_cases hlt:q<i
    ·rw [if_pos hlt,if_pos (by omega)]
    ·rw [if_neg hlt,if_neg (by omega)]
  ·have e:i=P.length:=by omega
   subst e
   refine⟨(P.length:Int),?_⟩
   rw [if_neg (by simp only [decide_eq_true_eq]; omega)]
   have:Q=P.map (pm c):=JE (by simpa using hl) fun k hk=>by rw [hq k (by omega),if_pos (by omega),JD (by omega)]
   rw [this]
theorem JG {m:Nat}(hm:2 ^ 30≤m){P:List ae}{T pl:List Int}(ok:mf P)(hT:∀t∈T,0≤t∧t<P.length)(Zh:T.length≤8000)(Cw:P.length≤pl.length):∀(f i:Nat),T.length - i<f→i≤T.length→
  ∃x,aq.l6 m P T pl f (i:Int) ((T.take i).map fun t=>pm pl (nd P t)) 0=some (x,T.map fun t=>pm pl (nd P t),0)
 | 0,i,hf,_=>absurd hf (by omega)
 | f+1,i,hf,hi=>by
  have kV:(2:Nat) ^ 30=1073741824:=by decide
  unfold aq.l6
  by_cases h:i<T.length
  ·obtain⟨s0,s1⟩:=hT _ (a8 h)
   obtain⟨n1,n2⟩:=ok.2 _ (iN s0 s1)
   obtain⟨x,q1⟩:=E2 (m:=m) (pl:=pl) (n:=nd P (gt T i)) n1 (fun a ha=>by have:=n2 a ha; omega) m 0 (by omega) (by omega)
   have q1:aq.l7 m pl (nd P (gt T i)) m [] 0=_:=q1
   have Zi:T.take (i+1)=T.take i++[gt T i]:=by rw [abL,bL h]; rfl
   have jf:app 56 ((T.take i).map fun t=>pm pl (nd P t)) [ae.mk (nd P (gt T i)).kind (nd P (gt T i)).int (nd P (gt T i)).label ((nd P (gt T i)).args.map fun a=>gt pl a.toNat)]=some ((T.take (i+1)).map fun t=>pm pl (nd P t)):=by
    unfold app; rw [if_pos (by simp; omega),Zi,aa8]; rfl
   obtain⟨x,ih⟩:=JG hm ok hT Zh Cw f (i+1) (by omega) (by omega)
   rw [if_pos (by simp only [decide_eq_true_eq]; omega),db h,aaA,iT s0 s1,aaA,q1,aaA]
   dsimp only
   rw [jf,aaA,ay (by omega) (by omega),show (i:Int)+1=((i+1:Nat):Int) by omega]
   exact⟨x,ih⟩
  ·have e:i=T.length:=by omega
   subst e
   exact⟨_,by rw [if_neg (by simp),abO]⟩
end Go.Proofs.YtmekcfdllhphlaaGreatDoor
namespace Go.Proofs.YtmekcfdllhphlaaGreatDoor
open Go Go.R
open Go.IntKind (i64 u64 u8 u32)
inductive Way (l:List ae):Nat→Nat→Prop
 | one {i k:Nat}:k<na l i→Way l i (ar l i k)
 | more {i j k:Nat}:Way l i j→k<na l j→Way l i (ar l j k)
theorem Lv {l:List ae}{c od:List Int}(ok:mf l)(M:Ot l c od){i j:Nat}(w:Way l i j)(hi:i<l.length):j<l.length∧∀x:Nat,x<l.length→(x:Int)∈od→gt c x=gt c i→∃y:Nat,y<l.length∧gt c y=gt c j∧(y:Int)∈od∧od.idxOf (y:Int)<od.idxOf (x:Int):=by
 induction w with
 | @one k hk=>
  refine⟨(lq ok hi hk).1,fun x hx Ry e=>?_⟩
  have hA:=M.min.top i x hi hx e.symm
  have Xm:k<na l x:=by have:=hA.len; unfold na at *; omega
  obtain⟨r1,r2⟩:=M.xm x Ry k Xm
  exact⟨ar l x k,(lq ok hx Xm).1,(M.min.arg i x hi hx e.symm k hk).symm,r1,r2⟩
 | @more j k w hk ih=>
  obtain⟨hj,ih⟩:=ih
  refine⟨(lq ok hj hk).1,fun x hx Ry e=>?_⟩
  obtain⟨y,hy,ey,Vc,hlt⟩:=ih x hx Ry e
  have hA:=M.min.top j y hj hy ey.symm
  have Xn:k<na l y:=by have:=hA.len; unfold na at *; omega
  obtain⟨r1,r2⟩:=M.xm y Vc k Xn
  exact⟨ar l y k,(lq ok hy Xn).1,(M.min.arg j y hj hy ey.symm k hk).symm,r1,by omega⟩
theorem DC {l:List ae}{c od:List Int}(ok:mf l)(M:Ot l c od)(h0:0<l.length)(hw:∀j,0<j→j<l.length→Way l 0 j):gt c 0=0:=by
 obtain⟨r1,r2,r3⟩:=M.rI 0 h0
 by_cases Xo:((0:Nat):Int)∈od
 ·by_cases hz:gt c 0=0
  ·exact hz
  ·exfalso
   have w:=hw (gt c 0).toNat (by omega) (by omega)
   have key:∀N x:Nat,od.idxOf (x:Int)<N→x<l.length→(x:Int)∈od→gt c x=gt c 0→False:=by
    intro N
    induction N with
    | zero=>intro x h; omega
    | succ N ih=>
     intro x hN hx Ry e
     obtain⟨y,hy,ey,Vc,hlt⟩:=(Lv ok M w h0).2 x hx Ry e
     exact ih y (by omega) hy Vc (by rw [ey,r3])
   exact key _ 0 (abm _) h0 Xo rfl
 ·have:=M.Zd 0 h0 Xo
  omega
theorem lock {l P5:List ae}{κ1:Int→Int}{K2:Int→Int}{Can:Int→Prop}(Vd:∀v w,Can v→Can w→K2 v=K2 w→v=w)
  (hargs:∀a v:Int,0≤a→a<l.length→Can v→κ1 a=K2 v→(nd l a).args.map κ1=(nd P5 v).args.map K2) (Ve:∀v,Can v→∀a∈(nd P5 v).args,Can a) (ok:mf l) {Vf o2 Xp:List Int}
  (h:xp id (fun v=>(nd P5 v).args) Vf o2 Xp):∀w5 o1:List Int,w5.map κ1=Vf.map K2→o1.map κ1=o2.map K2→(∀b∈Vf,Can b)→(∀b∈o2,Can b)→(∀a∈w5,0≤a∧a<l.length)→
  ∃Pe,xp κ1 (fun v=>(nd l v).args) w5 o1 Pe∧Pe.map κ1=Xp.map K2:=by
 induction h with
 | nil o=>
  intro w5 o1 hs ho _ _ _
  have:w5=[]:=by simpa using hs
  subst this
  exact⟨o1,.nil o1,ho⟩
 | @skip v st o o' hm _ ih=>
  intro w5 o1 hs ho c1 c2 hr
  cases w5 with
  | nil=>simp at hs
  | cons a w5=>
   simp only [aa6,List.cons.injEq] at hs
   obtain⟨Pe,k1,k2⟩:=ih w5 o1 hs.2 ho (fun b hb=>c1 b (by simp [hb])) c2 (fun x hx=>hr x (by simp [hx]))
   refine⟨Pe,.skip ?_ k1,k2⟩
   rw [hs.1,ho]
   exact aba.2 ⟨v,by simpa using hm,rfl⟩
 | @push v st o o' hn _ ih=>
  intro w5 o1 hs ho c1 c2 hr
  cases w5 with
  | nil=>simp at hs
  | cons a w5=>
   simp only [aa6,List.cons.injEq] at hs
   have hv:=c1 v (by simp)
   have ha:=hr a (by simp)
   have e:=hargs a v ha.1 ha.2 hv hs.1
   obtain⟨Pe,k1,k2⟩:=ih ((nd l a).args++w5) (o1++[a]) (by rw [aa8,aa8,e,hs.2]) (by rw [aa8,aa8,ho]; simp [hs.1]) (fun b hb=>by
    rcases aaQ.1 hb with hb | hb
    ·exact Ve v hv b hb
    ·exact c1 b (by simp [hb])) (fun b hb=>by
    rcases aaQ.1 hb with hb | hb
    ·exact c2 b hb
    ·rw [aaO] at hb; subst hb; exact hv) (fun x hx=>by
    rcases aaQ.1 hx with hx | hx
    ·exact (ok.2 _ (iN ha.1 ha.2)).2 x hx
    ·exact hr x (by simp [hx]))
   refine⟨Pe,.push ?_ k1,k2⟩
   rw [hs.1,ho]
   intro hm
   obtain⟨w,w1,w2⟩:=aba.1 hm
   have:=Vd v w hv (c2 w w1) w2.symm
   subst this
   exact hn (by simpa using w1)
theorem JH {m:Nat}(hm:2 ^ 41≤m){t:ak}(h:kl t=true):∃s,fm.f m t=some s∧aq.f m t.nodes t.root=some s:=by
 have kV:(2:Nat) ^ 30=1073741824:=by decide
 have qO:(2:Nat) ^ 41=2199023255552:=by decide
 have Gw:2 ^ 30≤m:=by omega
 obtain⟨ok,h1,r0,r1,hT⟩:=su h
 obtain⟨r,ns,e1,M,Q,_⟩:=Dw hm h
 have h8:=ok.1
 generalize hl:t.nodes=l at *
 have Vg:xp (jb r) (fun v=>(nd l v).args) [t.root] [] (vZ r l m t.root []):=E0 ok m t.root [] [] _ r0 r1 ⟨by simp,fun x hx=>by cases hx⟩ (by simp; omega) (.nil _)
 obtain⟨S,s1,s2⟩:=rz Gw ok r0 r1
 have hA:∀v:Int,0≤v→v<l.length→∀a∈(nd l v).args,0≤a∧a<l.length:=fun v a b=>(ok.2 _ (iN a b)).2
 obtain⟨_,Sr,Sn,_,Sc⟩:=s2.facts hA (fun v hv=>by rw [aaO] at hv; subst hv; exact⟨r0,r1⟩) (fun v hv=>by cases hv) (by simp)
 rw [List.map_id] at Sn
 have Sc:∀v∈S,∀a∈(nd l v).args,a∈S:=fun v hv a ha=>by have:=Sc (fun v hv=>by cases hv) v hv a ha; simpa using this
 have S0:∃T,S=t.root::T:=by
  cases s2 with
  | skip Av _=>simp at Av
  | push _ k=>
   obtain⟨⟨T,e⟩,_⟩:=k.facts hA (fun v hv=>by
    rcases aaQ.1 hv with hv | hv
    ·exact hA _ r0 r1 v hv
    ·cases hv) (fun v hv=>by simp at hv; subst hv; exact⟨r0,r1⟩) (by simp)
   exact⟨T,by simpa using e⟩
 have Sl:S.length≤l.length:=ry Sn Sr
 have Sp:0<S.length:=by obtain⟨T,rfl⟩:=S0; simp
 have Mu:gt S 0=t.root:=by obtain⟨T,rfl⟩:=S0; rfl
 have Rz:=s2.from (root:=t.root) (fun v hv=>by rw [aaO] at hv; exact .inl hv) (fun i hi=>absurd hi (by simp))
 have e0:xb 8 (l.length:Int) (0:Int)=some (aaV l.length 0):=by unfold xb; rw [if_pos ⟨by omega,by rw [aaH]; omega⟩,aaH]
 obtain⟨pl,x1,p1,p2,p3⟩:=BU (m:=m) Sn (by omega) m 0 (aaV l.length 0) (by omega) (by omega) (by simpa using Sr) (fun q hq=>absurd hq (by omega))
 rw [acg] at p2
 have p1:aq.l0 m S m (aaV l.length 0) 0=_:=p1
 obtain⟨x2,p4⟩:=E3 Gw ok Sr (by omega) p2 m 0 (by omega) (by omega)
 have p4:aq.l1 m l S pl m [] 0=_:=p4
 generalize Vh:(S.map fun s=>pm pl (nd l s))=P1 at p4
 have Ss:P1.length=S.length:=by rw [←Vh]; simp
 have Mw:∀i:Nat,i<S.length→nd P1 i=pm pl (nd l (gt S i)):=fun i hi=>by rw [←Vh,Lu hi]
 have Su:∀{x:Int},x∈S→gt S (gt pl x.toNat).toNat=x∧0≤gt pl x.toNat∧gt pl x.toNat<S.length:=fun hx=>by
  obtain⟨q,hq,e⟩:=fL hx
  have:=p3 q hq
  rw [e] at this
  rw [this,aaH]; exact⟨e,by omega,by omega⟩
 have Vi:∀i:Nat,i<S.length→∀a∈(nd l (gt S i)).args,a∈S:=fun i hi=>Sc _ (a8 hi)
 have Lw:mf P1:=by
  refine⟨by omega,fun n hn=>?_⟩
  rw [←Vh] at hn
  obtain⟨s,hs,rfl⟩:=aba.1 hn
  have hr:=Sr s hs
  refine⟨by simpa [pm] using (ok.2 _ (iN hr.1 hr.2)).1,fun a ha=>?_⟩
  obtain⟨x,hx,rfl⟩:=aba.1 ha
  have:=Su (Sc s hs x hx)
  rw [Ss]; exact this.2
 obtain⟨c,od,c1,C⟩:=BS Gw Lw
 have cl:c.length=P1.length:=C.min.len
 have Vj:∀i:Nat,i<S.length→na P1 i=na l (gt S i).toNat:=fun i hi=>by
  have:=Sr _ (a8 hi)
  unfold na
  rw [Mw i hi]
  show ((nd l (gt S i)).args.map _).length=_
  rw [aaX,show (((gt S i).toNat:Nat):Int)=gt S i by omega]
 have RA:∀i:Nat,i<S.length→∀k,k<na P1 i→gt S (ar P1 i k)=gt (nd l (gt S i)).args k:=fun i hi k hk=>by
  have rS:k<(nd l (gt S i)).args.length:=by
   have:=hk; unfold na at this; rw [Mw i hi] at this; simpa [pm] using this
  have hx:=Vi i hi _ (a8 rS)
  have:gt (nd P1 i).args k=gt pl (gt (nd l (gt S i)).args k).toNat:=by
   rw [Mw i hi]
   have h1:=bL (l:=(pm pl (nd l (gt S i))).args) (k:=k) (by simpa [pm] using rS)
   have h2:(pm pl (nd l (gt S i))).args[k]? = some (gt pl (gt (nd l (gt S i)).args k).toNat):=by
    show ((nd l (gt S i)).args.map _)[k]? = _
    rw [abi,bL rS]; rfl
   rw [h2] at h1; exact (aa2 h1).symm
  unfold ar
  rw [this]
  exact (Su hx).1
 have Zj:∀j,0<j→j<P1.length→Way P1 0 j:=by
  have:∀N j,j<N→0<j→j<P1.length→Way P1 0 j:=by
   intro N
   induction N with
   | zero=>intro j h; omega
   | succ N ih=>
    intro j hN hj Xq
    rcases Rz j (by omega) with e | ⟨q,hq,Av⟩
    ·have:=vY Sn (by omega) Sp (e.trans Mu.symm)
     omega
    ·obtain⟨k,hk,e⟩:=fL Av
     have G7:k<na P1 q:=by unfold na; rw [Mw q (by omega)]; simpa [pm] using hk
     have h2:=RA q (by omega) k G7
     rw [e] at h2
     have h3:=(lq Lw (i:=q) (by omega) G7).1
     have e4:ar P1 q k=j:=vY Sn (by omega) (by omega) h2
     rw [←e4]
     by_cases Zk:q=0
     ·subst Zk; exact .one G7
     ·exact .more (ih q (by omega) (by omega) (by omega)) G7
  exact fun j=>this (j+1) j (abm _)
 have Zl:gt c 0=0:=DC Lw C (by omega) Zj
 have BW:∀i:Nat,i<S.length→(((gt S i).toNat:Nat):Int)=gt S i∧(gt S i).toNat<l.length:=fun i hi=>by have:=Sr _ (a8 hi); omega
 have Xr:∀i j:Nat,i<S.length→j<S.length→(Alike (nd P1 i) (nd P1 j)↔Alike (nd l (gt S i)) (nd l (gt S j))):=fun i j hi hj=>by
  rw [Mw i hi,Mw j hj]
  constructor
  ·intro z; exact⟨z.kind,z.int,z.label,by have:=z.len; simpa [pm] using this⟩
  ·intro z; exact⟨z.kind,z.int,z.label,by have:=z.len; simpa [pm] using this⟩
 have cr:∀i j:Nat,i<S.length→j<S.length→(gt c i=gt c j↔gt r (gt S i).toNat=gt r (gt S j).toNat):=fun i j hi hj=>by
  constructor
  ·intro e
   refine M.max (fun a b=>∃i j:Nat,i<S.length∧j<S.length∧a=(gt S i).toNat∧b=(gt S j).toNat∧gt c i=gt c j) ⟨?_,?_,?_⟩ _ _ ⟨i,j,hi,hj,rfl,rfl,e⟩
   ·rintro a b ⟨i,j,hi,hj,rfl,rfl,_⟩
    exact⟨(BW i hi).2,(BW j hj).2⟩
   ·rintro a b ⟨i,j,hi,hj,rfl,rfl,e⟩
    rw [(BW i hi).1,(BW j hj).1]
    exact (Xr i j hi hj).1 (C.min.top i j (by omega) (by omega) e)
   ·rintro a b ⟨i,j,hi,hj,rfl,rfl,e⟩ k hk
    rw [(BW i hi).1] at hk ⊢
    rw [(BW j hj).1]
    have ur:k<na P1 i:=by rw [Vj i hi]; unfold na; rw [(BW i hi).1]; exact hk
    have OX:k<na P1 j:=by have:=(C.min.top i j (by omega) (by omega) e).len; unfold na at *; omega
    have a1:=(lq Lw (i:=i) (by omega) ur).1
    have a2:=(lq Lw (i:=j) (by omega) OX).1
    refine⟨ar P1 i k,ar P1 j k,by omega,by omega,?_,?_,C.min.arg i j (by omega) (by omega) e k ur⟩
    ·rw [RA i hi k ur]
    ·rw [RA j hj k OX]
  ·intro e
   refine C.min.max (fun a b=>a<S.length∧b<S.length∧gt r (gt S a).toNat=gt r (gt S b).toNat) ⟨?_,?_,?_⟩ i j ⟨hi,hj,e⟩
   ·rintro a b ⟨h1,h2,_⟩; omega
   ·rintro a b ⟨h1,h2,e⟩
    refine (Xr a b h1 h2).2 ?_
    have:=M.top _ _ (BW a h1).2 (BW b h2).2 e
    rwa [(BW a h1).1,(BW b h2).1] at this
   ·rintro a b ⟨h1,h2,e⟩ k hk
    have hA:=M.top _ _ (BW a h1).2 (BW b h2).2 e
    have KH:k<na P1 a:=hk
    have Kj:k<(nd l (((gt S a).toNat:Nat):Int)).args.length:=by have:=Vj a h1; unfold na at this KH; omega
    have hkb:k<na P1 b:=by rw [Vj b h2]; have:=hA.len; unfold na; omega
    have g:=M.arg _ _ (BW a h1).2 (BW b h2).2 e k Kj
    rw [(BW a h1).1,(BW b h2).1] at g
    have a1:=(lq Lw (i:=a) (by omega) KH).1
    have a2:=(lq Lw (i:=b) (by omega) hkb).1
    refine⟨by show ar P1 a k<_; omega,by show ar P1 b k<_; omega,?_⟩
    show gt r (gt S (ar P1 a k)).toNat=gt r (gt S (ar P1 b k)).toNat
    rw [RA a h1 k KH,RA b h2 k hkb]; exact g
 obtain⟨x3,p5⟩:=E5 Gw Lw cl m 0 P1 (by omega) (by omega) rfl (fun q hq=>by rw [if_neg (by omega)])
 have p5:aq.l3 m c m P1 0=_:=p5
 have Xs:∀i:Nat,i<S.length→nd (P1.map (pm c)) i=pm c (nd P1 i):=fun i hi=>JD (by omega)
 have Ow:∀i:Nat,i<S.length→0≤gt c i∧gt c i<S.length∧gt c (gt c i).toNat=gt c i:=fun i hi=>by have:=C.rI i (by omega); rw [Ss] at this; exact this
 have Vk:mf (P1.map (pm c)):=by
  refine⟨by simp; omega,fun n hn=>?_⟩
  obtain⟨n1,RN,rfl⟩:=aba.1 hn
  obtain⟨q1,q2⟩:=Lw.2 n1 RN
  refine⟨by simpa [pm] using q1,fun a ha=>?_⟩
  obtain⟨x,hx,rfl⟩:=aba.1 ha
  have:=q2 x hx
  have:=Ow x.toNat (by omega)
  rw [aaX,Ss]; omega
 obtain⟨T,t1,t2⟩:=rz Gw Vk (root:=0) (by omega) (by simp; omega)
 generalize Zm:P1.map (pm c)=P5 at *
 have P5l:P5.length=S.length:=by rw [←Zm]; simp [Ss]
 have Zn:∀v:Int,0≤v→v<P5.length→∀a∈(nd P5 v).args,0≤a∧a<P5.length:=fun v a b=>(Vk.2 _ (iN a b)).2
 obtain⟨_,Tr,Tn,_,Tc⟩:=t2.facts Zn (fun v hv=>by rw [aaO] at hv; subst hv; omega) (fun v hv=>by cases hv) (by simp)
 rw [List.map_id] at Tn
 have Tc:∀v∈T,∀a∈(nd P5 v).args,a∈T:=fun v hv a ha=>by have:=Tc (fun v hv=>by cases hv) v hv a ha; simpa using this
 have Tl:T.length≤P5.length:=ry Tn Tr
 obtain⟨Vl,x4,p6,p7,p8⟩:=BV (m:=m) Tn (by omega) m 0 pl (by omega) (by omega) (fun s hs=>by have:=Tr s hs; omega) (fun q hq=>absurd hq (by omega))
 have p6:aq.l5 m T m pl 0=_:=p6
 obtain⟨x5,p9⟩:=JG (m:=m) Gw Vk Tr (by omega) (pl:=Vl) (by omega) m 0 (by omega) (by omega)
 have p9:aq.l6 m P5 T Vl m 0 [] 0=_:=p9
 let K2:Int→Int:=fun b=>jb r (gt S b.toNat)
 let Can:Int→Prop:=fun b=>0≤b∧b<S.length∧gt c b.toNat=b
 have Xt:∀x:Int,x∈S→K2 (gt c (gt pl x.toNat).toNat)=jb r x:=fun x hx=>by
  obtain⟨i1,i2,i3⟩:=Su hx
  obtain⟨g1,g2,g3⟩:=Ow (gt pl x.toNat).toNat (by omega)
  show jb r (gt S (gt c (gt pl x.toNat).toNat).toNat)=_
  have:=(cr (gt c (gt pl x.toNat).toNat).toNat (gt pl x.toNat).toNat (by omega) (by omega)).1 g3
  unfold jb
  rw [this,i1]
 have E6:∀v:Int,0≤v→v<S.length→(nd P5 v).args=(nd l (gt S v.toNat)).args.map fun x=>gt c (gt pl x.toNat).toNat:=fun v v0 v1=>by
  have:=Xs v.toNat (by omega)
  rw [show ((v.toNat:Nat):Int)=v by omega] at this
  rw [this]
  have h2:=Mw v.toNat (by omega)
  rw [show ((v.toNat:Nat):Int)=v by omega] at h2
  rw [h2]
  show ((nd l (gt S v.toNat)).args.map _).map _=_
  rw [List.map_map]; rfl
 have same:∀a b:Int,0≤a→a<l.length→0≤b→b<l.length→jb r a=jb r b→Alike (nd l a) (nd l b)∧(nd l a).args.map (jb r)=(nd l b).args.map (jb r):=fun a b a0 a1 b0 b1 e=>by
  have ea:((a.toNat:Nat):Int)=a:=by omega
  have eb:((b.toNat:Nat):Int)=b:=by omega
  have e:gt r a.toNat=gt r b.toNat:=e
  have hA:=M.top a.toNat b.toNat (by omega) (by omega) e
  have hg:=M.arg a.toNat b.toNat (by omega) (by omega) e
  rw [ea,eb] at hA hg
  refine⟨hA,abF fun k=>?_⟩
  simp only [abi]
  by_cases hk:k<(nd l a).args.length
  ·rw [bL hk,bL (by have:=hA.len; omega)]
   simp only [aaG,aaD]
   exact hg k hk
  ·rw [aa1 (by omega),aa1 (by have:=hA.len; omega)]
 obtain⟨o1,q1,q2⟩:=lock (l:=l) (P5:=P5) (κ1:=jb r) (K2:=K2) (Can:=Can) (fun v w hv hw e=>by
   have:=(cr v.toNat w.toNat (by have:=hv.1; have:=hv.2.1; omega) (by have:=hw.1; have:=hw.2.1; omega)).2 e
   rw [hv.2.2,hw.2.2] at this; exact this) (fun a v a0 a1 hv e=>by
   have hS:=a8 (l:=S) (k:=v.toNat) (by have:=hv.1; have:=hv.2.1; omega)
   have hr:=Sr _ hS
   rw [(same a _ a0 a1 hr.1 hr.2 e).2,E6 v hv.1 hv.2.1,List.map_map]
   refine abV fun x hx=>?_
   exact (Xt x (Sc _ hS x hx)).symm) (fun v hv a ha=>by
   rw [E6 v hv.1 hv.2.1] at ha
   obtain⟨x,hx,rfl⟩:=aba.1 ha
   have hS:=a8 (l:=S) (k:=v.toNat) (by have:=hv.1; have:=hv.2.1; omega)
   have:=Su (Sc _ hS x hx)
   exact Ow (gt pl x.toNat).toNat (by omega)) ok t2 [t.root] [] (by
   show [jb r t.root]=[jb r (gt S 0)]; rw [Mu]) rfl (fun b hb=>by
   rw [aaO] at hb; subst hb
   exact⟨by omega,by omega,Zl⟩) (fun b hb=>by cases hb) (fun a ha=>by rw [aaO] at ha; subst ha; exact⟨r0,r1⟩)
 have eo:=q1.Ze Vg
 rw [eo] at q2
 generalize hO:vZ r l m t.root []=O at *
 have OT:O.length=T.length:=by have:=congrArg ack q2; simpa using this
 have OK:∀k,k<T.length→jb r (gt O k)=K2 (gt T k):=fun k hk=>by
  have:=congrArg (fun z=>z[k]?) q2
  simp only [abi] at this
  rw [bL (by omega),bL hk] at this
  simpa using this
 have Zo:ns=T.map fun v=>pm Vl (nd P5 v):=by
  have hlen:=Q.len
  apply abF fun k=>?_
  by_cases hk:k<T.length
  ·rw [Q.new k (by simp) (by omega),abi,bL hk]
   simp only [aaG,aaD]
   have hOr:=Q.vs.Ch _ (a8 (l:=O) (k:=k) (by omega))
   have Xu:=Tr _ (a8 hk)
   have hS:=a8 (l:=S) (k:=(gt T k).toNat) (by omega)
   have Xv:=Sr _ hS
   obtain⟨hA,hM⟩:=same _ _ hOr.1 hOr.2 Xv.1 Xv.2 (OK k hk)
   have Ox:(nd P5 (gt T k)).kind=(nd l (gt S (gt T k).toNat)).kind∧(nd P5 (gt T k)).int=(nd l (gt S (gt T k).toNat)).int∧(nd P5 (gt T k)).label=(nd l (gt S (gt T k).toNat)).label:=by
    have:=Xs (gt T k).toNat (by omega)
    rw [show (((gt T k).toNat:Nat):Int)=gt T k by omega] at this
    rw [this]
    have h2:=Mw (gt T k).toNat (by omega)
    rw [show (((gt T k).toNat:Nat):Int)=gt T k by omega] at h2
    rw [h2]
    exact⟨rfl,rfl,rfl⟩
   unfold IC pm
   rw [hA.kind,hA.int,hA.label,Ox.1,Ox.2.1,Ox.2.2]
   congr 1
   rw [E6 _ Xu.1 (by omega),List.map_map]
   apply abF fun j=>?_
   simp only [abi]
   by_cases hj:j<(nd l (gt O k)).args.length
   ·have Hh:j<(nd l (gt S (gt T k).toNat)).args.length:=by have:=hA.len; omega
    rw [bL hj,bL Hh]
    simp only [aaG,aaD,Function.comp]
    have ex:jb r (gt (nd l (gt O k)).args j)=jb r (gt (nd l (gt S (gt T k).toNat)).args j):=by
     have:=congrArg (fun z=>z[j]?) hM
     simp only [abi] at this
     rw [bL hj,bL Hh] at this
     simpa using this
    have hin:gt c (gt pl (gt (nd l (gt S (gt T k).toNat)).args j).toNat).toNat∈T:=by
     refine Tc _ (a8 hk) _ ?_
     rw [E6 _ Xu.1 (by omega)]
     exact aba.2 ⟨_,a8 Hh,rfl⟩
    obtain⟨q,hq,eq⟩:=fL hin
    have Xw:=p8 q hq
    rw [eq] at Xw
    rw [Xw]
    unfold idx
    have GP:=Q.vs.Kb
    have hget:(O.map (jb r))[q]? = some (jb r (gt (nd l (gt O k)).args j)):=by
     rw [abi,bL (by omega)]
     simp only [aaG,aaD]
     rw [OK q hq,eq,Xt _ (Sc _ hS _ (a8 Hh)),ex]
    obtain⟨g1,g2⟩:=aaK.1 hget
    rw [←g2,GP.idxOf_getElem]
   ·rw [aa1 (by omega),aa1 (by have:=hA.len; omega)]
    rfl
  ·rw [aa1 (by omega),aa1 (by simp; omega)]
 refine⟨⟨ns,0⟩,e1,?_⟩
 unfold aq.f
 rw [s1,aaA,e0,aaA,p1,aaA]
 dsimp only
 rw [p4,aaA]
 dsimp only
 rw [c1,aaA,p5,aaA]
 dsimp only
 rw [t1,aaA,p6,aaA]
 dsimp only
 rw [p9,aaA,Zo]
end Go.Proofs.YtmekcfdllhphlaaGreatDoor
namespace Go.Proofs.YtmekcfdllhphlaaGreatDoor
open Go Go.R
open Go.IntKind (i64 u64 u8 u32)
theorem pM {m:Nat}(hm:2 ^ 41≤m){t:ak}(h0:Ab t):∃s e,dr.f m t=some (s,e)∧eW.f m t=some (s,e)∧(e=0→gU s)∧(e=0↔kl t=true)∧(e≠0→e=2∧s=⟨[],0⟩):=by
 have kV:(2:Nat) ^ 30=1073741824:=by decide
 have qO:(2:Nat) ^ 41=2199023255552:=by decide
 unfold dr.f eW.f
 rw [vU (by omega),BM (by omega),aaA,aaA]
 cases h:kl t with
 | false=>exact⟨_,_,rfl,rfl,fun h=>absurd h (by decide),by simp,fun _=>⟨rfl,rfl⟩⟩
 | true=>
  obtain⟨s,k1,k2⟩:=JH hm h
  obtain⟨s',k3,L⟩:=yo hm h h0
  rw [k1] at k3
  cases k3
  rw [if_neg (by simp),if_neg (by simp),k1,k2]
  exact⟨_,_,rfl,rfl,fun _=>L,by simp,fun h=>absurd rfl h⟩
theorem tu {m:Nat}(hm:2 ^ 41≤m){L:List ak}(hL:L.length≤8)(h0:∀t∈L,Ab t):∀(f i:Nat) (acc:List ak),L.length - i<f→i≤L.length→acc.length≤i→(∀s∈acc,gU s)→
  ∃o,bz.l0 m L f acc (i:Int)=some o∧aS.l0 m L f acc (i:Int)=some o∧(o = .inl ([],2)∨∃ls x,o = .inr (ls,x)∧ls.length≤8∧∀s∈ls,gU s)
 | 0,i,acc,hf,_,_,_=>absurd hf (by omega)
 | f+1,i,acc,hf,hi,ha,I1=>by
  unfold bz.l0 aS.l0
  by_cases h:i<L.length
  ·have hx:ix L (i:Int)=some L[i]:=by unfold ix; rw [if_pos (by omega)]; simp [h]
   obtain⟨s,e,k1,k2,k3,_,_⟩:=pM hm (h0 _ (abe h))
   rw [if_pos (by simp only [decide_eq_true_eq]; omega),if_pos (by simp only [decide_eq_true_eq]; omega),hx,aaA,aaA,k1,k2,aaA,aaA]
   dsimp only
   by_cases he:e=0
   ·subst he
    have jf:app 32 acc [s]=some (acc++[s]):=by unfold app; rw [if_pos (by simp; omega)]
    rw [if_neg (by simp),if_neg (by simp),jf,aaA,aaA,ay (by omega) (by omega),show (i:Int)+1=((i+1:Nat):Int) by omega]
    refine tu hm hL h0 f (i+1) _ (by omega) (by omega) (by simp; omega) fun x hx=>?_
    rcases aaQ.1 hx with hx | hx
    ·exact I1 x hx
    ·simp only [aaO] at hx; subst hx; exact k3 rfl
   ·rw [if_pos (by simpa using he),if_pos (by simpa using he)]
    exact⟨_,rfl,rfl,.inl rfl⟩
  ·refine⟨.inr (acc,(i:Int)),?_,?_,.inr ⟨acc,_,rfl,by omega,I1⟩⟩
   ·rw [if_neg (by simp only [decide_eq_true_eq]; omega)]
   ·rw [if_neg (by simp only [decide_eq_true_eq]; omega)]
theorem BX {m:Nat}{t:ak}(hl:t.nodes.length≤8000):∀(f i:Nat),t.nodes.length - i<f→i≤t.nodes.length→
  ∃o,cD.l0 m t f (i:Int)=some o∧((∃x,o = .inr x)∧(t.nodes.drop i).any (fun n=>n.kind==4)=false∨o = .inl true∧(t.nodes.drop i).any (fun n=>n.kind==4)=true)
 | 0,i,hf,_=>absurd hf (by omega)
 | f+1,i,hf,hi=>by
  unfold cD.l0
  by_cases h:i<t.nodes.length
  ·have hx:ix t.nodes (i:Int)=some t.nodes[i]:=by unfold ix; rw [if_pos (by omega)]; simp [h]
   rw [if_pos (by simp only [decide_eq_true_eq]; omega),hx,aaA,aaP h,List.any_cons]
   cases hb:t.nodes[i].kind==(4:Int) with
   | true=>exact⟨_,rfl,.inr ⟨rfl,rfl⟩⟩
   | false=>
    obtain⟨o,k1,k2⟩:=BX (m:=m) hl f (i+1) (by omega) (by omega)
    rw [if_neg (by simp),ay (by omega) (by omega),show (i:Int)+1=((i+1:Nat):Int) by omega,k1]
    exact⟨o,rfl,by simpa using k2⟩
  ·refine⟨.inr (i:Int),by rw [if_neg (by simp only [decide_eq_true_eq]; omega)],.inl ⟨⟨_,rfl⟩,?_⟩⟩
   rw [aaU (by omega)]; rfl
theorem DD {m:Nat}(hm:2 ^ 30≤m){t:ak}(hl:t.nodes.length≤8000):cD.f m t=some (t.nodes.any fun n=>n.kind==4):=by
 have kV:(2:Nat) ^ 30=1073741824:=by decide
 obtain⟨o,k1,k2⟩:=BX (m:=m) hl m 0 (by omega) (by omega)
 have k1:cD.l0 m t m 0=_:=k1
 rw [aa3] at k2
 unfold cD.f
 rw [k1,aaA]
 rcases k2 with⟨⟨x,rfl⟩,k⟩| ⟨rfl,k⟩
 ·rw [k]
 ·rw [k]
theorem JI {m:Nat}(hm:2 ^ 30≤m){ls:List ak}{i:Nat}(hi:i<ls.length)(L:gU ls[i])(W:kQ ls[i]):∀(f k:Nat) (out:List Int),ls[i].nodes.length - k<f→k≤ls[i].nodes.length→out.length+200*(ls[i].nodes.length - k)≤300000000000→
  ∃x,aS.l2 m ls (i:Int) f out (k:Int)=some (out++dz (ls[i].nodes.drop k),x)
 | 0,k,out,hf,_,_=>absurd hf (by omega)
 | f+1,k,out,hf,hk,hb=>by
  have kV:(2:Nat) ^ 30=1073741824:=by decide
  have wc:=L.ng
  have hx:ix ls (i:Int)=some ls[i]:=by unfold ix; rw [if_pos (by omega)]; simp [hi]
  unfold aS.l2
  rw [hx,aaA]
  by_cases h:k<ls[i].nodes.length
  ·have hn:ix ls[i].nodes (k:Int)=some ls[i].nodes[k]:=by unfold ix; rw [if_pos (by omega)]; simp [h]
   have Av:=abe h
   have Uy:=nS (W.nodes _ Av) (L.nodes _ Av).1
   obtain⟨x,ih⟩:=JI hm hi L W f (k+1) (out++bY ls[i].nodes[k]) (by omega) (by omega) (by simp; omega)
   refine⟨x,?_⟩
   rw [if_pos (by simp only [decide_eq_true_eq]; omega),aaA,hn,aaA,Oi (by omega) (W.nodes _ Av) (L.nodes _ Av).1,aaA,nU (by omega),aaA,ay (by omega) (by omega),show (k:Int)+1=((k+1:Nat):Int) by omega,ih,aaP h,fX,aaM]
  ·refine⟨(k:Int),?_⟩
   rw [if_neg (by simp only [decide_eq_true_eq]; omega),aaU (by omega)]
   simp [dz]
theorem JJ {m:Nat}(hm:2 ^ 30≤m){ls:List ak}(h8:ls.length≤8)(L:∀t∈ls,gU t):∀(f i:Nat) (out:List Int),ls.length - i<f→i≤ls.length→out.length+2000000*(ls.length - i)≤200000000000→
  ∃o,aS.l1 m ls f out (i:Int)=some o∧((ls.drop i).any (fun t=>t.nodes.any fun n=>n.kind==4)=true∧o = .inl ([],4)∨(ls.drop i).any (fun t=>t.nodes.any fun n=>n.kind==4)=false∧∃x,o = .inr (out++bM (ls.drop i),x))
 | 0,i,out,hf,_,_=>absurd hf (by omega)
 | f+1,i,out,hf,hi,hb=>by
  have kV:(2:Nat) ^ 30=1073741824:=by decide
  have Le:(2:Nat) ^ 64=18446744073709551616:=by decide
  unfold aS.l1
  by_cases h:i<ls.length
  ·have hx:ix ls (i:Int)=some ls[i]:=by unfold ix; rw [if_pos (by omega)]; simp [h]
   have Li:=L _ (abe h)
   have wc:=Li.ng
   rw [if_pos (by simp only [decide_eq_true_eq]; omega),hx,aaA,DD hm wc,aaA,aaP h,List.any_cons]
   cases hn:ls[i].nodes.any fun n=>n.kind==4 with
   | true=>exact⟨_,rfl,.inl ⟨rfl,rfl⟩⟩
   | false=>
    have Wi:=Li.w hn
    have het:=tk Li Wi
    have Nn:=di (n:=ls[i].nodes.length) (by omega)
    obtain⟨x,q1⟩:=JI (m:=m) hm h Li Wi m 0 (out++bX ls[i].nodes.length) (by omega) (by omega) (by simp; omega)
    have q1:aS.l2 m ls (i:Int) m (out++bX ls[i].nodes.length) 0=_:=q1
    have hE:out++bX ls[i].nodes.length++dz ls[i].nodes=out++hY ls[i]:=by unfold hY; rw [aaM]
    rw [aa3,hE] at q1
    obtain⟨o,k1,k2⟩:=JJ hm h8 L f (i+1) (out++hY ls[i]) (by omega) (by omega) (by simp; omega)
    rw [if_neg (by simp),aaA,dW (x:=(ls[i].nodes.length:Int)) (by omega) (by omega),rn (by omega) (by omega),aaA,nU (by omega),aaA,q1,aaA]
    dsimp only
    rw [ay (by omega) (by omega),show (i:Int)+1=((i+1:Nat):Int) by omega,k1]
    refine⟨o,rfl,?_⟩
    rw [gW,←aaM]
    simpa using k2
  ·refine⟨.inr (out,(i:Int)),by rw [if_neg (by simp only [decide_eq_true_eq]; omega)],.inr ⟨?_,(i:Int),?_⟩⟩
   ·rw [aaU (by omega)]; rfl
   ·rw [aaU (by omega)]; simp [bM]
theorem Oy {m:Nat}(hm:10≤m){s:Nat}(hs:s<4294967296){out:List Int}(ho:out.length≤200000000000):∃c x,aS.l3 m m out (s:Int) 0=some (out++[((s % 256:Nat):Int),((s / 256 % 256:Nat):Int),((s / 65536 % 256:Nat):Int),((s / 16777216 % 256:Nat):Int)],c,x):=by
 have step:∀(f:Nat) (out:List Int) (n i:Nat),i<4→out.length≤300000000000→n<4294967296→aS.l3 m (f+1) out (n:Int) (i:Int)=aS.l3 m f (out++[((n % 256:Nat):Int)]) ((n / 256:Nat):Int) ((i+1:Nat):Int):=fun f out n i hi hl hn=>by
  have e1:u8.wrap (abE (n:Int) 256)=((n % 256:Nat):Int):=by rw [abB (by omega),hU]; omega
  have e2:i64.wrap (abr (n:Int) 256)=((n / 256:Nat):Int):=by rw [abX (by omega),ay (by omega) (by omega)]; omega
  show (if (decide ((i:Int)<(4:Int)))=true then _ else _)=_
  rw [if_pos (by simp only [decide_eq_true_eq]; omega),e1,e2,nU (by simp; omega),aaA,ay (by omega) (by omega),show (i:Int)+1=((i+1:Nat):Int) by omega]
 obtain⟨k,rfl⟩:∃k,m=k+1+1+1+1+1:=⟨m - 5,by omega⟩
 have d1:s / 256 / 256=s / 65536:=by omega
 have d2:s / 65536 / 256=s / 16777216:=by omega
 have h0:=step (k+1+1+1+1) out s 0 (by omega) (by omega) hs
 have h0:aS.l3 (k+1+1+1+1+1) (k+1+1+1+1+1) out (s:Int) 0=_:=h0
 rw [h0,step _ _ _ _ (by omega) (by simp; omega) (by omega),step _ _ _ _ (by omega) (by simp; omega) (by omega),step _ _ _ _ (by omega) (by simp; omega) (by omega),d1,d2]
 unfold aS.l3
 rw [if_neg (by simp)]
 exact⟨_,_,by simp; exact⟨rfl,rfl⟩⟩
theorem Gx {m:Nat}{b:List Int}{s:Nat}(h:bj.f m b=some (s:Int))(hs:s<4294967296):dm.f m b=some [((s % 256:Nat):Int),((s / 256 % 256:Nat):Int),((s / 65536 % 256:Nat):Int),((s / 16777216 % 256:Nat):Int)]:=by
 have sh:∀k,k≤24→gO .i64 (s:Int) k=((s / 2 ^ k:Nat):Int):=fun k hk=>by
  unfold gO
  have:min k IntKind.i64.bits=k:=by show min k 64=k; omega
  rw [this,ach _ (by exact_mod_cast acq (2 ^ k))]
  norm_cast
 unfold dm.f
 rw [h,aaA,sh 8 (by omega),sh 16 (by omega),sh 24 (by omega),hU,hU,hU,hU]
 have p8:(2:Nat) ^ 8=256:=by decide
 have Zp:(2:Nat) ^ 16=65536:=by decide
 have Zq:(2:Nat) ^ 24=16777216:=by decide
 rw [p8,Zp,Zq]
 congr 1
theorem BY {m:Nat}(hm:2 ^ 41≤m){L:List ak}(h0:∀t∈L,Ab t):∃r,bz.f m L=some r∧aS.f m L=some r:=by
 have kV:(2:Nat) ^ 30=1073741824:=by decide
 have qO:(2:Nat) ^ 41=2199023255552:=by decide
 have mZ:(2:Nat) ^ 40=1099511627776:=by decide
 have KU:(2:Nat) ^ 42=4398046511104:=by decide
 have Le:(2:Nat) ^ 64=18446744073709551616:=by decide
 unfold bz.f aS.f
 by_cases h:L.length≤8
 ·rw [if_neg (by simp only [decide_eq_true_eq]; omega),if_neg (by simp only [decide_eq_true_eq]; omega)]
  obtain⟨o,k1,k2,k3⟩:=tu hm h h0 m 0 [] (by omega) (by omega) (by simp) (fun s hs=>by cases hs)
  have k1:bz.l0 m L m [] 0=_:=k1
  have k2:aS.l0 m L m [] 0=_:=k2
  rw [k1,k2,aaA,aaA]
  rcases k3 with rfl | ⟨ls,x,rfl,hl,Kc⟩
  ·exact⟨_,rfl,rfl⟩
  ·dsimp only
   obtain⟨o,q1,q2⟩:=JJ (m:=m) (by omega) hl Kc m 0 ([76,1]++bX ls.length) (by omega) (by omega) (by have:=di (n:=ls.length) (by omega); simp; omega)
   have q1:aS.l1 m ls m ([76,1]++bX ls.length) 0=_:=q1
   rw [aa3] at q2
   have Uy:=di (n:=ls.length) (by omega)
   rw [oA (f0:=fun y0=>dM.f m y0) (g:=fun t=>t.nodes.any fun n=>n.kind==4) (by omega) (by omega) (fun t ht=>oC (by have:=(Kc t ht).ng; omega) (by have:=(Kc t ht).ng; omega)),aaA,
    dW (x:=(ls.length:Int)) (by omega) (by omega),rn (by omega) (by omega),aaA,nU (by simp; omega),aaA,q1,aaA]
   rcases q2 with⟨hc,rfl⟩| ⟨hc,x,rfl⟩
   ·rw [hc]; exact⟨_,rfl,rfl⟩
   ·rw [hc]
    have hW:∀t∈ls,gU t∧kQ t:=fun t ht=>⟨Kc t ht,(Kc t ht).w (by simpa using List.any_eq_false.1 hc t ht)⟩
    have LU:=iJ hW
    have hE:[76,1]++bX ls.length++bM ls=cd ls:=by unfold cd; simp
    have Ho:(cd ls).length≤100000000:=by
     unfold cd
     simp only [aaI,aaR,abg]; omega
    obtain⟨s,s1,s2,s3⟩:=Jj (m:=m) (by omega) (b:=cd ls) (by omega) (by omega)
    obtain⟨c,y,s4⟩:=Oy (m:=m) (by omega) s3 (out:=cd ls) (by omega)
    have jf:app 1 (cd ls) [((s % 256:Nat):Int),((s / 256 % 256:Nat):Int),((s / 65536 % 256:Nat):Int),((s / 16777216 % 256:Nat):Int)]=some (cd ls++[((s % 256:Nat):Int),((s / 256 % 256:Nat):Int),((s / 65536 % 256:Nat):Int),((s / 16777216 % 256:Nat):Int)]):=nU (by simp; omega)
    dsimp only
    rw [if_neg (by simp),yl (by omega) (fun t ht=>(hW t ht).2) (by omega) (by omega),Gx s1 s3,aaA,jf,aaA,hE,s2,aaA,s4,aaA]
    dsimp only
    split
    ·exact⟨_,rfl,rfl⟩
    ·exact⟨_,rfl,rfl⟩
 ·rw [if_pos (by simp only [decide_eq_true_eq]; omega),if_pos (by simp only [decide_eq_true_eq]; omega)]
  exact⟨_,rfl,rfl⟩
end Go.Proofs.YtmekcfdllhphlaaGreatDoor
namespace Go.Proofs.YtmekcfdllhphlaaGreatDoor
open Go Go.R
open Go.IntKind (i64 u64 u8 u32)
end Go.Proofs.YtmekcfdllhphlaaGreatDoor
namespace Go.Proofs.YtmekcfdllhphlaaGreatDoor
open Go Go.R
open Go.IntKind (i64 u64 u8 u32)
theorem kS {α:Type}{l:List α}{i:Nat}(h:i<l.length):ix l (i:Int)=some l[i]:=by unfold ix; rw [if_pos (by omega)]; simp [h]
theorem JK {m:Nat}(hm:2 ^ 30≤m){t:ak}(h1:t.nodes.length≤8000)(h2:∀n∈t.nodes,n.args.length≤8):aR.f m t t=some true:=by
 have kV:(2:Nat) ^ 30=1073741824:=by decide
 obtain⟨x,hx⟩:=Bt (m:=m) t hm (by omega) h2 m 0 (by omega) (by omega)
 have hx:aR.l0 m t t m (0:Int)=_:=hx
 unfold aR.f
 rw [if_neg (by simp),if_neg (by simp),hx,aaA]
end Go.Proofs.YtmekcfdllhphlaaGreatDoor
namespace Go.Proofs.YtmekcfdllhphlaaGreatDoor
open Go Go.R
open Go.IntKind (i64 u64 u8 u32)
def DE:b9:=gm [0,2,3,4,5,6,7,8,9,10,11,12,13,14,15,18,25,35,41,51,68,72,93,107] [8,12] [16777214,16744446,16777209,16777206,16777190,16711654,16777209,16777158,16777094,16646022,16777094,16776966,16776710,16514566,16777209,16776198,16251910,16776198,16776198,16777094,15728606,16777209,16776158,14679006,16776158,16770014,12581854,16777209,16752606,8388575,16777209,16777209] [(19,[(8,some 0,0)])] [(7,[(6,none,2)]),(11,[(8,some 0,4)])]
def aM.l1 (m:Nat)(x1:Int × ao):Nat→Int→(List ae)→Int→ao→Option (Int × (List ae) × Int × ao)
 | 0,_,_,_,_=>none
 | k+1,k0,x2,x3,lG=>if (decide (k0<x1.1))=true then (if (!lG.aK)=true then ((aU.f m lG).bind fun x4=>(app 56 x2 ([x4.1])).bind fun x5=>aM.l1 m x1 k (i64.wrap (k0+(1:Int))) x5 x3 x4.2) else (some ((k0,x2,x3,lG)))) else (some ((k0,x2,x3,lG)))
def aM.l0 (m:Nat)(x0:Int × ao):Nat→(List ak)→Int→ao→Option (Sum ((List ak) × Int) ((List ak) × Int × ao))
 | 0,_,_,_=>none
 | k+1,aF,i0,km=>if (decide (i0<x0.1))=true then (if (!km.aK)=true then ((aB.f m km).bind fun x1=>if (decide (x1.1 > (8000:Int)))=true then (some (.inl ([],(2:Int)))) else ((aM.l1 m x1 m (0:Int) ([]:List ae) (0:Int) x1.2).bind fun bm=>match bm with | (k1,x6,x7,ob2)=>(app 32 aF ([(ak.mk x6 x7)])).bind fun x8=>aM.l0 m x0 k x8 (i64.wrap (i0+(1:Int))) ob2)) else (some (.inr (aF,i0,km)))) else (some (.inr (aF,i0,km)))
def aM.l2 (m:Nat)(cw:List ak):Nat→Int→Option (Sum ((List ak) × Int) (Int))
 | 0,_=>none
 | k+1,i2=>if (decide (i2<(cw.length:Int)))=true then ((ix cw i2).bind fun v0=>(eW.f m v0).bind fun x9=>if (!(x9.2==(0:Int)))=true then (some (.inl ([],(2:Int)))) else ((ix cw i2).bind fun v1=>(aR.f m v1 x9.1).bind fun jF=>if (!jF)=true then (some (.inl ([],(2:Int)))) else (aM.l2 m cw k (i64.wrap (i2+(1:Int)))))) else (some (.inr i2))
def aM.f (m:Nat)(b0:List Int):Option ((List ak) × Int):=if (decide ((b0.length:Int) > (200000:Int)))=true then (some ([],(3:Int))) else ((aB.f m (ao.mk b0 (2:Int) false)).bind fun x0=>if (decide (x0.1 > (8:Int)))=true then (some ([],(2:Int))) else ((aM.l0 m x0 m ([]:List ak) (0:Int) x0.2).bind fun jR=>match jR with | .inl r1=>some r1 | .inr (cw,i1,De)=>if De.aK=true then (some ([],(2:Int))) else ((aM.l2 m cw m (0:Int)).bind fun cE=>match cE with | .inl r0=>some r0 | .inr i3=>(aS.f m cw).bind fun pQ=>if (!(pQ.2==(0:Int)))=true then (some ([],(2:Int))) else (if (!((bQ pQ.1).data.toList==(bQ b0).data.toList))=true then (some ([],(2:Int))) else (some (cw,(0:Int)))))))
def aM.fin (L:Mem)(r:(List ak) × Int)(s:St):Prop:=∃av,aH Tryz.prog (s.open DE) Tryz.f7.results.toList=some av∧vm s.h av (.tup [aL.fz r.1,.int .i64 r.2])
def S7 (cf:CallF)(m:Nat):Prop:=∀(b0:List Int) (r:(List ak) × Int),aM.f m b0=some r→∀h xs,lh xs [af.fz b0]→cf 7 xs h=some (.tup [aL.fz r.1,.int .i64 r.2],h)
section
variable {cf:CallF}{m:Nat}
theorem aM.eO (L:Mem)(b0:List Int)(az:Nat)(x0:Int × ao)(dR:Nat)(aF:List ak)(i0:Int)(dR:Nat)(x1:Int × ao)  (JL:Sf cf m):bC Tryz.prog cf DE m (sub [1,1,1,1,1,1,0,1,0,0,1,0,0,1,1,1,0,1,0,0] (codeOf Tryz.f7)) (fun k (σ:Int × (List ae) × Int × ao)=>aM.l1 m x1 k σ.1 σ.2.1 σ.2.2.1 σ.2.2.2) (fun σ s=>match σ with | (k0,x2,x3,lG)=>∃cR h4,s=⟨af.fz b0 :: .any :: .any :: .ptr az 0 :: .int .i64 x0.1 :: .rs dR 0 aF.length 2 :: .int .i64 i0 :: .lp 8 0 :: .int .i64 x1.1 :: .int .i64 k0::qG [],[some [.rs cR 0 x2.length 4,.int .i64 x3],none],h4⟩∧Has h4 ((az,.ob [af.fz lG.bO,.int .i64 lG.dw,.bool lG.aK])::(cR,.sl x2.length 4 (ah.l x2))::(dR,.sl aF.length 2 (aL.l aF))::L)) (fun out e s=>(e = .exit 2∧∃k0 x2 x3 lG,(k0,x2,x3,lG)=out∧∃qQ pE Vm cR h4,s=⟨af.fz b0 :: .any :: .any :: .ptr az 0 :: .int .i64 x0.1 :: .rs dR 0 aF.length 2 :: .int .i64 i0 :: .lp 8 0::qQ::pE::FX (Vm::mT []),[some [.rs cR 0 x2.length 4,.int .i64 x3],none],h4⟩∧Has h4 ((az,.ob [af.fz lG.bO,.int .i64 lG.dw,.bool lG.aK])::(cR,.sl x2.length 4 (ah.l x2))::(dR,.sl aF.length 2 (aL.l aF))::L))):=by
 refine gk (fun _=>rfl) ?_
 rintro k ⟨k0,x2,x3,lG⟩ s out ⟨cR,h4,rfl,oz⟩ H
 have H:aM.l1 m x1 (k+1) k0 x2 x3 lG=some out:=H
 refine qq <| qq ?_
 rcases dX H with⟨c5,H⟩| ⟨c5,H⟩
 ·refine qr [.b 3 c5,.v 7 (show bp Tryz.prog h4 4 (.ptr az 2)=some (.bool lG.aK) from cg (q:=0) (cs:=[af.fz lG.bO,.int .i64 lG.dw,.bool lG.aK]) oz rfl (by kernel_rfl))] <| qc H (fun c6 H=>?_) (fun c6 H=>?_)
  ·refine qk <| qq <| qb 3 ?_
   obtain⟨x4,e5,H⟩:=aG H
   obtain⟨h5,e6,sg⟩:=JL _ _ e5 h4 _ _ (oz)  [.ptr az 0] (an (rfl) (aT))
   obtain⟨x5,e7,H⟩:=aG H
   obtain⟨fc,h6,e8,oZ⟩:=cL (P:=Tryz.prog) (E:=ah) (l:=x2) (q:=1) (t2:=42) (x:=.fz [.int .i64 x4.1.kind,.int .i64 x4.1.int,.str x4.1.label,aa.fz x4.1.args] 1 true) (l2:=([x4.1])) mj sg rfl (by kernel_rfl) rfl e7
   exact qr [.a 3 e6,.a 5 e8] <| q0 <| ⟨(i64.wrap (k0+(1:Int)),x5,x3,x4.2),⟨fc,h6,by kernel_rfl,oZ⟩,H⟩
  ·exact qx 2 <| ⟨rfl,k0,x2,x3,lG,oi H,.int .i64 x1.1,.int .i64 k0,.bool (!lG.aK),cR,h4,by kernel_rfl,oz⟩
 ·exact qr [.b 3 c5] <| AU <| qx 2 <| ⟨rfl,k0,x2,x3,lG,oi H,.int .i64 x1.1,.int .i64 k0,.bool false,cR,h4,by kernel_rfl,oz⟩
theorem aM.bu (L:Mem)(b0:List Int)(az:Nat)(x0:Int × ao)  (sJ:Pc cf m)(JL:Sf cf m):bC Tryz.prog cf DE m (sub [1,1,1,1,1,1,0,1,0,0] (codeOf Tryz.f7)) (fun k (σ:(List ak) × Int × ao)=>aM.l0 m x0 k σ.1 σ.2.1 σ.2.2) (fun σ s=>match σ with | (aF,i0,km)=>∃dR h2,s=⟨af.fz b0 :: .any :: .any :: .ptr az 0 :: .int .i64 x0.1 :: .rs dR 0 aF.length 2 :: .int .i64 i0::CT [],[none,none],h2⟩∧Has h2 ((dR,.sl aF.length 2 (aL.l aF))::(az,.ob [af.fz km.bO,.int .i64 km.dw,.bool km.aK])::L)) (fun out e s=>(e = .exit 0∧∃aF i0 km,.inr (aF,i0,km)=out∧∃oK se NT dR h2,s=⟨af.fz b0 :: .any :: .any :: .ptr az 0::oK :: .rs dR 0 aF.length 2::se::xd (NT::zX []),[none,none],h2⟩∧Has h2 ((dR,.sl aF.length 2 (aL.l aF))::(az,.ob [af.fz km.bO,.int .i64 km.dw,.bool km.aK])::L))∨(e = .ret∧∃r,.inl r=out∧aM.fin L r s)):=by
 refine gk (fun _=>rfl) ?_
 rintro k ⟨aF,i0,km⟩ s out ⟨dR,h2,rfl,o4⟩ H
 have H:aM.l0 m x0 (k+1) aF i0 km=some out:=H
 refine qq <| qq ?_
 rcases dX H with⟨c2,H⟩| ⟨c2,H⟩
 ·refine qr [.b 3 c2,.v 7 (show bp Tryz.prog h2 4 (.ptr az 2)=some (.bool km.aK) from cg (q:=1) (cs:=[af.fz km.bO,.int .i64 km.dw,.bool km.aK]) o4 rfl (by kernel_rfl))] <| qc H (fun c3 H=>?_) (fun c3 H=>?_)
  ·refine qk <| qq <| qb 1 <| qq <| q0 ?_
   have o5:Has h2 ((((0)),.sl (([]:List ae).length) 4 (ah.l ([]:List ae)))::(dR,.sl aF.length 2 (aL.l aF))::(az,.ob [af.fz km.bO,.int .i64 km.dw,.bool km.aK])::L):=Has.nil o4 4
   refine qq ?_
   obtain⟨x1,e3,H⟩:=aG H
   obtain⟨h3,e4,o6⟩:=sJ _ _ e3 h2 _ _ ((Has.front (Has.front (Has.front o5 1 rfl) 1 rfl) 2 rfl))  [.ptr az 0] (an (rfl) (aT))
   refine qr [.a 1 e4] <| qq <| qq <| q0 <| qc H (fun c4 H=>?_) (fun c4 H=>?_)
   ·refine q1 ?_
    have o7:Has h3 ((az,.ob [af.fz x1.2.bO,.int .i64 x1.2.dw,.bool x1.2.aK])::(((0)),.sl (([]:List ae).length) 4 (ah.l ([]:List ae)))::L):=Has.del o6 2
    have o8:Has h3 ((az,.ob [af.fz x1.2.bO,.int .i64 x1.2.dw,.bool x1.2.aK])::L):=Has.del o7 1
    have o9:Has h3 (L):=Has.del o8 0
    exact qt <| abD (⟨rfl,_,oi H,oF (.tup [.nils,.int .i64 (2:Int)]) h3 (lI (er (ab (dV) (ab (aQ) (aA)))))⟩)
   ·refine qk <| qq <| qq <| q0 <| qb 2 ?_
    obtain⟨bm,e9,H⟩:=aG H
    refine ql (aM.eO L b0 az x0 dR aF i0 dR x1  JL ((0:Int),([]:List ae),(0:Int),x1.2) _ _ ⟨((0)),h3,by kernel_rfl,o6⟩ e9) ?_
    rintro e s ⟨rfl,k1,x6,x7,ob2,rfl,g0,g1,g2,gY,h7,rfl,kN⟩
    try dsimp only at H
    obtain⟨h8,lF,tL⟩:=fV (E:=ah) (l:=x6) (q:=1) kN rfl
    obtain⟨x8,nb,H⟩:=aG H
    obtain⟨gV,h9,nK,qR⟩:=cL (P:=Tryz.prog) (E:=aL) (l:=aF) (q:=1) (t2:=24) (x:=.fz [ah.fz x6,.int .i64 x7] 1 true) (l2:=([(ak.mk x6 x7)])) xZ tL rfl (by kernel_rfl) rfl nb
    exact uC [.a 0 lF] [.a 3 nK] <| q0 <| ⟨(x8,i64.wrap (i0+(1:Int)),ob2),⟨gV,h9,by kernel_rfl,(Has.front (Has.front qR 0 rfl) 1 rfl)⟩,H⟩
  ·exact qx 0 <| abM (⟨rfl,aF,i0,km,oi H,.int .i64 x0.1,.int .i64 i0,.bool (!km.aK),dR,h2,by kernel_rfl,o4⟩)
 ·exact qr [.b 3 c2] <| AU <| qx 0 <| abM (⟨rfl,aF,i0,km,oi H,.int .i64 x0.1,.int .i64 i0,.bool false,dR,h2,by kernel_rfl,o4⟩)
theorem aM.ma (L:Mem)(b0:List Int)(fK:Nat)(cw:List ak)(fK:Nat)  (DF:Q1 cf m)(Dp:Rp cf m):bC Tryz.prog cf DE m (sub [1,1,1,1,1,1,1,1,0,1,0,0] (codeOf Tryz.f7)) (fun k (σ:Int)=>aM.l2 m cw k σ) (fun σ s=>match σ with | i2=>∃h11,s=⟨af.fz b0::mT (.rs fK 0 cw.length 2::mT (.int .i64 i2::nF [])),[none,none],h11⟩∧Has h11 ((fK,.sl cw.length 2 (aL.l cw))::L)) (fun out e s=>(e = .exit 4∧∃i2,.inr i2=out∧∃zj Oa h11,s=⟨af.fz b0::mT (.rs fK 0 cw.length 2::mT (zj::xd [Oa,.any,.any])),[none,none],h11⟩∧Has h11 ((fK,.sl cw.length 2 (aL.l cw))::L))∨(e = .ret∧∃r,.inl r=out∧aM.fin L r s)):=by
 refine gk (fun _=>rfl) ?_
 rintro k i2 s out ⟨h11,rfl,qV⟩ H
 have H:aM.l2 m cw (k+1) i2=some out:=H
 refine qq <| qq <| q0 <| qc H (fun vJ H=>?_) (fun vJ H=>?_)
 ·refine qk <| qq <| qb 5 <| qq ?_
  obtain⟨v0,pc,H⟩:=aG H
  obtain⟨x9,pb,H⟩:=aG H
  refine qr [.v 2 (aJ (k:=.i64) (E:=aL) (l:=cw) (q:=0) xZ qV rfl pc),.v 3 (uy  (E:=aL) (l:=cw) (q:=0) qV rfl J7 J8 pc),.a 4 (Dp _ _ pb h11 _ (cb (pB (cb (gP (E:=ah)) (cb (bD) (fH)))) (fH)))] <| qq ?_
  rcases dX H with⟨nH,H⟩| ⟨nH,H⟩
  ·refine qr [.b 2 nH] <| uD <| qq <| q0 ?_
   have Ew:Has h11 (L):=Has.del qV 0
   exact qt <| abD (⟨rfl,_,oi H,oF (.tup [.nils,.int .i64 (2:Int)]) h11 (lI (er (ab (dV) (ab (aQ) (aA)))))⟩)
  ·obtain⟨v1,qU,H⟩:=aG H
   obtain⟨jF,pP,H⟩:=aG H
   refine qr [.b 2 nH,.v 5 (aJ (k:=.i64) (E:=aL) (l:=cw) (q:=0) xZ qV rfl qU),.v 6 (uy  (E:=aL) (l:=cw) (q:=0) qV rfl J7 J8 qU),.a 8 (DF _ _ _ pP h11 _ (fT (ab (dJ (ab (bB (E:=ah)) (ab (aQ) (aA)))) (ab (dJ (ab (bB (E:=ah)) (ab (aQ) (aA)))) (aA)))))] <| qc H (fun tI H=>?_) (fun tI H=>?_)
   ·refine q1 ?_
    have uG:Has h11 (L):=Has.del qV 0
    exact qt <| abD (⟨rfl,_,oi H,oF (.tup [.nils,.int .i64 (2:Int)]) h11 (lI (er (ab (dV) (ab (aQ) (aA)))))⟩)
   ·exact qk <| q0 <| ⟨i64.wrap (i2+(1:Int)),⟨h11,by kernel_rfl,qV⟩,H⟩
 ·exact qx 4 <| abM (⟨rfl,i2,oi H,.int .i64 i2,.bool (decide (i2<(cw.length:Int))),h11,by kernel_rfl,qV⟩)
theorem wK {aV:FuncId→b9}(ha:aV 7=DE)(DF:Q1 cf m)(sJ:Pc cf m)(JL:Sf cf m)(Dp:Rp cf m)(Vn:W9 cf m)(b0:List Int)(h:AHeap)(L:Mem)  (o:Has h (L)){out:(List ak) × Int}(H:aM.f m b0=some out) :
  ∃r h',bg Tryz.prog aV cf m 7 [af.fz b0] h=some (r,h')∧vm h' r (.tup [aL.fz out.1,.int .i64 out.2]):=by
 refine aj (fn:=Tryz.f7) ha Tryz.func7 (by kernel_rfl) (by kernel_rfl) ?_
 refine aD (Q:=fun s=>aM.fin L out s) (fun _ _ h=>h) ?_
 have H:_=some out:=H
 unfold aM.f at H
 show dA _ cf DE m _ ⟨af.fz b0::Qb [],[none,none],h⟩ _
 refine q1 <| qq <| qq <| q0 <| qc H (fun c0 H=>?_) (fun c0 H=>?_)
 ·obtain rfl:=oi H
  exact q1 <| qt <| ⟨.inl rfl,oF (.tup [.nils,.int .i64 (3:Int)]) h (lI (er (ab (dV) (ab (aQ) (aA)))))⟩
 ·refine qk <| qq ?_
  obtain⟨az,h0,e0,o0⟩:=kL (cs:=[af.fz b0,.int .i64 (2:Int),.bool false]) o (by kernel_rfl)
  refine qr [.a 2 e0] <| qq ?_
  obtain⟨x0,e1,H⟩:=aG H
  obtain⟨h1,e2,o1⟩:=sJ _ _ e1 h0 _ _ (o0)  [.ptr az 0] (an (rfl) (aT))
  refine qr [.a 1 e2] <| qq <| qq <| q0 <| qc H (fun c1 H=>?_) (fun c1 H=>?_)
  ·refine q1 ?_
   have o2:Has h1 (L):=Has.del o1 0
   obtain rfl:=oi H
   exact qt <| ⟨.inl rfl,oF (.tup [.nils,.int .i64 (2:Int)]) h1 (lI (er (ab (dV) (ab (aQ) (aA)))))⟩
  ·refine qk <| qq <| q0 ?_
   have o3:Has h1 (((0),.sl (([]:List ak).length) 2 (aL.l ([]:List ak)))::(az,.ob [af.fz x0.2.bO,.int .i64 x0.2.dw,.bool x0.2.aK])::L):=Has.nil o1 2
   refine qq <| qq <| q0 <| qb 0 ?_
   obtain⟨jR,pa,H⟩:=aG H
   refine ql (aM.bu L b0 az x0  sJ JL (([]:List ak),(0:Int),x0.2) _ _ ⟨(0),h1,by kernel_rfl,o3⟩ pa) ?_
   rintro e s (⟨rfl,cw,i1,De,rfl,g3,g4,g5,fK,h10,rfl,kO⟩| ⟨rfl,r1,rfl,Q4⟩)
   ·try dsimp only at H
    refine qq <| qq <| qr [.v 3 (show bp Tryz.prog h10 4 (.ptr az 2)=some (.bool De.aK) from cg (q:=1) (cs:=[af.fz De.bO,.int .i64 De.dw,.bool De.aK]) kO rfl (by kernel_rfl))] ?_
    have uF:Has h10 ((fK,.sl cw.length 2 (aL.l cw))::L):=Has.del kO 1
    refine qc H (fun c9 H=>?_) (fun c9 H=>?_)
    ·refine q1 ?_
     have yf:Has h10 (L):=Has.del uF 0
     obtain rfl:=oi H
     exact qt <| ⟨.inl rfl,oF (.tup [.nils,.int .i64 (2:Int)]) h10 (lI (er (ab (dV) (ab (aQ) (aA)))))⟩
    ·refine qk <| qq <| qq <| q0 <| qb 4 ?_
     obtain⟨cE,tO,H⟩:=aG H
     refine ql (aM.ma L b0 fK cw fK  DF Dp (0:Int) _ _ ⟨h10,by kernel_rfl,uF⟩ tO) ?_
     rintro e s (⟨rfl,i3,rfl,g6,g7,h12,rfl,xi⟩| ⟨rfl,r0,rfl,l8⟩)
     ·try dsimp only at H
      refine qq ?_
      obtain⟨pQ,rF,H⟩:=aG H
      refine qr [.a 1 (Vn _ _ rF h12 _ (fT (ab (mS (E:=aL) (l:=cw) (q:=0) xi rfl (fun _=>rfl)) (aA))))] <| qq <| qq ?_
      rcases dX H with⟨qP,H⟩| ⟨qP,H⟩
      ·refine qr [.b 2 qP] <| uD <| qq <| q0 ?_
       have Bd:Has h12 (L):=Has.del xi 0
       obtain rfl:=oi H
       exact qt <| ⟨.inl rfl,oF (.tup [.nils,.int .i64 (2:Int)]) h12 (lI (er (ab (dV) (ab (aQ) (aA)))))⟩
      ·refine qr [.b 2 qP,.v 4 (show eu Tryz.prog h12 22 9 (af.fz pQ.1)=some (.str (bQ pQ.1)) from nD (e:=5) (l:=pQ.1) rfl rfl rfl (vo _)),.v 6 (show eu Tryz.prog h12 22 9 (af.fz b0)=some (.str (bQ b0)) from nD (e:=5) (l:=b0) rfl rfl rfl (vo _))] <| qc H (fun Eh H=>?_) (fun Eh H=>?_)
       ·refine q1 ?_
        have Gg:Has h12 (L):=Has.del xi 0
        obtain rfl:=oi H
        exact qt <| ⟨.inl rfl,oF (.tup [.nils,.int .i64 (2:Int)]) h12 (lI (er (ab (dV) (ab (aQ) (aA)))))⟩
       ·obtain rfl:=oi H
        exact qk <| qq <| q0 <| qt <| ⟨.inl rfl,oF (.tup [.rs fK 0 cw.length 2,.int .i64 (0:Int)]) h12 (lI (er (ab (mS (E:=aL) (l:=cw) (q:=0) xi rfl (fun _=>rfl)) (ab (aQ) (aA)))))⟩
     ·try dsimp only at H
      obtain rfl:=oi H
      exact⟨.inl rfl,l8⟩
   ·try dsimp only at H
    obtain rfl:=oi H
    exact⟨.inl rfl,Q4⟩
end
end Go.Proofs.YtmekcfdllhphlaaGreatDoor
