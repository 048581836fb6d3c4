/- Part of the proof: RLocal, RSteady, RDraw, RPure. -/
import Derived.Test.YtifafejidnjckaaK2
import Derived.StillTail
set_option linter.unusedVariables false
set_option linter.unusedSimpArgs false
set_option maxRecDepth 100000
open Array renaming getElem?_eq_some_iff → Yk, mem_toList_iff → YG
open Bool renaming and_eq_true → XN, false_eq_true → XX, or_eq_true → Yw, not_eq_true' → YL, not_true → YQ
open List renaming getElem?_append_left → XZ, all_eq_true → X5, getElem?_eq_none → Yc, mem_append → Yg, getElem?_cons_zero → Ym, mem_map → Yo, map_congr_left → Y0
open Nat renaming le_refl → XP, zero_add → Ya, lt_of_lt_of_le → Yb, le_of_not_lt → Yh, zero_le → Yt, le_trans → Yz, add_assoc → YI, eq_of_beq_eq_true → YN, min_eq_left → Y7, zero_lt_one → Y8, add_comm → Zd
open Option renaming bind_some → XJ, bind_eq_some_iff → XK, map_eq_some_iff → XL, map_some → XR, getD_some → YH
open Option.some renaming injEq → XM, inj → Yj
open Prod.mk renaming injEq → XS
namespace Go.R
open Go
def RS.shift (s2:RS)(f:k9)(d:Option Nat)(s':RS):RS:=
 {ρ:=match d with | none=>s2.ρ | some d=>fun t=>if t=d then s'.ρ d else s2.ρ t
  bx:=match f.wb with | none=>s2.bx | some k=>fun t=>if t=k then s'.bx k else s2.bx t
  h:=if f.wh then s'.h else s2.h}
theorem RS.ext' {s t:RS}(h1:∀i,s.ρ i=t.ρ i)(h2:∀i,s.bx i=t.bx i)(h3:s.h=t.h):s=t:=by
 cases s; cases t
 congr
 ·exact funext h1
 ·exact funext h2
theorem iL (s s2:RS)(f:k9)(d:Option Nat)(z:AV)(hw:f.wb=none)(hh:f.wh=false):s2.set d z=s2.shift f d (s.set d z):=by
 refine RS.ext' (fun i=>?_) (fun i=>?_) ?_
 ·cases d with
  | none=>rfl
  | some d=>simp only [uS,RS.shift,if_true]
 ·simp only [RS.shift,hw]; cases d<;>rfl
 ·simp only [RS.shift,hh]; cases d<;>rfl
theorem jy (s:RS)(d:Option Nat)(z:AV):(s.set d z).h=s.h:=by cases d<;>rfl
theorem J1 (s:RS)(d:Option Nat)(z:AV):(s.set d z).bx=s.bx:=by cases d<;>rfl
theorem E6 (s:RS)(k i:Nat)(cs:List AV):(s.box k cs).bx i=if i=k then some cs else s.bx i:=by
 simp only [RS.box,beq_nat]
 by_cases h:i=k<;>simp [h]
theorem gR (s s2:RS)(f:k9)(d:Option Nat)(z:AV)(h':AHeap)(hw:f.wb=none)(hh:f.wh=true):({s2 with h:=h'}:RS).set d z=s2.shift f d (({s with h:=h'}:RS).set d z):=by
 refine RS.ext' (fun i=>?_) (fun i=>?_) ?_
 ·cases d with
  | none=>rfl
  | some d=>simp only [uS,RS.shift,if_true]
 ·simp only [RS.shift,hw]; cases d<;>rfl
 ·simp only [RS.shift,hh]; cases d<;>rfl
theorem DA (s s2:RS)(f:k9)(k:Nat)(cs:List AV)(hw:f.wb=some k)(hh:f.wh=false):s2.box k cs=s2.shift f none (s.box k cs):=by
 refine RS.ext' (fun i=>rfl) (fun i=>?_) ?_
 ·simp only [E6,RS.shift,hw,if_true]
 ·simp only [RS.shift,hh]; rfl
section
variable {P:Program}{cf:CallF}{aI ds:List Nat}{o:Oper}{s s' s2:RS}
theorem pn {cs:List AV}{f:k9}(h:iD s aI ds o cs=some s')(hf:f=(match o.dst with
  | some d=>if aI.contains d then {wb:=some d,al:=true} else {wh:=true}
  | none=>{})) (hh:f.wh=true→s2.h=s.h) (oY:f.al=true→∀d,o.dst=some d→sw d s2.ρ (ds.filter fun t=>!Nat.beq t d)=true) :
  iD s2 aI ds o cs=some (s2.shift f o.dst s'):=by
 unfold iD at h ⊢
 split at h
 rotate_left
 ·cases h
 rename_i oX
 rw [if_pos oX]
 cases hd:o.dst with
 | none=>rw [hd] at h; cases h
 | some d=>
  rw [hd] at h hf
  simp only at h hf ⊢
  by_cases hl:aI.contains d=true
  ·rw [if_pos hl] at h hf ⊢
   subst hf
   split at h
   rotate_left
   ·cases h
   cases h
   rw [if_pos (oY rfl d hd)]
   congr 1
   refine RS.ext' (fun i=>?_) (fun i=>?_) ?_
   ·simp only [uS,RS.shift,if_true]; rfl
   ·simp only [J1,E6,RS.shift,if_true]
   ·simp only [jy,RS.shift]; rfl
  ·rw [if_neg hl] at h hf ⊢
   subst hf
   cases h
   rw [hh rfl]
   congr 1
   exact gR s s2 {wh:=true} (some d) _ _ rfl rfl
theorem vb {e:Operand→AV}(h:zY P cf aI ds e s o=some s')(hb:∀k∈(bq aI e o).rb,s2.bx k=s.bx k)(hr:∀id∈(bq aI e o).rh,s2.h.get id=s.h.get id)
  (hh:(bq aI e o).wh=true→s2.h=s.h) (oY:(bq aI e o).al=true→∀d,o.dst=some d→sw d s2.ρ (ds.filter fun t=>!Nat.beq t d)=true) :
  zY P cf aI ds e s2 o=some (s2.shift (bq aI e o) o.dst s'):=by
 have eC:∀{x x2:Option AV} (f:k9),(x.map fun x=>s.set o.dst x)=some s'→(x2=x)→f.wb=none→f.wh=false→(x2.map fun x=>s2.set o.dst x)=some (s2.shift f o.dst s'):=by
  intro x x2 f hx h2 h3 h4
  obtain⟨z,rfl,rfl⟩:=Option.map_some' hx
  subst h2
  simp only [XR]
  rw [←iL s s2 f o.dst z h3 h4]
 have yi:∀{α:Type} {x x2:Option α} (f:k9) (g:α→AV) (k:α→AHeap),(x.map fun y=>({s with h:=k y}:RS).set o.dst (g y))=some s'→(x2=x)→f.wb=none→f.wh=true→
   (x2.map fun y=>({s2 with h:=k y}:RS).set o.dst (g y))=some (s2.shift f o.dst s'):=by
  intro α x x2 f g k hx h2 h3 h4
  obtain⟨z,rfl,rfl⟩:=Option.map_some' hx
  subst h2
  simp only [XR]
  rw [←gR s s2 f o.dst (g z) (k z) h3 h4]
 unfold zY at h ⊢
 dsimp only at h ⊢
 split at h
 ·rename_i x ho; cases h; simp only [XM]; exact iL s s2 _ _ _ (by simp [bq,ho]) (by simp [bq,ho])
 ·rename_i x ho; cases h; simp only [XM]; exact iL s s2 _ _ _ (by simp [bq,ho]) (by simp [bq,ho])
 ·rename_i k x y ho
  obtain⟨t,ht,rfl⟩:=Option.map_some' h
  simp only [ht,XR,XM]
  exact iL s s2 _ _ _ (by simp [bq,ho]) (by simp [bq,ho])
 ·rename_i t ho
  rw [XK] at h
  obtain⟨z,hz,h⟩:=h
  simp only [hz,XJ]
  exact pn h (by simp only [bq,ho]; rfl) hh oY
 ·rename_i t x ho
  exact pn h (by simp only [bq,ho]; rfl) hh oY
 ·rename_i t ps ho; exact eC _ h rfl (by simp [bq,ho]) (by simp [bq,ho])
 ·rename_i t k ps ho
  obtain⟨z,hz,rfl⟩:=Option.map_some' h
  simp only [hz,XR,XM]
  have hf:bq aI e o=(match o.dst with | some d=>if aI.contains d then {wh:=true} else {} | none=>{}):=by simp only [bq,ho]; rfl
  unfold qa
  cases JU:oB P aI o t z with
  | none=>
   simp only
   cases hd:o.dst with
   | none=>rw [hd] at hf; rw [hf]; exact iL s s2 _ none _ rfl rfl
   | some d=>
    rw [hd] at hf
    simp only at hf
    by_cases hl:aI.contains d=true
    ·rw [if_pos hl] at hf
     have h2:=hh (by rw [hf])
     rw [hf]
     have h3:=gR s s2 {wh:=true} (some d) z s2.h rfl rfl
     refine h3.trans ?_
     rw [h2]
    ·rw [if_neg hl] at hf
     rw [hf]; exact iL s s2 _ _ _ rfl rfl
  | some q=>
   obtain⟨d,hd,hl⟩:∃d,o.dst=some d∧aI.contains d=true:=by
    unfold oB at JU
    split at JU
    ·rename_i d _ _ _ hd
     refine⟨d,hd,?_⟩
     cases hc:aI.contains d with
     | false=>rw [hc] at JU; cases JU
     | true=>rfl
    ·cases JU
   rw [hd] at hf
   simp only [hl,if_true] at hf
   rw [hf] at hh ⊢
   simp only [hh rfl]
   exact gR s s2 _ _ _ _ rfl rfl
 ·
  rename_i t x ho
  have hf:bq aI e o=(match e x with | .lp k _=>{rb:=[k]} | .ptr id _=>{rh:=[id]} | _=>{}):=by simp only [bq,ho]; rfl
  refine eC _ h ?_ ?_ ?_
  ·rw [hf] at hb hr
   unfold jZ
   cases hx:e x<;>rw [hx] at hb hr<;>try rfl
   ·simp only; rw [hr _ (by simp)]
   ·simp only; rw [hb _ (by simp)]
  ·rw [hf]; cases e x<;>rfl
  ·rw [hf]; cases e x<;>rfl
 ·
  rename_i t x y ho
  have hf:bq aI e o=(match e x with | .lp k _=>{rb:=[k],wb:=some k} | _=>{wh:=true}):=by simp only [bq,ho]; rfl
  try simp only at h ⊢
  split at h
  ·cases h
  rename_i hd
  rw [if_neg hd]
  have Hv:o.dst=none:=by simpa using hd
  cases hx:e x<;>rw [hx] at h hf<;>simp only at h hf ⊢<;>try (cases h; done)
  ·rename_i id off
   rw [hf] at hh ⊢
   rw [XK] at h
   obtain⟨ob,hob,h⟩:=h
   rw [hh rfl,hob]
   cases ob with
   | map es=>cases h
   | row t cs=>cases h
   | cells cs=>
    obtain⟨fI,hcs,rfl⟩:=Option.map_some' h
    simp only [XJ,hcs,XR,Hv,XM]
    exact gR s s2 {wh:=true} none .any _ rfl rfl
  ·rename_i k off
   rw [hf] at hb ⊢
   rw [XK] at h
   obtain⟨cs,hcs,h⟩:=h
   rw [hb k (by simp),hcs]
   obtain⟨fI,Pj,rfl⟩:=Option.map_some' h
   simp only [XJ,Pj,XR,Hv,XM]
   exact DA s s2 _ k fI rfl rfl
 ·rename_i ho; exact eC _ h rfl (by simp [bq,ho]) (by simp [bq,ho])
 ·rename_i ho; exact eC _ h rfl (by simp [bq,ho]) (by simp [bq,ho])
 ·rename_i ho; exact eC _ h rfl (by simp [bq,ho]) (by simp [bq,ho])
 ·
  rename_i a b x ho
  have hf:bq aI e o=(match e x with | .rs id _ _ _=>{rh:=[id]} | _=>{}):=by simp only [bq,ho]; rfl
  refine eC _ h ?_ ?_ ?_
  ·have hc:eP s2.h 1 (e x)=eP s.h 1 (e x):=by
    rw [hf] at hr
    unfold eP
    cases hx:e x<;>rw [hx] at hr<;>try rfl
    simp only; rw [hr _ (by simp)]
   unfold mS
   rw [hc]
  ·rw [hf]; cases e x<;>rfl
  ·rw [hf]; cases e x<;>rfl
 ·rename_i Ak first cap ho
  try simp only
  split at h
  ·rename_i hc
   rw [if_pos hc]
   exact eC _ h rfl (by simp [bq,ho]) (by simp [bq,ho])
  ·cases h
 ·rename_i ho
  have hf:(bq aI e o).wh=true:=by simp [bq,ho]
  cases h
  simp only [hh hf,XM]
  exact gR s s2 _ _ _ _ (by simp [bq,ho]) hf
 ·rename_i t l c ho
  have hf:(bq aI e o).wh=true:=by simp [bq,ho]
  exact yi _ (fun y:AV × AHeap=>y.1) (fun y=>y.2) h (by simp only [hh hf]) (by simp [bq,ho]) hf
 ·rename_i ho; exact eC _ h rfl (by simp [bq,ho]) (by simp [bq,ho])
 ·rename_i ho; exact eC _ h rfl (by simp [bq,ho]) (by simp [bq,ho])
 ·rename_i ho; exact eC _ h rfl (by simp [bq,ho]) (by simp [bq,ho])
 ·rename_i ho; exact eC _ h rfl (by simp [bq,ho]) (by simp [bq,ho])
 ·rename_i ho; exact eC _ h rfl (by simp [bq,ho]) (by simp [bq,ho])
 ·
  rename_i t m k ok ho
  have hf:bq aI e o=(match e m with | .mp id=>{rh:=[id]} | _=>{}):=by simp only [bq,ho]; rfl
  refine eC _ h ?_ ?_ ?_
  ·rw [hf] at hr
   unfold eR
   cases hx:e m<;>rw [hx] at hr<;>try rfl
   simp only; rw [hr _ (by simp)]
  ·rw [hf]; cases e m<;>rfl
  ·rw [hf]; cases e m<;>rfl
 ·rename_i t m k x ho
  have hf:(bq aI e o).wh=true:=by simp [bq,ho]
  try simp only at h ⊢
  split at h
  ·cases h
  rename_i hd
  rw [if_neg hd]
  have Hv:o.dst=none:=by simpa using hd
  obtain⟨h',hm,rfl⟩:=Option.map_some' h
  simp only [hh hf,hm,XR,Hv,XM]
  exact gR s s2 _ none .any _ (by simp [bq,ho]) hf
 ·rename_i t m k x ho
  have hf:(bq aI e o).wh=true:=by simp [bq,ho]
  try simp only at h ⊢
  split at h
  ·cases h
  rename_i hd
  rw [if_neg hd]
  have Hv:o.dst=none:=by simpa using hd
  obtain⟨h',hm,rfl⟩:=Option.map_some' h
  simp only [hh hf,hm,XR,Hv,XM]
  exact gR s s2 _ none .any _ (by simp [bq,ho]) hf
 ·rename_i ho; exact eC _ h rfl (by simp [bq,ho]) (by simp [bq,ho])
 ·
  rename_i b args By ho
  try simp only
  unfold gi at h ⊢
  generalize hargs:args.toList.map e=as at h ⊢
  generalize By.toList=ts at h ⊢
  split at h
  ·rename_i t x
   try simp only
   have hf:bq aI e o=(match x with | .mp id=>{rh:=[id]} | _=>{}):=by
    simp only [bq,ho,hargs]
    cases x<;>rfl
   refine eC _ h ?_ ?_ ?_
   ·rw [hf] at hr
    unfold sv
    cases x<;>try rfl
    simp only; rw [hr _ (by simp)]
   ·rw [hf]; cases x<;>rfl
   ·rw [hf]; cases x<;>rfl
  ·try simp only
   have hf:(bq aI e o).wh=true∧(bq aI e o).wb=none:=by simp only [bq,ho,hargs]; simp
   exact yi _ (fun y:AV × AHeap=>y.1) (fun y=>y.2) h (by simp only [hh hf.1]) hf.2 hf.1
  ·try simp only
   have hf:(bq aI e o).wh=true∧(bq aI e o).wb=none:=by simp only [bq,ho,hargs]; simp
   exact yi _ (fun y:AV × AHeap=>y.1) (fun y=>y.2) h (by simp only [hh hf.1]) hf.2 hf.1
  ·try simp only
   have hf:(bq aI e o).wh=true∧(bq aI e o).wb=none:=by simp only [bq,ho,hargs]; simp
   exact yi _ (fun _:AHeap=>.tup []) (fun y=>y) h (by simp only [hh hf.1]) hf.2 hf.1
  ·try simp only
   rw [XK] at h
   obtain⟨v,hv,h⟩:=h
   rw [XK] at h
   obtain⟨vs,Eu,h⟩:=h
   rw [XK] at h
   obtain⟨u,hu,h⟩:=h
   simp only [hv,Eu,hu,XJ]
   exact eC _ h rfl (by simp [bq,ho]) (by simp [bq,ho])
  ·try simp only
   rw [XK] at h
   obtain⟨v,hv,h⟩:=h
   rw [XK] at h
   obtain⟨vs,Eu,h⟩:=h
   rw [XK] at h
   obtain⟨u,hu,h⟩:=h
   simp only [hv,Eu,hu,XJ]
   exact eC _ h rfl (by simp [bq,ho]) (by simp [bq,ho])
  ·cases h
 ·
  rename_i fx args By ho
  have hf:(bq aI e o).wh=true∧(bq aI e o).wb=none:=by simp [bq,ho]
  try simp only
  cases hx:e fx<;>rw [hx] at h<;>simp only at h ⊢<;>try (cases h; done)
  rename_i Ak cap
  split at h
  ·rename_i ha
   rw [if_pos ha]
   exact yi _ (fun y:AV × AHeap=>y.1) (fun y=>y.2) h (by simp only [hh hf.1]) hf.2 hf.1
  ·cases h
 ·cases h
end
end Go.R
namespace Go.R
open Go
def SteadyF (cf:CallF):Prop:=∀f args h r h',cf f args h=some (r,h')→Steady h h'
section
variable {P:Program}{cf:CallF}{aI ds:List Nat}{o:Oper}{s s':RS}
theorem sU {h h':AHeap}{t t2:TypeId}{x y z:AV}(hh:dU P h t t2 x y=some (z,h')):Steady h h':=by
 unfold dU at hh
 rw [XK] at hh
 obtain⟨d,_,hh⟩:=hh
 cases d<;>simp only at hh<;>try (cases hh; done)
 rw [XK] at hh
 obtain⟨i,_,hh⟩:=hh
 rw [XK] at hh
 obtain⟨⟨new,m⟩,_,hh⟩:=hh
 simp only at hh
 split at hh
 ·cases hh
 split at hh
 ·split at hh
  ·cases hh
  ·split at hh<;>cases hh
   ·exact Steady.refl _
   ·exact Steady.put _ _ _
 ·split at hh
  ·cases hh
  ·split at hh
   ·split at hh<;>cases hh<;>exact Steady.refl _
   ·cases hh; exact Steady.put _ _ _
 ·split at hh
  ·split at hh
   ·cases hh
   ·split at hh<;>cases hh
    ·exact Steady.refl _
    ·exact Steady.put _ _ _
  rw [XK] at hh
  obtain⟨ob,_,hh⟩:=hh
  cases ob with
  | map es=>cases hh
  | row t cs=>cases hh
  | cells cs=>
   simp only at hh
   split at hh
   ·cases hh
   ·split at hh<;>cases hh
    ·exact Steady.refl _
    ·exact (Steady.kill _ _).trans (Steady.put _ _ _)
 ·cases hh
theorem wz {h h':AHeap}{t t2:TypeId}{x y z:AV}(hh:qQ P h t t2 x y=some (z,h')):Steady h h':=by
 unfold qQ at hh
 rw [XK] at hh
 obtain⟨d,_,hh⟩:=hh
 cases d<;>simp only at hh<;>try (cases hh; done)
 rw [XK] at hh
 obtain⟨i,_,hh⟩:=hh
 rw [XK] at hh
 obtain⟨⟨new,m⟩,_,hh⟩:=hh
 simp only at hh
 split at hh
 ·cases hh
 split at hh
 ·split at hh
  ·split at hh<;>cases hh
   exact Steady.refl _
  rw [XK] at hh
  obtain⟨ob,_,hh⟩:=hh
  cases ob with
  | map es=>cases hh
  | row t cs=>cases hh
  | cells cs=>
   simp only at hh
   split at hh<;>cases hh
   exact Steady.put _ _ _
 ·split at hh<;>cases hh
  exact Steady.refl _
 ·cases hh
theorem uD {h h':AHeap}{t:TypeId}{x:AV}(hh:lP P h t x=some h'):Steady h h':=by
 unfold lP at hh
 rw [XK] at hh
 obtain⟨d,_,hh⟩:=hh
 cases x<;>simp only at hh<;>try (cases hh; done)
 ·split at hh
  ·cases hh; exact Steady.refl _
  split at hh
  ·cases hh
  cases d<;>simp only at hh<;>try (cases hh; done)
  simp only [XK] at hh
  obtain⟨i,_,z,_,ob,_,hh⟩:=hh
  cases ob with
  | map es=>cases hh
  | row t cs=>cases hh
  | cells cs=>
   simp only at hh
   split at hh
   ·cases hh; exact Steady.put _ _ _
   ·cases hh
 ·cases hh; exact Steady.refl _
 ·rw [XK] at hh
  obtain⟨ob,_,hh⟩:=hh
  cases ob with
  | cells cs=>cases hh
  | row t cs=>cases hh
  | map es=>cases hh; exact Steady.put _ _ _
theorem yj {aI:List Nat}{d:Option Nat}{x y:AV × AHeap}(hz:vU aI d x=some y):Steady x.2 y.2:=by
 unfold vU at hz
 cases hm:Mi aI d with
 | true=>rw [hm,cond_true] at hz; exact na hz
 | false=>rw [hm,cond_false] at hz; cases hz; exact Steady.refl _
theorem nh {h h':AHeap}{t:TypeId}{x y z:AV}(hh:hJ P h t x y z=some h'):Steady h h':=by
 unfold hJ at hh
 rw [XK] at hh
 obtain⟨d,_,hh⟩:=hh
 cases d<;>simp only at hh<;>try (cases hh; done)
 split at hh
 ·cases hh
 cases x<;>simp only at hh<;>try (cases hh; done)
 rw [XK] at hh
 obtain⟨ob,_,hh⟩:=hh
 cases ob with
 | cells cs=>cases hh
 | row t cs=>cases hh
 | map es=>
  obtain⟨qP,_,rfl⟩:=Option.map_some' hh
  exact Steady.put _ _ _
theorem po {h h':AHeap}{t:TypeId}{x y z:AV}(hh:gQ P h t x y=some (z,h')):Steady h h':=by
 unfold gQ at hh
 split at hh
 ·rw [XK] at hh
  obtain⟨d,_,hh⟩:=hh
  cases d<;>simp only at hh<;>try (cases hh; done)
  rw [XK] at hh
  obtain⟨i,_,hh⟩:=hh
  rw [XK] at hh
  obtain⟨z,_,hh⟩:=hh
  split at hh<;>cases hh
  exact Steady.put _ _ _
 ·cases hh
theorem oo {cs:List AV}(h:iD s aI ds o cs=some s'):Steady s.h s'.h:=by
 unfold iD at h
 split at h
 rotate_left
 ·cases h
 split at h
 ·split at h
  ·split at h<;>cases h
   rw [jy]; exact Steady.refl _
  ·cases h
   rw [jy]; exact Steady.put _ _ _
 ·cases h
theorem sV (hcf:SteadyF cf){e:Operand→AV}(h:zY P cf aI ds e s o=some s'):Steady s.h s'.h:=by
 have eC:∀{x:Option AV},(x.map fun x=>s.set o.dst x)=some s'→Steady s.h s'.h:=by
  intro x hx
  obtain⟨z,rfl,rfl⟩:=Option.map_some' hx
  rw [jy]; exact Steady.refl _
 unfold zY at h
 dsimp only at h
 split at h
 ·cases h; rw [jy]; exact Steady.refl _
 ·cases h; rw [jy]; exact Steady.refl _
 ·obtain⟨z,_,rfl⟩:=Option.map_some' h; rw [jy]; exact Steady.refl _
 ·rw [XK] at h
  obtain⟨z,_,h⟩:=h
  exact oo h
 ·exact oo h
 ·exact eC h
 ·obtain⟨z,hz,rfl⟩:=Option.map_some' h
  unfold qa
  split
  ·rw [jy]; exact Steady.refl _
  ·rw [jy]; exact Steady.put _ _ _
 ·exact eC h
 ·split at h
  ·cases h
  split at h
  ·rw [XK] at h
   obtain⟨cs,_,h⟩:=h
   obtain⟨z,_,rfl⟩:=Option.map_some' h
   exact Steady.refl _
  ·rw [XK] at h
   obtain⟨ob,_,h⟩:=h
   cases ob with
   | map es=>cases h
   | row t cs=>cases h
   | cells cs=>
    obtain⟨z,_,rfl⟩:=Option.map_some' h
    exact Steady.put _ _ _
  ·cases h
 ·exact eC h
 ·exact eC h
 ·exact eC h
 ·exact eC h
 ·split at h
  ·exact eC h
  ·cases h
 ·cases h; rw [jy]; exact Steady.put _ _ _
 ·obtain⟨⟨z,h'⟩,hz,rfl⟩:=Option.map_some' h
  rw [jy]; exact po hz
 ·exact eC h
 ·exact eC h
 ·exact eC h
 ·exact eC h
 ·exact eC h
 ·exact eC h
 ·split at h
  ·cases h
  obtain⟨h',hz,rfl⟩:=Option.map_some' h
  exact nh hz
 ·split at h
  ·cases h
  obtain⟨h',hz,rfl⟩:=Option.map_some' h
  exact nh hz
 ·exact eC h
 ·unfold gi at h
  split at h
  ·exact eC h
  ·obtain⟨⟨z,h'⟩,hz,rfl⟩:=Option.map_some' h
   rw [jy]; exact sU hz
  ·obtain⟨⟨z,h'⟩,hz,rfl⟩:=Option.map_some' h
   rw [jy]; exact wz hz
  ·obtain⟨h',hz,rfl⟩:=Option.map_some' h
   rw [jy]; exact uD hz
  ·rw [XK] at h
   obtain⟨v,_,h⟩:=h
   rw [XK] at h
   obtain⟨vs,_,h⟩:=h
   rw [XK] at h
   obtain⟨u,_,h⟩:=h
   exact eC h
  ·rw [XK] at h
   obtain⟨v,_,h⟩:=h
   rw [XK] at h
   obtain⟨vs,_,h⟩:=h
   rw [XK] at h
   obtain⟨u,_,h⟩:=h
   exact eC h
  ·cases h
 ·split at h
  ·split at h
   ·obtain⟨⟨z,h'⟩,hz,rfl⟩:=Option.map_some' h
    rw [XK] at hz
    obtain⟨⟨z0,h0⟩,hz,hm⟩:=hz
    rw [jy]; exact (hcf _ _ _ _ _ hz).trans (yj hm)
   ·cases h
  ·cases h
 ·cases h
theorem pq (hcf:SteadyF cf){ops:List Oper}(h:mU P cf aI ops s o=some s'):Steady s.h s'.h:=by
 unfold mU at h
 rw [XK] at h
 obtain⟨w,_,h⟩:=h
 cases w with
 | true=>exact sV hcf (by simpa [vV] using h)
 | false=>
  simp only [XX,if_false,XM] at h
  subst h
  rw [jy]; exact Steady.refl _
theorem q7 (hcf:SteadyF cf){ops:List Oper}:∀{l:List Oper} {s s':RS},rB P cf aI ops s l=some s'→Steady s.h s'.h
 | [],s,s',h=>by simp only [rB,XM] at h; subst h; exact Steady.refl _
 | o::l,s,s',h=>by
  simp only [rB,XK] at h
  obtain⟨s1,h1,h2⟩:=h
  exact (pq hcf h1).trans (q7 hcf h2)
theorem q8 (hcf:SteadyF cf){ops:List Oper}:∀{l:List Oper} {s r:RS} {es:List mD},pc P cf aI ops s l=some (es,r)→Steady s.h r.h
 | [],s,r,es,h=>by simp only [pc,XM,XS] at h; rw [h.2]; exact Steady.refl _
 | o::l,s,r,es,h=>by
  simp only [pc,XK,XL] at h
  obtain⟨w,hw,s1,h1,⟨qP,r'⟩,h2,h3⟩:=h
  simp only [XS] at h3
  obtain⟨_,rfl⟩:=h3
  have h4:mU P cf aI ops s o=some s1:=by unfold mU; rw [hw]; exact h1
  exact (pq hcf h4).trans (q8 hcf h2)
theorem uE (hcf:SteadyF cf){ops:Array Oper}(h:j5 P cf aI ops s=some s'):Steady s.h s'.h:=by
 unfold j5 at h
 dsimp only at h
 split at h
 rotate_left
 ·cases h
 rw [XK] at h
 obtain⟨⟨es,r⟩,Ag,h⟩:=h
 simp only at h
 split at h
 ·cases h; exact q8 hcf Ag
 ·cases h
theorem gv (hcf:SteadyF cf){A:bY}{m:Nat}:∀(c:Code) (st jN:St) (e:Ex),bO P cf A m c st=some (e,jN)→Steady st.h jN.h
 | .skip,st,jN,e,h=>by simp only [bO,XM,XS] at h; rw [h.2]; exact Steady.refl _
 | .label _,st,jN,e,h=>by simp only [bO,XM,XS] at h; rw [h.2]; exact Steady.refl _
 | .ret,st,jN,e,h=>by simp only [bO,XM,XS] at h; rw [h.2]; exact Steady.refl _
 | .exit _,st,jN,e,h=>by simp only [bO,XM,XS] at h; rw [h.2]; exact Steady.refl _
 | .seq x y,st,jN,e,h=>by
  simp only [bO,XK] at h
  obtain⟨⟨e1,s1⟩,h1,h2⟩:=h
  have:=gv hcf x st s1 e1 h1
  cases e1 with
  | norm=>exact this.trans (gv hcf y s1 jN e h2)
  | exit id=>simp only [XM,XS] at h2; rw [←h2.2]; exact this
  | ret=>simp only [XM,XS] at h2; rw [←h2.2]; exact this
 | .cond k x y,st,jN,e,h=>by
  simp only [bO,XK] at h
  obtain⟨t,_,h⟩:=h
  cases t with
  | true=>exact gv hcf x st jN e (by simpa using h)
  | false=>exact gv hcf y st jN e (by simpa using h)
 | .block id x,st,jN,e,h=>by
  simp only [bO,XL] at h
  obtain⟨⟨e1,s1⟩,h1,h2⟩:=h
  have:=gv hcf x st s1 e1 h1
  cases e1<;>(simp only [XS] at h2; rw [←h2.2]; exact this)
 | .loop x,st,jN,e,h=>by
  simp only [bO] at h
  have key:∀(j:Nat) (st:St),lf (bO P cf A m x) j st=some (e,jN)→Steady st.h jN.h:=by
   intro j
   induction j with
   | zero=>intro st h; simp [lf] at h
   | succ j ih=>
    intro st h
    simp only [lf,XK] at h
    obtain⟨⟨e1,s1⟩,h1,h2⟩:=h
    have:=gv hcf x st s1 e1 h1
    cases e1 with
    | norm=>exact this.trans (ih s1 h2)
    | exit id=>simp only [XM,XS] at h2; rw [←h2.2]; exact this
    | ret=>simp only [XM,XS] at h2; rw [←h2.2]; exact this
  exact key m st h
 | .region id ops draw,st,jN,e,h=>by
  simp only [bO,XK,XL,XS] at h
  obtain⟨s0,h0,s',h1,s2,h2,_,rfl⟩:=h
  rw [HX]
  refine ((nb h0).trans ?_).trans (nb h2)
  cases draw with
  | true=>exact uE (s:=s0) hcf (by simpa using h1)
  | false=>exact q7 (s:=s0) hcf (by simpa using h1)
 | .rangeFunc ..,st,jN,e,h=>by simp [bO] at h
 | .scope ..,st,jN,e,h=>by simp [bO] at h
 | .goto ..,st,jN,e,h=>by simp [bO] at h
 | .refuse ..,st,jN,e,h=>by simp [bO] at h
theorem wA (hcf:SteadyF cf){aW:FuncId→bY}{m:Nat}:SteadyF (bb P aW cf m):=by
 intro f args h r h' hc
 unfold bb at hc
 rw [XK] at hc
 obtain⟨fn,hf,hc⟩:=hc
 rw [XK] at hc
 obtain⟨c,hb,hc⟩:=hc
 split at hc
 rotate_left
 ·cases hc
 rw [XK] at hc
 obtain⟨⟨e,st⟩,hex,hc⟩:=hc
 have:=gv hcf c _ _ _ hex
 cases e with
 | norm=>obtain⟨r',_,h2⟩:=Option.map_some' hc; cases h2; exact this
 | ret=>obtain⟨r',_,h2⟩:=Option.map_some' hc; cases h2; exact this
 | exit id=>cases hc
end
end Go.R
namespace Go.R
open Go
section
variable {P:Program}{cf:CallF}{aI ds:List Nat}{o:Oper}{s s':RS}
theorem DB {e e':Operand→AV}(h:∀x∈o.op.operands,e x=e' x):zY P cf aI ds e s o=zY P cf aI ds e' s o:=by
 have MI:∀(l:List Operand),(∀x∈l,e x=e' x)→l.map e=l.map e':=fun l hl=>Y0 hl
 have J2:∀(q:Option Operand),(∀x,q=some x→e x=e' x)→q.map e=q.map e':=by
  intro q hq; cases q with
  | none=>rfl
  | some x=>simp [hq x rfl]
 unfold zY
 cases BB:o.op<;>rw [BB] at h
 case build t ps=>
  have:(ps.toList.map fun (i,x)=>(i,e x))=(ps.toList.map fun (i,x)=>(i,e' x)):=
   Y0 fun p hp=>by
    have:=h p.2 (by simp only [Op.operands,List.mem_toArray,Yo]; exact⟨p,hp,rfl⟩)
    simp [this]
  simp only [this]
 case buildSlice t n ps=>
  have:(ps.toList.map fun (i,x)=>(i,e x))=(ps.toList.map fun (i,x)=>(i,e' x)):=
   Y0 fun p hp=>by
    have:=h p.2 (by simp only [Op.operands,List.mem_toArray,Yo]; exact⟨p,hp,rfl⟩)
    simp [this]
  simp only [this]
 case makeFunc f first cap=>
  have:cap.toList.map e=cap.toList.map e':=MI _ fun x hx=>h x (by simp only [Op.operands,Array.mem_append]; right; exact YG.1 hx)
  cases f<;>first | rfl | simp only [this]
 case makeMap t r=>cases r<;>rfl
 case slice t x lo hi mx=>
  have h1:e x=e' x:=h x (by simp [Op.operands])
  have h2:=J2 lo fun y hy=>h y (by simp [Op.operands,hy])
  have h3:=J2 hi fun y hy=>h y (by simp [Op.operands,hy])
  have h4:=J2 mx fun y hy=>h y (by simp [Op.operands,hy])
  simp only [h1,h2,h3,h4]
 case call c=>
  obtain⟨callee,args,By⟩:=c
  have h1:args.toList.map e=args.toList.map e':=MI _ fun x hx=>h x (by
   simp only [Op.operands,Call.operands]
   cases callee<;>simp<;>first | exact YG.1 hx | (right; exact YG.1 hx) | (left; exact YG.1 hx))
  cases callee with
  | builtin b=>simp only [h1]
  | value f=>
   have h2:e f=e' f:=h f (by simp [Op.operands,Call.operands])
   simp only [h1,h2]
  | invoke r nm=>rfl
 all_goals first
  | rfl
  | (simp [Op.operands] at h; simp [h])
end
theorem pt (acc:List Nat)(i:Nat):∀(l:List Edge) (m:Nat),(l.foldl (fun m e=>bif Region.binds .any e then m ||| (2 ^ e.on ||| acc.getD e.on 0) else m) m).testBit i=true→
  m.testBit i=true∨∃e∈l,Region.binds .any e=true∧(e.on=i∨(acc.getD e.on 0).testBit i=true)
 | [],m,h=>.inl h
 | e::l,m,h=>by
  rcases pt acc i l _ h with h1 | ⟨e',he,h1⟩
  ·dsimp only at h1
   cases hb:Region.binds .any e with
   | false=>rw [hb] at h1; exact .inl h1
   | true=>
    rw [hb] at h1
    simp only [cond_true,Nat.testBit_or,Yw,Nat.testBit_two_pow,decide_eq_true_eq] at h1
    rcases h1 with h1 | h1 | h1
    ·exact .inl h1
    ·exact .inr ⟨e,by simp,hb,.inl h1⟩
    ·exact .inr ⟨e,by simp,hb,.inr h1⟩
  ·exact .inr ⟨e',by simp [he],h1⟩
theorem q9:∀(l:List Oper) (acc:List Nat),(∀j,j<acc.length→(jG acc l).getD j 0=acc.getD j 0)∧
  ∀j i,((jG acc l).getD j 0).testBit i=true→acc.length≤j→∃o,l[j - acc.length]? = some o∧∃e∈o.after.toList,Region.binds .any e=true∧(e.on=i∨((jG acc l).getD e.on 0).testBit i=true)
 | [],acc=>⟨fun j hj=>rfl,fun j i h hj=>by simp [jG,List.getD,Yc hj] at h⟩
 | o::l,acc=>by
  simp only [jG]
  generalize hm:(o.after.toList.foldl (fun m e=>bif Region.binds .any e then m ||| (2 ^ e.on ||| acc.getD e.on 0) else m) 0)=m
  obtain⟨h1,h2⟩:=q9 l (acc++[m])
  have hold:∀j,j<acc.length→(jG (acc++[m]) l).getD j 0=acc.getD j 0:=fun j hj=>by
   rw [h1 j (by simp; omega)]
   simp [List.getD,XZ hj]
  refine⟨hold,fun j i h hj=>?_⟩
  by_cases UY:j=acc.length
  ·subst UY
   have:(jG (acc++[m]) l).getD acc.length 0=m:=by
    rw [h1 _ (by simp)]; simp [List.getD]
   rw [this,←hm] at h
   rcases pt acc i _ _ h with h3 | ⟨e,he,hb,h3⟩
   ·simp at h3
   ·refine⟨o,by simp,e,he,hb,h3.imp id fun h4=>?_⟩
    by_cases hl:e.on<acc.length
    ·rw [hold _ hl]; exact h4
    ·simp [List.getD,Yc (Nat.not_lt.1 hl)] at h4
  ·obtain⟨o',LZ,h3⟩:=h2 j i h (by simp; omega)
   refine⟨o',?_,h3⟩
   rw [show j - acc.length=(j - (acc++[m]).length)+1 by simp; omega]
   simpa using LZ
theorem kR {α:Type}(p:Nat→α→Nat→α→Bool):∀(l:List α) (k:Nat),pb p k l=true→∀i j x y,i<j→l[i]? = some x→l[j]? = some y→p (k+i) x (k+j) y=true
 | [],k,_,i,j,x,y,_,hx,_=>by simp at hx
 | a::l,k,h,i,j,x,y,zJ,hx,hy=>by
  simp only [pb,XN,X5] at h
  obtain⟨h1,h2⟩:=h
  cases j with
  | zero=>omega
  | succ j=>
   cases i with
   | zero=>
    simp only [Ym,XM] at hx
    subst hx
    have:=h1 (y,k+1+j) (by rw [List.mk_add_mem_zipIdx_iff_getElem?]; simpa using hy)
    simpa [YI,Zd 1 j] using this
   | succ i=>
    have:=kR p l (k+1) h2 i j x y (by omega) (by simpa using hx) (by simpa using hy)
    rw [show k+(i+1)=k+1+i by omega,show k+(j+1)=k+1+j by omega]
    exact this
theorem pv:∀(l:List Oper) (k:Nat),r8 k l=true→∀i o,l[i]? = some o→∀e∈o.after.toList,Region.binds .any e=true→e.on<k+i
 | [],k,_,i,o,h,_,_,_=>by simp at h
 | a::l,k,h,i,o,ho,e,he,hb=>by
  simp only [r8,XN,X5] at h
  obtain⟨h1,h2⟩:=h
  cases i with
  | zero=>
   simp only [Ym,XM] at ho
   subst ho
   have:=h1 e he
   simp only [hb,YQ,Bool.false_or] at this
   exact Nat.blt_eq.mp this
  | succ i=>
   have:=pv l (k+1) h2 i o (by simpa using ho) e he hb
   omega
theorem pw {V:Type}{n i:Nat}(hi:i≤n){W:Nat→Prop}{S:Nat→Bool}{m x:Nat→V}(h0:m 0=x 0)(MJ:∀k,k<n→W k→S k=true→m (k+1)=x (k+1))(rD:∀k,k<n→(¬W k∨S k=false)→m (k+1)=m k)
  (hx:∀k,k<n→¬W k→x (k+1)=x k) (hS:∀k,k<n→W k→(S k=true↔k<i)):m n=x i:=by
 have key:∀k,k≤n→m k=x (min k i):=by
  intro k
  induction k with
  | zero=>intro _; simpa using h0
  | succ k ih=>
   intro hk
   have ih:=ih (by omega)
   by_cases hw:W k
   ·have hs:=hS k (by omega) hw
    by_cases yk:k<i
    ·rw [MJ k (by omega) hw (hs.2 yk),Y7 (by omega)]
    ·have:S k=false:=by
      cases h:S k with
      | false=>rfl
      | true=>exact absurd (hs.1 h) yk
     rw [rD k (by omega) (.inr this),ih,Nat.min_eq_right (by omega),Nat.min_eq_right (by omega)]
   ·rw [rD k (by omega) (.inl hw),ih]
    by_cases yk:k<i
    ·rw [Y7 (by omega),Y7 (by omega),hx k (by omega) hw]
    ·rw [Nat.min_eq_right (by omega),Nat.min_eq_right (by omega)]
 rw [key n (XP n),Nat.min_eq_right hi]
open Classical in
theorem wB {V:Type}{n i:Nat}(hi:i<n){W:Nat→Prop}{S S':Nat→Bool}{m m' x:Nat→V}(h0:m' 0=m 0)(MJ:∀k,k<n→W k→S k=true→m (k+1)=x (k+1))(rD:∀k,k<n→(¬W k∨S k=false)→m (k+1)=m k)
  (MK:∀k,k<n→W k→S' k=true→m' (k+1)=x (k+1)) (J3:∀k,k<n→(¬W k∨S' k=false)→m' (k+1)=m' k)
  (DC:∀k,S' k=if k=i then true else S k) (ML:S i=false) (hl:W i→∀j,j<n→i<j→W j→S j=false):m' n=if W i then x (i+1) else m n:=by
 have key:∀k,k≤n→m' k=if i<k∧W i then x (i+1) else m k:=by
  intro k
  induction k with
  | zero=>intro _; simpa using h0
  | succ k ih=>
   intro hk
   have ih:=ih (by omega)
   by_cases yk:k=i
   ·subst yk
    by_cases hw:W k
    ·rw [MK k (by omega) hw (by rw [DC]; simp),if_pos ⟨by omega,hw⟩]
    ·rw [J3 k (by omega) (.inl hw),ih,if_neg (fun h=>hw h.2),if_neg (fun h=>hw h.2),rD k (by omega) (.inl hw)]
   ·have hs:S' k=S k:=by rw [DC,if_neg yk]
    by_cases hw:W k
    ·cases sS:S k with
     | true=>
      rw [MK k (by omega) hw (hs.trans sS)]
      by_cases Ey:i<k+1∧W i
      ·have:=hl Ey.2 k (by omega) (by omega) hw
       rw [sS] at this; cases this
      ·rw [if_neg Ey,MJ k (by omega) hw sS]
     | false=>
      rw [J3 k (by omega) (.inr (hs.trans sS)),ih,rD k (by omega) (.inr sS)]
      by_cases Ey:i<k∧W i
      ·rw [if_pos Ey,if_pos ⟨by omega,Ey.2⟩]
      ·rw [if_neg Ey,if_neg (fun h=>Ey ⟨by omega,h.2⟩)]
    ·rw [J3 k (by omega) (.inl hw),ih,rD k (by omega) (.inl hw)]
     by_cases Ey:i<k∧W i
     ·rw [if_pos Ey,if_pos ⟨by omega,Ey.2⟩]
     ·rw [if_neg Ey,if_neg (fun h=>Ey ⟨by omega,h.2⟩)]
 rw [key n (XP n)]
 by_cases hw:W i
 ·rw [if_pos ⟨hi,hw⟩,if_pos hw]
 ·rw [if_neg (fun h=>hw h.2),if_neg hw]
structure sW (P:Program)(cf:CallF)(aI:List Nat)(ops:Array Oper)(tx:Nat→RS)(ft:Nat→k9)(ord:Nat→Nat→Prop):Prop where
 op:∀k o,ops[k]? = some o→∃w,hU ops.toList (tx k).ρ o=some w∧(if w then vV P cf aI (ops.toList.filterMap (·.dst)) (tx k) o=some (tx (k+1))∧ft k=bq aI (bP (tx k).ρ) o else tx (k+1)=(tx k).set o.dst (.tup [])∧ft k={})
 J4:∀k i,ord k i→∃o,ops[i]? = some o∧∃e∈o.after,Region.binds .any e=true∧(e.on=k∨ord k e.on)
 back:∀i o,ops[i]? = some o→∀e∈o.after,Region.binds .any e=true→e.on<i
 Jk:∀i j x y,i≠j→ops[i]? = some x→ops[j]? = some y→ord i j∨ord j i∨∀d,x.dst=some d→d∉y.looksAt ops∧y.dst≠some d
 boxes:∀i j,i<ops.size→j<ops.size→i≠j→ord i j∨ord j i∨(∀k,(ft i).wb=some k→k∉(ft j).rb∧(ft j).wb≠some k)∧((ft i).wh=true→(ft j).wh=false∧∀id∈(ft j).rh,(tx i).h.get id=(tx (i+1)).h.get id)
 Pk:∀i o d,ops[i]? = some o→(ft i).al=true→o.dst=some d→(∀t∈ops.toList.filterMap (·.dst),t≠d→∀off,(tx 0).ρ t≠.lp d off)∧∀j y t,ops[j]? = some y→j≠i→ord i j∨(y.dst=some t→∀off,(tx (j+1)).ρ t≠.lp d off)
section
variable {P:Program}{cf:CallF}{aI:List Nat}{ops:Array Oper}{tx:Nat→RS}{ft:Nat→k9}{ord:Nat→Nat→Prop}
def jz (ops:Array Oper)(k:Nat):Option Nat:=(ops[k]?).bind (·.dst)
def ky (ops:Array Oper)(tx:Nat→RS)(ft:Nat→k9)(S:Nat→Bool):Nat→RS
 | 0=>tx 0
 | k+1=>if S k then (ky ops tx ft S k).shift (ft k) (jz ops k) (tx (k+1)) else ky ops tx ft S k
theorem sW.shift (T:sW P cf aI ops tx ft ord){k:Nat}(hk:k<ops.size):tx (k+1)=(tx k).shift (ft k) (jz ops k) (tx (k+1)):=by
 have ho:ops[k]? = some ops[k]:=by simp [hk]
 obtain⟨w,hw,h⟩:=T.op k _ ho
 have hd:jz ops k=ops[k].dst:=by simp [jz,hk]
 rw [hd]
 cases w with
 | true=>
  simp only [if_true] at h
  obtain⟨h1,h2⟩:=h
  have:=vb (s2:=tx k) (e:=bP (tx k).ρ) h1 (fun _ _=>rfl) (fun _ _=>rfl) (fun _=>rfl) (fun oY d zG=>by
   unfold vV zY at h1
   dsimp only at h1
   have Jl:∀(cs:List AV) (s s':RS),iD s aI (ops.toList.filterMap (·.dst)) ops[k] cs=some s'→aI.contains d=true→sw d s.ρ ((ops.toList.filterMap (·.dst)).filter fun t=>!Nat.beq t d)=true:=by
    intro cs s s' hb hl
    unfold iD at hb
    simp only [zG,hl,if_true] at hb
    by_cases hn:sw d s.ρ ((ops.toList.filterMap (·.dst)).filter fun t=>!Nat.beq t d)=true
    ·exact hn
    ·simp [hn] at hb
   unfold bq at oY
   split at oY
   ·rename_i t BB
    rw [zG] at oY
    simp only at oY
    split at oY
    ·rename_i hl
     rw [BB] at h1
     simp only [XK] at h1
     obtain⟨z,_,h1⟩:=h1
     exact Jl _ _ _ h1 hl
    ·cases oY
   ·rename_i t x BB
    rw [zG] at oY
    simp only at oY
    split at oY
    ·rename_i hl
     rw [BB] at h1
     exact Jl _ _ _ h1 hl
    ·cases oY
   all_goals first
    | (split at oY<;>cases oY)
    | (split at oY<;>first | cases oY | (split at oY<;>cases oY))
    | cases oY)
  unfold vV at h1
  rw [h1] at this
  rw [h2]
  exact Yj this
 | false=>
  simp only [XX,if_false] at h
  rw [h.1,h.2]
  exact iL (tx k) (tx k) {} _ _ rfl rfl
theorem sb (s2:RS)(f:k9)(d:Option Nat)(s':RS)(t:Nat):(s2.shift f d s').ρ t=if d=some t then s'.ρ t else s2.ρ t:=by
 cases d with
 | none=>simp [RS.shift]
 | some d=>
  simp only [RS.shift,XM]
  by_cases h:t=d
  ·subst h; simp
  ·rw [if_neg h,if_neg (Ne.symm h)]
theorem px (s2:RS)(f:k9)(d:Option Nat)(s':RS)(b:Nat):(s2.shift f d s').bx b=if f.wb=some b then s'.bx b else s2.bx b:=by
 cases hf:f.wb with
 | none=>simp [RS.shift,hf]
 | some k=>
  simp only [RS.shift,hf,XM]
  by_cases h:b=k
  ·subst h; simp
  ·rw [if_neg h,if_neg (Ne.symm h)]
theorem sW.lt (T:sW P cf aI ops tx ft ord):∀{j k:Nat},ord k j→k<j:=by
 intro j
 induction j using Nat.strongRecOn with
 | _ j ih=>
  intro k h
  obtain⟨o,ho,e,he,hb,h1⟩:=T.J4 k j h
  have h2:=T.back j o ho e he hb
  rcases h1 with h1 | h1
  ·omega
  ·have:=ih e.on h2 h1; omega
def qm (ops:Array Oper)(S:Nat→Bool):Prop:=∀j o,ops[j]? = some o→S j=true→∀e∈o.after,Region.binds .any e=true→S e.on=true
theorem sW.down (T:sW P cf aI ops tx ft ord){S:Nat→Bool}(hc:qm ops S):∀{j k:Nat},ord k j→S j=true→S k=true:=by
 intro j
 induction j using Nat.strongRecOn with
 | _ j ih=>
  intro k h hs
  obtain⟨o,ho,e,he,hb,h1⟩:=T.J4 k j h
  have h2:=T.back j o ho e he hb
  have h3:=hc j o ho hs e he hb
  rcases h1 with h1 | h1
  ·rw [←h1]; exact h3
  ·exact ih e.on h2 h1 h3
variable {S:Nat→Bool}{i:Nat}{oi:Oper}
theorem sW.before (T:sW P cf aI ops tx ft ord)(hc:qm ops S)(ho:ops[i]? = some oi)(hr:∀e∈oi.after,Region.binds .any e=true→S e.on=true){k:Nat}(h:ord k i):S k=true:=by
 obtain⟨o,LZ,e,he,hb,h1⟩:=T.J4 k i h
 rw [ho] at LZ
 cases LZ
 rcases h1 with h1 | h1
 ·rw [←h1]; exact hr e he hb
 ·exact T.down hc h1 (hr e he hb)
theorem sW.iff (T:sW P cf aI ops tx ft ord)(hc:qm ops S)(ho:ops[i]? = some oi)(hr:∀e∈oi.after,Region.binds .any e=true→S e.on=true)(hi:S i=false){k:Nat}(h:ord i k∨ord k i):S k=true↔k<i:=by
 rcases h with h | h
 ·have:=T.lt h
  refine⟨fun hk=>?_,fun _=>by omega⟩
  have:=T.down hc h hk
  rw [hi] at this; cases this
 ·exact⟨fun _=>T.lt h,fun _=>T.before hc ho hr h⟩
theorem wC (t:Nat)(k:Nat)(hd:jz ops k=some t)(hs:S k=true):(ky ops tx ft S (k+1)).ρ t=(tx (k+1)).ρ t:=by
 simp only [ky,hs,if_true,sb,hd]
theorem wD (t:Nat)(k:Nat)(h:¬jz ops k=some t∨S k=false):(ky ops tx ft S (k+1)).ρ t=(ky ops tx ft S k).ρ t:=by
 simp only [ky]
 split
 ·rename_i hs
  rcases h with h | h
  ·rw [sb,if_neg h]
  ·rw [h] at hs; cases hs
 ·rfl
theorem wE (b:Nat)(k:Nat)(hd:(ft k).wb=some b)(hs:S k=true):(ky ops tx ft S (k+1)).bx b=(tx (k+1)).bx b:=by
 simp only [ky,hs,if_true,px,hd]
theorem wF (b:Nat)(k:Nat)(h:¬(ft k).wb=some b∨S k=false):(ky ops tx ft S (k+1)).bx b=(ky ops tx ft S k).bx b:=by
 simp only [ky]
 split
 ·rename_i hs
  rcases h with h | h
  ·rw [px,if_neg h]
  ·rw [h] at hs; cases hs
 ·rfl
theorem wG (k:Nat)(hd:(ft k).wh=true)(hs:S k=true):(ky ops tx ft S (k+1)).h=(tx (k+1)).h:=by
 simp only [ky,hs,if_true,RS.shift,hd]
theorem wH (k:Nat)(h:¬(ft k).wh=true∨S k=false):(ky ops tx ft S (k+1)).h=(ky ops tx ft S k).h:=by
 simp only [ky]
 split
 ·rename_i hs
  rcases h with h | h
  ·simp only [RS.shift]; rw [if_neg h]
  ·rw [h] at hs; cases hs
 ·rfl
theorem sW.Pl (T:sW P cf aI ops tx ft ord)(t:Nat)(k:Nat)(hk:k<ops.size)(h:¬jz ops k=some t):(tx (k+1)).ρ t=(tx k).ρ t:=by
 rw [T.shift hk,sb,if_neg h]
theorem sW.MM (T:sW P cf aI ops tx ft ord)(b:Nat)(k:Nat)(hk:k<ops.size)(h:¬(ft k).wb=some b):(tx (k+1)).bx b=(tx k).bx b:=by
 rw [T.shift hk,px,if_neg h]
theorem sW.J5 (T:sW P cf aI ops tx ft ord)(k:Nat)(hk:k<ops.size)(h:¬(ft k).wh=true):(tx (k+1)).h=(tx k).h:=by
 rw [T.shift hk]; simp only [RS.shift]; rw [if_neg h]
theorem sW.reads (T:sW P cf aI ops tx ft ord)(hc:qm ops S)(ho:ops[i]? = some oi)(hr:∀e∈oi.after,Region.binds .any e=true→S e.on=true)(hi:S i=false) :
  (∀t∈oi.looksAt ops,(ky ops tx ft S ops.size).ρ t=(tx i).ρ t)∧(∀b∈(ft i).rb,(ky ops tx ft S ops.size).bx b=(tx i).bx b)∧
  (∀id∈(ft i).rh,(ky ops tx ft S ops.size).h.get id=(tx i).h.get id)∧((ft i).wh=true→(ky ops tx ft S ops.size).h=(tx i).h):=by
 have hin:i<ops.size:=(Yk.1 ho).1
 have Ad:∀k,k<ops.size→ops[k]? = some ops[k]!:=fun k hk=>by simp [hk]
 have E7:∀k,k=i→(S k=true↔k<i):=by
  rintro k rfl
  rw [hi]; simp
 refine⟨fun t ht=>?_,fun b hb=>?_,fun id hid=>?_,fun hw=>?_⟩
 ·refine pw (W:=fun k=>jz ops k=some t) (m:=fun k=>(ky ops tx ft S k).ρ t) (x:=fun k=>(tx k).ρ t) (S:=S) (Nat.le_of_lt hin) rfl (fun k _ h hs=>wC t k h hs) (fun k _ h=>wD t k h) (fun k hk h=>T.Pl t k hk h) (fun k hk h=>?_)
  by_cases yk:k=i
  ·exact E7 k yk
  ·obtain⟨y,hy,J6⟩:=XK.1 h
   rcases T.Jk k i y oi yk hy ho with h1 | h1 | h1
   ·exact T.iff hc ho hr hi (.inr h1)
   ·exact T.iff hc ho hr hi (.inl h1)
   ·exact absurd ht (h1 t J6).1
 ·refine pw (W:=fun k=>(ft k).wb=some b) (m:=fun k=>(ky ops tx ft S k).bx b) (x:=fun k=>(tx k).bx b) (S:=S) (Nat.le_of_lt hin) rfl (fun k _ h hs=>wE b k h hs) (fun k _ h=>wF b k h) (fun k hk h=>T.MM b k hk h) (fun k hk h=>?_)
  by_cases yk:k=i
  ·exact E7 k yk
  ·rcases T.boxes k i hk hin yk with h1 | h1 | h1
   ·exact T.iff hc ho hr hi (.inr h1)
   ·exact T.iff hc ho hr hi (.inl h1)
   ·exact absurd hb (h1.1 b h).1
 ·
  obtain⟨p,hp,MC⟩:∃p,p≤ops.size∧∀k,k<ops.size→(ft k).wh=true→(S k=true↔k<p):=by
   have key:∀m,m≤ops.size→(∀k,k<m→(ft k).wh=true→S k=true)∨∃p,p<m∧(ft p).wh=true∧S p=false∧∀k,k<p→(ft k).wh=true→S k=true:=by
    intro m
    induction m with
    | zero=>intro _; exact .inl fun k hk=>by omega
    | succ m ih=>
     intro hm
     rcases ih (by omega) with h | ⟨p,h1,h2⟩
     ·by_cases hw:(ft m).wh=true∧S m=false
      ·exact .inr ⟨m,by omega,hw.1,hw.2,h⟩
      ·refine .inl fun k hk SH=>?_
       by_cases UZ:k=m
       ·subst UZ
        cases hs:S k with
        | true=>rfl
        | false=>exact absurd ⟨SH,hs⟩ hw
       ·exact h k (by omega) SH
     ·exact .inr ⟨p,by omega,h2⟩
   rcases key ops.size (XP _) with h | ⟨p,h1,h2,h3,h4⟩
   ·exact⟨ops.size,XP _,fun k hk hw=>⟨fun _=>hk,fun _=>h k hk hw⟩⟩
   ·refine⟨p,by omega,fun k hk hw=>⟨fun hs=>?_,fun Ow=>h4 k Ow hw⟩⟩
    rcases Nat.lt_or_ge k p with h5 | h5
    ·exact h5
    ·by_cases Ow:k=p
     ·subst Ow; rw [h3] at hs; cases hs
     ·rcases T.boxes p k h1 hk (Ne.symm Ow) with h6 | h6 | h6
      ·have:=T.down hc h6 hs; rw [h3] at this; cases this
      ·have:=T.lt h6; omega
      ·have:=(h6.2 h2).1; rw [hw] at this; cases this
  have J7:(ky ops tx ft S ops.size).h=(tx p).h:=
   pw (W:=fun k=>(ft k).wh=true) (m:=fun k=>(ky ops tx ft S k).h) (x:=fun k=>(tx k).h) (S:=S) hp rfl (fun k _ h hs=>wG k h hs) (fun k _ h=>wH k h) (fun k hk h=>T.J5 k hk h) MC
  rw [J7]
  have Jm:∀k,k<ops.size→(p≤k∧k<i)∨(i≤k∧k<p)→(tx (k+1)).h.get id=(tx k).h.get id:=by
   intro k hk hb
   by_cases hw:(ft k).wh=true
   ·have hs:=MC k hk hw
    have yk:k≠i:=by
     rintro rfl
     rcases hb with hb | hb
     ·omega
     ·have:=hs.2 hb.2; rw [hi] at this; cases this
    rcases T.boxes k i hk hin yk with h1 | h1 | h1
    ·have hlt:=T.lt h1
     have:=hs.1 (T.before hc ho hr h1)
     omega
    ·have hlt:=T.lt h1
     have:=T.down hc h1 (hs.2 (by omega))
     rw [hi] at this; cases this
    ·exact ((h1.2 hw).2 id hid).symm
   ·rw [T.J5 k hk hw]
  have walk:∀a b,a≤b→b≤ops.size→(∀k,a≤k→k<b→(tx (k+1)).h.get id=(tx k).h.get id)→(tx b).h.get id=(tx a).h.get id:=by
   intro a b MN
   induction b with
   | zero=>
     intro _ _; have:a=0:=by omega
     subst this; rfl
   | succ b ih=>
    intro hb hk
    by_cases Pm:a=b+1
    ·subst Pm; rfl
    ·rw [hk b (by omega) (by omega)]
     exact ih (by omega) (by omega) fun k h1 h2=>hk k h1 (by omega)
  rcases Nat.le_total p i with h | h
  ·exact (walk p i h (Nat.le_of_lt hin) fun k h1 h2=>Jm k (by omega) (.inl ⟨h1,h2⟩)).symm
  ·exact walk i p h hp fun k h1 h2=>Jm k (by omega) (.inr ⟨h1,h2⟩)
 ·refine pw (W:=fun k=>(ft k).wh=true) (m:=fun k=>(ky ops tx ft S k).h) (x:=fun k=>(tx k).h) (S:=S) (Nat.le_of_lt hin) rfl (fun k _ h hs=>wG k h hs) (fun k _ h=>wH k h) (fun k hk h=>T.J5 k hk h) (fun k hk h=>?_)
  by_cases yk:k=i
  ·exact E7 k yk
  ·rcases T.boxes k i hk hin yk with h1 | h1 | h1
   ·exact T.iff hc ho hr hi (.inr h1)
   ·exact T.iff hc ho hr hi (.inl h1)
   ·have:=(h1.2 h).1; rw [hw] at this; cases this
theorem yl (t:Nat):∀k,(ky ops tx ft S k).ρ t=(tx 0).ρ t∨∃j,j<k∧S j=true∧jz ops j=some t∧(ky ops tx ft S k).ρ t=(tx (j+1)).ρ t
 | 0=>.inl rfl
 | k+1=>by
  by_cases h:jz ops k=some t∧S k=true
  ·exact .inr ⟨k,by omega,h.2,h.1,wC t k h.1 h.2⟩
  ·have h':¬jz ops k=some t∨S k=false:=by
    by_cases h1:jz ops k=some t
    ·right; cases hs:S k with
     | true=>exact absurd ⟨h1,hs⟩ h
     | false=>rfl
    ·exact .inl h1
   rw [wD t k h']
   rcases yl t k with h1 | ⟨j,h1,h2⟩
   ·exact .inl h1
   ·exact .inr ⟨j,by omega,h2⟩
theorem sX {k:Nat}{ρ:Nat→AV}:∀{l:List Nat},(∀t∈l,∀off,ρ t≠.lp k off)→sw k ρ l=true
 | [],_=>rfl
 | t::l,h=>by
  simp only [sw,XN]
  refine⟨?_,sX fun u hu=>h u (by simp [hu])⟩
  have:=h t (by simp)
  split
  ·rename_i j off heq
   simp only [bne_iff_ne,ne_eq]
   rintro rfl
   exact this off heq
  ·rfl
open Classical in
theorem sW.next (T:sW P cf aI ops tx ft ord)(hc:qm ops S)(ho:ops[i]? = some oi)(hr:∀e∈oi.after,Region.binds .any e=true→S e.on=true)(hi:S i=false){S':Nat→Bool}(DC:∀k,S' k=if k=i then true else S k) :
  mU P cf aI ops.toList (ky ops tx ft S ops.size) oi=some (ky ops tx ft S' ops.size):=by
 have hin:i<ops.size:=(Yk.1 ho).1
 obtain⟨h1,h2,h3,h4⟩:=T.reads hc ho hr hi
 obtain⟨w,hw,BB⟩:=T.op i oi ho
 have rE:jz ops i=oi.dst:=by simp [jz,ho]
 have vc:∀j,i<j→j<ops.size→(ord i j∨ord j i)→S j=false:=by
  intro j zJ hj h
  cases hs:S j with
  | false=>rfl
  | true=>have:=(T.iff hc ho hr hi h).1 hs; omega
 have J7:ky ops tx ft S' ops.size=(ky ops tx ft S ops.size).shift (ft i) (jz ops i) (tx (i+1)):=by
  refine RS.ext' (fun t=>?_) (fun b=>?_) ?_
  ·rw [sb]
   have:=wB (W:=fun k=>jz ops k=some t) (m:=fun k=>(ky ops tx ft S k).ρ t) (m':=fun k=>(ky ops tx ft S' k).ρ t) (x:=fun k=>(tx k).ρ t) (S:=S) (S':=S') hin rfl
    (fun k _ h hs=>wC t k h hs) (fun k _ h=>wD t k h) (fun k _ h hs=>wC t k h hs) (fun k _ h=>wD t k h) DC hi (fun L2 j hj zJ MO=>by
     obtain⟨y,hy,J6⟩:=XK.1 MO
     rw [rE] at L2
     rcases T.Jk i j oi y (by omega) ho hy with h | h | h
     ·exact vc j zJ hj (.inl h)
     ·exact vc j zJ hj (.inr h)
     ·exact absurd J6 (h t L2).2)
   rw [this]
   by_cases hd:jz ops i=some t
   ·rw [if_pos hd,if_pos hd]
   ·rw [if_neg hd,if_neg hd]
  ·rw [px]
   have:=wB (W:=fun k=>(ft k).wb=some b) (m:=fun k=>(ky ops tx ft S k).bx b) (m':=fun k=>(ky ops tx ft S' k).bx b) (x:=fun k=>(tx k).bx b) (S:=S) (S':=S') hin rfl
    (fun k _ h hs=>wE b k h hs) (fun k _ h=>wF b k h) (fun k _ h hs=>wE b k h hs) (fun k _ h=>wF b k h) DC hi (fun L2 j hj zJ MO=>by
     rcases T.boxes i j hin hj (by omega) with h | h | h
     ·exact vc j zJ hj (.inl h)
     ·exact vc j zJ hj (.inr h)
     ·exact absurd MO (h.1 b L2).2)
   rw [this]
   by_cases hd:(ft i).wb=some b
   ·rw [if_pos hd,if_pos hd]
   ·rw [if_neg hd,if_neg hd]
  ·have:=wB (W:=fun k=>(ft k).wh=true) (m:=fun k=>(ky ops tx ft S k).h) (m':=fun k=>(ky ops tx ft S' k).h) (x:=fun k=>(tx k).h) (S:=S) (S':=S') hin rfl
    (fun k _ h hs=>wG k h hs) (fun k _ h=>wH k h) (fun k _ h hs=>wG k h hs) (fun k _ h=>wH k h) DC hi (fun L2 j hj zJ MO=>by
     rcases T.boxes i j hin hj (by omega) with h | h | h
     ·exact vc j zJ hj (.inl h)
     ·exact vc j zJ hj (.inr h)
     ·have:=(h.2 L2).1; rw [MO] at this; cases this)
   rw [this]
   simp only [RS.shift]
   by_cases hd:(ft i).wh=true
   ·rw [if_pos hd,if_pos hd]
   ·rw [if_neg hd,if_neg hd]
 have MP:∀x∈oi.op.operands,bP (ky ops tx ft S ops.size).ρ x=bP (tx i).ρ x:=by
  intro x hx
  cases x with
  | tmp t=>
   refine h1 t ?_
   unfold Oper.looksAt
   rw [Yg]
   left
   rw [List.mem_filterMap]
   exact⟨.tmp t,YG.2 hx,rfl⟩
  | _=>rfl
 have MQ:hU ops.toList (ky ops tx ft S ops.size).ρ oi=hU ops.toList (tx i).ρ oi:=by
  unfold hU
  cases hg:oi.guard with
  | none=>rfl
  | some g=>
   obtain⟨g,want⟩:=g
   simp only
   cases hq:(ops.toList[g]?).bind (·.dst) with
   | none=>rfl
   | some d=>
    simp only [XJ]
    rw [h1 d]
    unfold Oper.looksAt
    rw [Yg]
    right
    rw [hg]
    simp only
    have:(ops[g]?).bind (·.dst)=some d:=by simpa using hq
    rw [this]
    simp
 unfold mU
 rw [MQ,hw]
 simp only [XJ]
 rw [J7,rE]
 cases w with
 | false=>
  simp only [XX,if_false] at BB ⊢
  rw [BB.1,BB.2]
  congr 1
  exact iL (tx i) _ {} _ _ rfl rfl
 | true=>
  simp only [if_true] at BB ⊢
  obtain⟨BB,L3⟩:=BB
  unfold vV at BB ⊢
  rw [DB MP,L3]
  rw [L3] at h2 h3 h4
  refine vb BB h2 h3 h4 (fun oY d zG=>sX fun t ht off he=>?_)
  rw [List.mem_filter] at ht
  obtain⟨U0,U1⟩:=ht
  have Jc:t≠d:=by simpa [beq_nat] using U1
  obtain⟨l1,l2⟩:=T.Pk i oi d ho (by rw [L3]; exact oY) zG
  rcases yl (ops:=ops) (tx:=tx) (ft:=ft) (S:=S) t ops.size with h | ⟨j,hj,hs,U2,h⟩
  ·rw [h] at he
   exact l1 t U0 Jc off he
  ·rw [h] at he
   obtain⟨y,hy,J6⟩:=XK.1 U2
   have hji:j≠i:=by rintro rfl; rw [hi] at hs; cases hs
   rcases l2 j y t hy hji with h5 | h5
   ·have:=T.down hc h5 hs; rw [hi] at this; cases this
   ·exact h5 J6 off he
theorem BC (T:sW P cf aI ops tx ft ord)(lq:∀k,k<ops.size→S k=true):∀k,k≤ops.size→ky ops tx ft S k=tx k
 | 0,_=>rfl
 | k+1,hk=>by
  simp only [ky,lq k (by omega),if_true]
  rw [BC T lq k (by omega)]
  exact (T.shift (by omega)).symm
def left (n:Nat)(S:Nat→Bool):Nat:=(List.range n).countP fun j=>!S j
theorem DD {n:Nat}{S:Nat→Bool}(h:left n S=0):∀k,k<n→S k=true:=by
 intro k hk
 unfold left at h
 rw [List.countP_eq_zero] at h
 simpa using h k (List.mem_range.2 hk)
theorem E8 {n i:Nat}(hi:i<n){S S':Nat→Bool}(ML:S i=false)(DC:∀k,S' k=if k=i then true else S k):left n S'+1=left n S:=by
 unfold left
 have:∀m,(List.range m).countP (fun j=>!S' j)+(if i<m then 1 else 0)=(List.range m).countP fun j=>!S j:=by
  intro m
  induction m with
  | zero=>simp
  | succ m ih=>
   rw [List.range_succ,List.countP_append,List.countP_append]
   simp only [List.countP_cons,List.countP_nil]
   by_cases hm:m=i
   ·subst hm
    have h1:S' m=true:=by rw [DC]; simp
    rw [h1,ML]
    simp at ih ⊢
    omega
   ·have h1:S' m=S m:=by rw [DC,if_neg hm]
    rw [h1]
    by_cases SJ:i<m
    ·have h3:i<m+1:=by omega
     simp only [SJ,h3,if_true] at ih ⊢
     omega
    ·have h3:¬i<m+1:=by omega
     simp only [SJ,h3,if_false] at ih ⊢
     omega
 have:=this n
 rw [if_pos hi] at this
 exact this
theorem J8 (T:sW P cf aI ops tx ft ord)(hcf:CallOK P cf){L0:Nat→Prop}{c0:Cx}{n:Nat}(hb0:c0.base≤c0.w.heap.size)(Hs:va n ops.toList=true){Q:Exit→Act→World→Prop}
  (hQ:∀a' w',Inv L0 c0 n (ops.toList.filterMap (·.dst)) (tx ops.size) a' w'→Q .normal a' w') :
  ∀(fuel:Nat) (eD:Array Bool) (a:Act) (w:World),eD.size=ops.size→qm ops (fun j=>eD.getD j false)→left ops.size (fun j=>eD.getD j false)≤fuel→
   Inv L0 c0 n (ops.toList.filterMap (·.dst)) (ky ops tx ft (fun j=>eD.getD j false) ops.size) a w→wpAny P .any ops Q fuel eD a w:=by
 intro fuel
 have E9:∀(eD:Array Bool) a w,eD.size=ops.size→Region.ready .any ops eD=[]→Inv L0 c0 n (ops.toList.filterMap (·.dst)) (ky ops tx ft (fun j=>eD.getD j false) ops.size) a w→Q .normal a w:=by
  intro eD a w hsz L4 hi
  have lq:∀k,k<ops.size→eD.getD k false=true:=by
   intro k
   induction k using Nat.strongRecOn with
   | _ k ih=>
    intro hk
    cases hl:eD.getD k false with
    | true=>rfl
    | false=>
     have:k∈Region.ready .any ops eD:=mem_ready.2 ⟨getD_in (by omega) hl,ops[k],by simp [hk],fun e he hb=>by
      have:=T.back k ops[k] (by simp [hk]) e he hb
      exact ih e.on this (by omega)⟩
     rw [L4] at this
     cases this
  rw [BC (S:=fun j=>eD.getD j false) T lq _ (XP _)] at hi
  exact hQ a w hi
 induction fuel with
 | zero=>
  intro eD a w hsz hc hl hi
  have lq:=DD (Nat.le_zero.1 hl)
  have L4:Region.ready .any ops eD=[]:=by
   rw [List.eq_nil_iff_forall_not_mem]
   intro j hj
   obtain⟨h1,o,ho,_⟩:=mem_ready.1 hj
   have MR:j<ops.size:=(Yk.1 ho).1
   have h2:=lq j MR
   have Hw:j<eD.size:=by omega
   simp [Hw] at h1 h2
   rw [h1] at h2; cases h2
  exact⟨L4,E9 eD a w hsz L4 hi⟩
 | succ fuel ih=>
  intro eD a w hsz hc hl hi
  refine⟨fun L4=>E9 eD a w hsz L4 hi,fun i HY=>?_⟩
  obtain⟨h1,o,ho,MS⟩:=mem_ready.1 HY
  have hin:i<ops.size:=(Yk.1 ho).1
  have SK:i<eD.size:=by omega
  have ML:eD.getD i false=false:=by simp [SK] at h1 ⊢; exact h1
  have DC:∀k,(eD.setIfInBounds i true).getD k false=if k=i then true else eD.getD k false:=by
   intro k
   by_cases hk:k=i
   ·subst hk
    rw [if_pos rfl]
    simp [SK]
   ·rw [if_neg hk,getD_set_ne false (Ne.symm hk)]
  have hst:=T.next (S:=fun j=>eD.getD j false) (S':=fun k=>(eD.setIfInBounds i true).getD k false) hc ho MS ML DC
  unfold wpOp
  rw [ho]
  simp only
  have MT:o∈ops.toList:=YG.2 (Array.mem_of_getElem? ho)
  have:=ye (Q:=Q) (K:=wpAny P .any ops Q fuel (eD.setIfInBounds i true)) hcf hb0 rfl (yf Hs MT) hst hi (fun a' w' jP=>by
   refine ih _ a' w' (by simpa using hsz) ?_ ?_ jP
   ·intro j oj Pn hj e he hb
    dsimp only at hj ⊢
    rw [DC] at hj ⊢
    by_cases hji:j=i
    ·subst hji
     rw [ho] at Pn
     cases Pn
     have:=MS e he hb
     rw [this]; simp
    ·rw [if_neg hji] at hj
     have:=hc j oj Pn hj e he hb
     simp only at this
     rw [this]; simp
   ·have:=E8 hin (S:=fun j=>eD.getD j false) ML DC
    omega)
  split
  ·rename_i hw; rw [if_pos hw] at this; exact .inl this
  ·rename_i hw; rw [if_neg hw] at this; exact this
theorem vd {opsL:List Oper}:∀(l:List Oper) (s r:RS) (es:List mD),pc P cf aI opsL s l=some (es,r)→∃tx:Nat→RS,tx 0=s∧tx l.length=r∧
  ∀k o,l[k]? = some o→∃w,hU opsL (tx k).ρ o=some w∧(if w then vV P cf aI (opsL.filterMap (·.dst)) (tx k) o=some (tx (k+1)) else tx (k+1)=(tx k).set o.dst (.tup []))∧
   es[k]? = some {o,f:=if w then bq aI (bP (tx k).ρ) o else {},s:=tx k,s':=tx (k+1)}
 | [],s,r,es,h=>by
  simp only [pc,XM,XS] at h
  obtain⟨rfl,rfl⟩:=h
  exact⟨fun _=>s,rfl,rfl,fun k o ho=>by simp at ho⟩
 | o::l,s,r,es,h=>by
  simp only [pc,XK,XL] at h
  obtain⟨w,hw,s1,h1,⟨qP,r'⟩,h2,h3⟩:=h
  simp only [XS] at h3
  obtain⟨rfl,rfl⟩:=h3
  obtain⟨tx,t0,tn,ht⟩:=vd l s1 r' qP h2
  refine⟨fun | 0=>s | k+1=>tx k,rfl,tn,fun k o' ho=>?_⟩
  cases k with
  | zero=>
   simp only [Ym,XM] at ho
   subst ho
   refine⟨w,hw,?_,?_⟩
   ·cases w with
    | true=>simpa [t0] using h1
    | false=>
     simp only [XX,if_false,XM] at h1 ⊢
     rw [t0]; exact h1.symm
   ·simp [t0]
  | succ k=>
   obtain⟨w',h4,h5,h6⟩:=ht k o' (by simpa using ho)
   exact⟨w',h4,h5,by simpa using h6⟩
theorem Fa {e:Operand→AV}{o:Oper}(h:(bq aI e o).al=true):(bq aI e o).wb.isSome=true:=by
 unfold bq at h ⊢
 split at h<;>try (cases h; done)
 all_goals (split at h<;>try (cases h; done))
 all_goals (split at h<;>try (cases h; done))
 all_goals simp_all
theorem DE {k:Nat}{x:AV}(h:JM k x=false):∀off,x≠.lp k off:=by
 rintro off rfl
 simp [JM] at h
theorem ym (hm:P.follows .mixedOrders=true)(hcf:CallOK P cf)(U3:SteadyF cf):An P cf:=by
 intro L0 c0 n aI id ops s s' h hb0 Hs a w Q hi hQ
 unfold j5 at h
 dsimp only at h
 split at h
 rotate_left
 ·cases h
 rename_i wI
 rw [XK] at h
 obtain⟨⟨es,r⟩,Ag,h⟩:=h
 simp only at h
 split at h
 rotate_left
 ·cases h
 rename_i yn
 cases h
 obtain⟨tx,t0,tn,ht⟩:=vd ops.toList s s' es Ag
 generalize Ml:jG [] ops.toList=ms at wI yn
 have Po:∀k i,(ms.getD i 0).testBit k=true→∃o,ops[i]? = some o∧∃e∈o.after,Region.binds .any e=true∧(e.on=k∨(ms.getD e.on 0).testBit k=true):=by
  intro k i hk
  obtain⟨o,ho,e,he,hb,h1⟩:=(q9 ops.toList []).2 i k (by rw [Ml]; exact hk) (by simp)
  refine⟨o,by simpa using ho,e,YG.1 he,hb,?_⟩
  rw [Ml] at h1
  exact h1
 unfold nK at wI
 simp only [XN] at wI
 obtain⟨J9,Fb⟩:=wI
 let ft:Nat→k9:=fun k=>((es[k]?).map (·.f)).getD {}
 have sH:∀k o,ops[k]? = some o→∃w,hU ops.toList (tx k).ρ o=some w∧(if w then vV P cf aI (ops.toList.filterMap (·.dst)) (tx k) o=some (tx (k+1)) else tx (k+1)=(tx k).set o.dst (.tup []))∧
   es[k]? = some {o,f:=ft k,s:=tx k,s':=tx (k+1)}∧ft k=if w then bq aI (bP (tx k).ρ) o else {}:=by
  intro k o ho
  obtain⟨w,h1,h2,h3⟩:=ht k o (by simpa using ho)
  have L3:ft k=if w then bq aI (bP (tx k).ρ) o else {}:=by simp only [ft,h3,XR,YH]
  exact⟨w,h1,h2,by rw [L3]; exact h3,L3⟩
 have HY:∀k o,ops[k]? = some o→((⟨o,ft k,tx k,tx (k+1)⟩:mD),k)∈es.zipIdx:=by
  intro k o ho
  obtain⟨w,_,_,h3,_⟩:=sH k o ho
  exact List.mk_mem_zipIdx_iff_getElem?.2 h3
 simp only [X5,List.mem_filter,XN] at yn
 have qR:∀k o,ops[k]? = some o→(ft k).quiet=false→(((⟨o,ft k,tx k,tx (k+1)⟩:mD),k)∈es.zipIdx∧(!(ft k).quiet)=true):=fun k o ho hq=>⟨HY k o ho,by rw [hq]; rfl⟩
 have Ad:∀k,k<ops.size→ops[k]? = some ops[k]!:=fun k hk=>by simp [hk]
 have Ka:∀i j x y,ops[i]? = some x→ops[j]? = some y→i≠j→(ft i).quiet=false→(ft j).quiet=false→(ms.getD j 0).testBit i=true∨(ms.getD i 0).testBit j=true∨
   mD.jF ⟨x,ft i,tx i,tx (i+1)⟩ ⟨y,ft j,tx j,tx (j+1)⟩=true:=by
  intro i j x y hx hy zJ Jn Hx
  rcases Nat.lt_or_ge i j with hlt | hge
  ·have:=(yn _ (qR i x hx Jn)).2 _ (qR j y hy Hx)
   simp only [Yw,XN] at this
   rcases this with (h1 | h1) | h1
   ·have:=Nat.le_of_ble_eq_true h1; omega
   ·exact .inl h1
   ·exact .inr (.inr h1.1)
  ·have:=(yn _ (qR j y hy Hx)).2 _ (qR i x hx Jn)
   simp only [Yw,XN] at this
   rcases this with (h1 | h1) | h1
   ·have:=Nat.le_of_ble_eq_true h1; omega
   ·exact .inr (.inl h1)
   ·exact .inr (.inr h1.2)
 have Pp:∀id,(tx 0).h.ver id<(tx 0).h.next:=by
  obtain⟨_,c,Lo,lam,_,f,_⟩:=hi
  rw [t0,←f.h]; exact f.rel.ver
 have hst:∀k,k<ops.size→Steady (tx k).h (tx (k+1)).h:=by
  intro k hk
  obtain⟨w,h1,h2,_⟩:=sH k _ (Ad k hk)
  cases w with
  | true=>exact sV U3 (by simpa [vV] using h2)
  | false=>
   simp only [XX,if_false] at h2
   rw [h2,jy]; exact Steady.refl _
 have Ox:∀k,k≤ops.size→∀id,(tx k).h.ver id<(tx k).h.next:=by
  intro k
  induction k with
  | zero=>intro _; exact Pp
  | succ k ih=>intro hk; exact (hst k (by omega)).wf (ih (by omega))
 have T:sW P cf aI ops tx ft (fun k i=>(ms.getD i 0).testBit k=true):=by
  refine⟨fun k o ho=>?_,Po,fun i o ho e he hb=>?_,fun i j x y zJ hx hy=>?_,fun i j hin MR zJ=>?_,fun i o d ho oY hd=>?_⟩
  ·obtain⟨w,h1,h2,h3,h4⟩:=sH k o ho
   refine⟨w,h1,?_⟩
   cases w with
   | true=>exact⟨h2,h4⟩
   | false=>exact⟨h2,h4⟩
  ·have:=pv _ 0 J9 i o (by simpa using ho) e (YG.2 he) hb
   omega
  ·have L5:∀x y:Oper,vW ops x y=true→∀d,x.dst=some d→d∉y.looksAt ops∧y.dst≠some d:=by
    intro x y h d hd
    unfold vW at h
    rw [hd] at h
    simpa using h
   rcases Nat.lt_or_ge i j with hlt | hge
   ·have:=kR _ _ 0 Fb i j x y hlt (by simpa using hx) (by simpa using hy)
    simp only [Ya,Yw,XN] at this
    rcases this with h1 | h1
    ·exact .inl h1
    ·exact .inr (.inr (L5 _ _ h1.1))
   ·have:=kR _ _ 0 Fb j i y x (by omega) (by simpa using hy) (by simpa using hx)
    simp only [Ya,Yw,XN] at this
    rcases this with h1 | h1
    ·exact .inr (.inl h1)
    ·exact .inr (.inr (L5 _ _ h1.2))
  ·cases Jn:(ft i).quiet with
   | true=>
    unfold k9.quiet at Jn
    simp only [XN,Option.isNone_iff_eq_none,YL] at Jn
    exact .inr (.inr ⟨fun k hk=>(by rw [Jn.1.1.2] at hk; cases hk),fun hk=>(by rw [Jn.2] at hk; cases hk)⟩)
   | false=>
    cases Hx:(ft j).quiet with
    | true=>
     unfold k9.quiet at Hx
     simp only [XN,Option.isNone_iff_eq_none,YL,List.isEmpty_iff] at Hx
     obtain⟨⟨⟨q1,q2⟩,q3⟩,q4⟩:=Hx
     exact .inr (.inr ⟨fun k hk=>⟨by rw [q1]; simp,by rw [q2]; simp⟩,fun hk=>⟨q4,by rw [q3]; simp⟩⟩)
    | false=>
     rcases Ka i j _ _ (Ad i hin) (Ad j MR) zJ Jn Hx with h1 | h1 | h1
     ·exact .inl h1
     ·exact .inr (.inl h1)
     ·refine .inr (.inr ?_)
      unfold mD.jF at h1
      simp only [XN,Yw,YL,X5] at h1
      obtain⟨h2,h3⟩:=h1
      refine⟨fun k hk=>?_,fun hk=>?_⟩
      ·rw [hk] at h2
       simpa using h2
      ·rcases h3 with h3 | h3
       ·rw [hk] at h3; cases h3
       ·refine⟨h3.1,fun id hid=>?_⟩
        have hv:=YN (h3.2 id hid)
        rcases (hst i hin).keep id with⟨_,h5⟩| h5
        ·exact h5.symm
        ·have:=Ox i (by omega) id; omega
  ·obtain⟨w,h1,h2,h3,h4⟩:=sH i o ho
   have hq:(ft i).quiet=false:=by
    cases w with
    | false=>rw [h4] at oY; cases oY
    | true=>
     rw [h4] at oY ⊢
     have:=Fa oY
     unfold k9.quiet
     simp only [if_true] at this ⊢
     cases hwb:(bq aI (bP (tx i).ρ) o).wb with
     | none=>rw [hwb] at this; cases this
     | some k=>simp
   have:=(yn _ (qR i o ho hq)).1
   unfold r9 at this
   simp only [oY,hd] at this
   simp only [XN,X5,Yw] at this
   obtain⟨k1,k2⟩:=this
   refine⟨fun t ht Jc off=>?_,fun j y t hy hji=>?_⟩
   ·rw [t0]
    exact qe k1 t (by rw [List.mem_filter]; exact⟨ht,by simpa [beq_nat] using Jc⟩) off
   ·have:=k2 _ (HY j y hy)
    rcases this with (h5 | h5) | h5
    ·have:=YN h5; omega
    ·exact .inl h5
    ·right
     intro J6 off
     simp only [mD.out,J6,YL] at h5
     exact DE h5 off
 have hlen:tx ops.size=s':=by simpa using tn
 refine wp_region_any hm ?_
 refine J8 T hcf hb0 Hs (fun a' w' jP=>hQ a' w' (by rw [hlen] at jP; exact jP)) ops.size _ _ _ (by simp) ?_ ?_ ?_
 ·intro j o _ hj
  simp only [getD_replicate_false] at hj
  cases hj
 ·unfold left
  exact Yz (List.countP_le_length) (by simp)
 ·have EV:∀k,ky ops tx ft (fun j=>(Array.replicate ops.size false).getD j false) k=tx 0:=by
   intro k
   induction k with
   | zero=>rfl
   | succ k ih=>
    rw [ky,getD_replicate_false,if_neg (by simp)]
    exact ih
  rw [EV,t0]
  exact hi.drew
end
end Go.R
namespace Go.R
open Go
section
variable {c d:Cx}{L L':Nat→Prop}
mutual
theorem BD (hw:d.w=c.w)(hbs:d.base≤c.base)(lK:∀b,RO c L b→RO d L' b):∀(x:AV) (v:Value),x.eH=true→VR c L x v→VR d L' x v
 | .any,_,h,_=>by simp [AV.eH] at h
 | .bool _,_,_,h=>h
 | .int _ _,_,_,h=>h
 | .str _,_,_,h=>h
 | .oz,_,_,h=>h
 | .ptr _ _,_,h,_=>by simp [AV.eH] at h
 | .lp _ _,_,h,_=>by simp [AV.eH] at h
 | .fp cs off,v,h,hv=>by
  simp only [AV.eH] at h
  simp only [VR] at hv ⊢
  obtain⟨b,o,rfl,hc⟩:=hv
  exact⟨b,o,rfl,hc.imp id fun ⟨hr,hc⟩=>⟨lK b hr,oH hw hbs lK cs b o h hc⟩⟩
 | .nils,_,_,h=>h
 | .fz cs n ex,v,h,hv=>by
  simp only [AV.eH] at h
  simp only [VR] at hv ⊢
  obtain⟨a,cap,rfl,h1,h2,hs,hc⟩:=hv
  exact⟨a,cap,rfl,h1,h2,hs,hc.imp id fun ⟨b,o,ha,hr,hex,hc⟩=>⟨b,o,ha,lK b hr,fun h=>Yz hbs (hex h),oH hw hbs lK cs b o h hc⟩⟩
 | .rs _ _ _ _,_,h,_=>by simp [AV.eH] at h
 | .mC,_,_,h=>h
 | .mp _,_,h,_=>by simp [AV.eH] at h
 | .fn f cap,v,h,hv=>by
  simp only [AV.eH] at h
  simp only [VR] at hv ⊢
  obtain⟨vs,rfl,h1⟩:=hv
  exact⟨vs,rfl,py hw hbs lK cap vs.toList h h1⟩
 | .oZ,_,_,h=>h
 | .agg cs,v,h,hv=>by
  simp only [AV.eH] at h
  simp only [VR] at hv ⊢
  obtain⟨vs,rfl,h1⟩:=hv
  exact⟨vs,rfl,py hw hbs lK cs vs.toList h h1⟩
 | .tup cs,v,h,hv=>by
  simp only [AV.eH] at h
  simp only [VR] at hv ⊢
  obtain⟨vs,rfl,h1⟩:=hv
  exact⟨vs,rfl,py hw hbs lK cs vs.toList h h1⟩
theorem py (hw:d.w=c.w)(hbs:d.base≤c.base)(lK:∀b,RO c L b→RO d L' b):∀(xs:List AV) (vs:List Value),cZ xs=true→VRs c L xs vs→VRs d L' xs vs
 | [],[],_,_=>trivial
 | x::xs,v::vs,h,hv=>by
  simp only [cZ,XN] at h
  exact⟨BD hw hbs lK x v h.1 hv.1,py hw hbs lK xs vs h.2 hv.2⟩
 | [],_::_,_,h=>h.elim
 | _::_,[],_,h=>h.elim
theorem oH (hw:d.w=c.w)(hbs:d.base≤c.base)(lK:∀b,RO c L b→RO d L' b):∀(xs:List AV) (b o:Nat),cZ xs=true→Cells c L xs b o→Cells d L' xs b o
 | [],_,_,_,_=>trivial
 | x::xs,b,o,h,hv=>by
  simp only [cZ,XN] at h
  obtain⟨⟨v,h1,h2,h3⟩,h4⟩:=hv
  exact⟨⟨v,by rw [hw]; exact h1,h2,BD hw hbs lK x v h.1 h3⟩,oH hw hbs lK xs b (o+1) h.2 h4⟩
end
mutual
theorem wJ (hw:d.w=c.w)(lK:∀b,RO c L b→RO d L' b):∀(x:AV) (v:Value),x.eH=true→VR c L x v→VR d L' x.jE v
 | .any,_,h,_=>by simp [AV.eH] at h
 | .bool _,_,_,h=>h
 | .int _ _,_,_,h=>h
 | .str _,_,_,h=>h
 | .oz,_,_,h=>h
 | .ptr _ _,_,h,_=>by simp [AV.eH] at h
 | .lp _ _,_,h,_=>by simp [AV.eH] at h
 | .fp cs off,v,h,hv=>by
  simp only [AV.eH] at h
  simp only [VR,AV.jE] at hv ⊢
  obtain⟨b,o,rfl,hc⟩:=hv
  refine⟨b,o,rfl,?_⟩
  rcases hc with rfl | ⟨hr,hc⟩
  ·exact .inl rfl
  ·exact .inr ⟨lK b hr,qn hw lK cs b o h hc⟩
 | .nils,v,_,h=>by
  simp only [VR] at h
  simp only [AV.jE,VR]
  exact⟨none,0,h,XP _,by simp,.inr ⟨trivial,rfl⟩,.inl trivial⟩
 | .fz cs n ex,v,h,hv=>by
  simp only [AV.eH] at h
  simp only [VR,AV.jE] at hv ⊢
  obtain⟨a,cap,rfl,h1,h2,hs,hc⟩:=hv
  refine⟨a,cap,rfl,h1,by simp,hs.imp id fun h=>⟨by rw [h.1]; rfl,h.2⟩,?_⟩
  rcases hc with rfl | ⟨b,o,ha,hr,hex,hc⟩
  ·exact .inl rfl
  ·exact .inr ⟨b,o,ha,lK b hr,by simp,qn hw lK cs b o h hc⟩
 | .rs _ _ _ _,_,h,_=>by simp [AV.eH] at h
 | .mC,_,_,h=>h
 | .mp _,_,h,_=>by simp [AV.eH] at h
 | .fn f cap,v,h,hv=>by
  simp only [AV.eH] at h
  simp only [VR,AV.jE] at hv ⊢
  obtain⟨vs,rfl,h1⟩:=hv
  exact⟨vs,rfl,pz hw lK cap vs.toList h h1⟩
 | .oZ,_,_,h=>h
 | .agg cs,v,h,hv=>by
  simp only [AV.eH] at h
  simp only [VR,AV.jE] at hv ⊢
  obtain⟨vs,rfl,h1⟩:=hv
  exact⟨vs,rfl,pz hw lK cs vs.toList h h1⟩
 | .tup cs,v,h,hv=>by
  simp only [AV.eH] at h
  simp only [VR,AV.jE] at hv ⊢
  obtain⟨vs,rfl,h1⟩:=hv
  exact⟨vs,rfl,pz hw lK cs vs.toList h h1⟩
theorem pz (hw:d.w=c.w)(lK:∀b,RO c L b→RO d L' b):∀(xs:List AV) (vs:List Value),cZ xs=true→VRs c L xs vs→VRs d L' (dN xs) vs
 | [],[],_,_=>trivial
 | x::xs,v::vs,h,hv=>by
  simp only [cZ,XN] at h
  exact⟨wJ hw lK x v h.1 hv.1,pz hw lK xs vs h.2 hv.2⟩
 | [],_::_,_,h=>h.elim
 | _::_,[],_,h=>h.elim
theorem qn (hw:d.w=c.w)(lK:∀b,RO c L b→RO d L' b):∀(xs:List AV) (b o:Nat),cZ xs=true→Cells c L xs b o→Cells d L' (dN xs) b o
 | [],_,_,_,_=>trivial
 | x::xs,b,o,h,hv=>by
  simp only [cZ,XN] at h
  obtain⟨⟨v,h1,h2,h3⟩,h4⟩:=hv
  exact⟨⟨v,by rw [hw]; exact h1,h2,wJ hw lK x v h.1 h3⟩,qn hw lK xs b (o+1) h.2 h4⟩
end
mutual
theorem qo (hw:d.w=c.w)(lK:∀b,RO c L b→RO d L' b)(hrel:HRel c L)(hid:∀id,Live c.h id→RO d L' (c.β id).1):∀(n:Nat) (x y:AV) (v:Value),b8 c.h n x=some y→VR c L x v→VR d L' y v
 | 0,x,y,v,h,_=>by simp [b8] at h
 | n+1,x,y,v,h,hv=>by
  have Pq:(if x.eH then some x.jE else none)=some y→VR d L' y v:=by
   intro h
   split at h
   ·rename_i hn; cases h; exact wJ hw lK x v hn hv
   ·cases h
  cases x with
  | ptr id off=>
   simp only [b8,XK] at h
   obtain⟨ob,ho,h⟩:=h
   cases ob with
   | map es=>cases h
   | row t cs=>cases h
   | cells cs=>
    simp only [XL] at h
    obtain⟨fI,hcs,rfl⟩:=h
    have hl:Live c.h id:=⟨hrel.lt _ _ ho,by simp [ho]⟩
    obtain⟨m,_,_,hc⟩:=hrel.obj _ _ ho
    simp only [VR] at hv ⊢
    obtain⟨_,a,rfl,ha⟩:=hv
    rw [ha hl]
    exact⟨_,_,rfl,.inr ⟨hid id hl,ke hw lK hrel hid n cs fI _ _ hcs hc⟩⟩
  | rs id off len iH=>
   simp only [b8] at h
   split at h
   ·rename_i hid
    split at h
    rotate_left
    ·cases h
    rename_i hl0
    cases h
    simp only [VR] at hv ⊢
    rcases hv with⟨_,_,_,a,rfl⟩| hv
    ·exact⟨a,0,rfl,XP _,by simp,.inr ⟨trivial,rfl⟩,.inl trivial⟩
    ·exact absurd hid hv.1
   rename_i kA
   rw [XK] at h
   obtain⟨ob,ho,h⟩:=h
   cases ob with
   | map es=>cases h
   | row t cs=>cases h
   | cells cs=>
    simp only at h
    split at h
    rotate_left
    ·cases h
    rename_i hle
    simp only [XL] at h
    obtain⟨fI,hcs,rfl⟩:=h
    have hl:Live c.h id:=⟨hrel.lt _ _ ho,by simp [ho]⟩
    obtain⟨m,_,_,hc⟩:=hrel.obj _ _ ho
    simp only [VR] at hv ⊢
    rcases hv with hv | ⟨_,_,a,cap,rfl,h1,h2,h3⟩
    ·exact absurd hv.1 kA
    refine⟨a,cap,rfl,h1,by simp,.inl h2,?_⟩
    rcases h3 hl with⟨h4,_⟩| h4
    ·exact .inr ⟨_,_,h4,hid id hl,by simp,ke hw lK hrel hid n _ fI _ _ hcs ((hc.drop off).take (len*iH))⟩
    ·left
     have hz:len=0:=by omega
     subst hz
     rw [Nat.zero_mul,List.take_zero] at hcs
     cases n with
     | zero=>simp [bz] at hcs
     | succ n=>simp only [bz,XM] at hcs; exact hcs.symm
  | agg cs=>
   simp only [b8,XL] at h
   obtain⟨fI,hcs,rfl⟩:=h
   simp only [VR] at hv ⊢
   obtain⟨vs,rfl,h1⟩:=hv
   exact⟨vs,rfl,iM hw lK hrel hid n cs fI vs.toList hcs h1⟩
  | tup cs=>
   simp only [b8,XL] at h
   obtain⟨fI,hcs,rfl⟩:=h
   simp only [VR] at hv ⊢
   obtain⟨vs,rfl,h1⟩:=hv
   exact⟨vs,rfl,iM hw lK hrel hid n cs fI vs.toList hcs h1⟩
  | fn f cs=>
   simp only [b8,XL] at h
   obtain⟨fI,hcs,rfl⟩:=h
   simp only [VR] at hv ⊢
   obtain⟨vs,rfl,h1⟩:=hv
   exact⟨vs,rfl,iM hw lK hrel hid n cs fI vs.toList hcs h1⟩
  | _=>exact Pq (by simpa only [b8] using h)
theorem iM (hw:d.w=c.w)(lK:∀b,RO c L b→RO d L' b)(hrel:HRel c L)(hid:∀id,Live c.h id→RO d L' (c.β id).1):∀(n:Nat) (xs ys:List AV) (vs:List Value),bz c.h n xs=some ys→VRs c L xs vs→VRs d L' ys vs
 | 0,xs,ys,vs,h,_=>by simp [bz] at h
 | n+1,[],ys,vs,h,hv=>by
  simp only [bz,XM] at h
  subst h
  cases vs with
  | nil=>trivial
  | cons v vs=>exact hv.elim
 | n+1,x::xs,ys,vs,h,hv=>by
  simp only [bz,XK,XL] at h
  obtain⟨y,hy,zs,hz,rfl⟩:=h
  cases vs with
  | nil=>exact hv.elim
  | cons v vs=>exact⟨qo hw lK hrel hid n x y v hy hv.1,iM hw lK hrel hid n xs zs vs hz hv.2⟩
theorem ke (hw:d.w=c.w)(lK:∀b,RO c L b→RO d L' b)(hrel:HRel c L)(hid:∀id,Live c.h id→RO d L' (c.β id).1):∀(n:Nat) (xs ys:List AV) (b o:Nat),bz c.h n xs=some ys→Cells c L xs b o→Cells d L' ys b o
 | 0,xs,ys,b,o,h,_=>by simp [bz] at h
 | n+1,[],ys,b,o,h,hv=>by
  simp only [bz,XM] at h
  subst h
  trivial
 | n+1,x::xs,ys,b,o,h,hv=>by
  simp only [bz,XK,XL] at h
  obtain⟨y,hy,zs,hz,rfl⟩:=h
  obtain⟨⟨v,h1,h2,h3⟩,h4⟩:=hv
  exact⟨⟨v,by rw [hw]; exact h1,h2,qo hw lK hrel hid n x y v hy h3⟩,ke hw lK hrel hid n xs zs b (o+1) hz h4⟩
end
mutual
theorem oI (hw:d.w=c.w)(hrel:HRel c L)(hid:∀id,Live c.h id→RO d L' (c.β id).1):∀(n:Nat) (x y:AV) (v:Value),gu c.h n x=some y→VR c L x v→VR d L' y v
 | 0,x,y,v,h,_=>by simp [gu] at h
 | n+1,x,y,v,h,hv=>by
  unfold gu at h
  split at h
  ·cases h; exact hv
  ·cases h; exact hv
  ·cases h; exact hv
  ·cases h; exact hv
  ·cases h; exact hv
  ·cases h; exact hv
  ·cases h
   simp only [VR] at hv ⊢
   exact⟨none,0,hv,XP _,by simp,.inr ⟨trivial,rfl⟩,.inl trivial⟩
  ·cases h
   simp only [VR] at hv ⊢
   obtain⟨a,cap,rfl,h1,h2,hs,_⟩:=hv
   exact⟨a,cap,rfl,h1,by simp,hs,.inl trivial⟩
  ·rename_i id off len iH
   split at h
   ·rename_i kA
    split at h
    rotate_left
    ·cases h
    rename_i hl0
    cases h
    simp only [VR] at hv ⊢
    rcases hv with⟨_,_,_,a,rfl⟩| hv
    ·exact⟨a,0,rfl,XP _,by simp,.inr ⟨trivial,rfl⟩,.inl trivial⟩
    ·exact absurd kA hv.1
   rename_i kA
   rw [XK] at h
   obtain⟨ob,ho,h⟩:=h
   cases ob with
   | map es=>cases h
   | row t cs=>cases h
   | cells cs=>
    simp only at h
    split at h
    rotate_left
    ·cases h
    rename_i hle
    simp only [XL] at h
    obtain⟨fI,hcs,rfl⟩:=h
    have hl:Live c.h id:=⟨hrel.lt _ _ ho,by simp [ho]⟩
    obtain⟨m,_,_,hc⟩:=hrel.obj _ _ ho
    simp only [VR] at hv ⊢
    rcases hv with hv | ⟨_,_,a,cap,rfl,h1,h2,h3⟩
    ·exact absurd hv.1 kA
    refine⟨a,cap,rfl,h1,by simp,.inl h2,?_⟩
    rcases h3 hl with⟨h4,_⟩| h4
    ·exact .inr ⟨_,_,h4,hid id hl,by simp,my hw hrel hid n _ fI _ _ hcs ((hc.drop off).take (len*iH))⟩
    ·left
     have hz:len=0:=by omega
     subst hz
     rw [Nat.zero_mul,List.take_zero] at hcs
     cases n with
     | zero=>simp [dE] at hcs
     | succ n=>simp only [dE,XM] at hcs; exact hcs.symm
  ·rename_i cs
   simp only [XL] at h
   obtain⟨fI,hcs,rfl⟩:=h
   simp only [VR] at hv ⊢
   obtain⟨vs,rfl,h1⟩:=hv
   exact⟨vs,rfl,ni hw hrel hid n cs fI vs.toList hcs h1⟩
  ·rename_i cs
   simp only [XL] at h
   obtain⟨fI,hcs,rfl⟩:=h
   simp only [VR] at hv ⊢
   obtain⟨vs,rfl,h1⟩:=hv
   exact⟨vs,rfl,ni hw hrel hid n cs fI vs.toList hcs h1⟩
  ·cases h
theorem ni (hw:d.w=c.w)(hrel:HRel c L)(hid:∀id,Live c.h id→RO d L' (c.β id).1):∀(n:Nat) (xs ys:List AV) (vs:List Value),dE c.h n xs=some ys→VRs c L xs vs→VRs d L' ys vs
 | 0,xs,ys,vs,h,_=>by simp [dE] at h
 | n+1,[],ys,vs,h,hv=>by
  simp only [dE,XM] at h
  subst h
  cases vs with
  | nil=>trivial
  | cons v vs=>exact hv.elim
 | n+1,x::xs,ys,vs,h,hv=>by
  simp only [dE,XK,XL] at h
  obtain⟨y,hy,zs,hz,rfl⟩:=h
  cases vs with
  | nil=>exact hv.elim
  | cons v vs=>exact⟨oI hw hrel hid n x y v hy hv.1,ni hw hrel hid n xs zs vs hz hv.2⟩
theorem my (hw:d.w=c.w)(hrel:HRel c L)(hid:∀id,Live c.h id→RO d L' (c.β id).1):∀(n:Nat) (xs ys:List AV) (b o:Nat),dE c.h n xs=some ys→Cells c L xs b o→Cells d L' ys b o
 | 0,xs,ys,b,o,h,_=>by simp [dE] at h
 | n+1,[],ys,b,o,h,hv=>by
  simp only [dE,XM] at h
  subst h
  trivial
 | n+1,x::xs,ys,b,o,h,hv=>by
  simp only [dE,XK,XL] at h
  obtain⟨y,hy,zs,hz,rfl⟩:=h
  obtain⟨⟨v,h1,h2,h3⟩,h4⟩:=hv
  exact⟨⟨v,by rw [hw]; exact h1,h2,oI hw hrel hid n x y v hy h3⟩,my hw hrel hid n xs zs b (o+1) hz h4⟩
end
end
section
variable {P:Program}
theorem HZ {cf:CallF}(hcf:CallOK P cf)(deep:Nat):CallOK P fun f args h=>if cZ args then (cf f (dN args) bA).bind fun x=>(b8 x.2 deep x.1).map fun r=>(r,h) else cf f args h:=by
 intro f args h r h' hc
 dsimp only at hc
 split at hc
 rotate_left
 ·exact hcf f args h r h' hc
 rename_i xD
 rw [XK] at hc
 obtain⟨⟨x,h1⟩,hx,hc⟩:=hc
 rw [XL] at hc
 obtain⟨r',hr,he⟩:=hc
 simp only [XS] at he
 obtain⟨rfl,rfl⟩:=he
 obtain⟨hin,hcall⟩:=hcf f (dN args) bA x h1 hx
 refine⟨hin,fun L0 c vs hh hb0 hrel hargs=>?_⟩
 let L1:Nat→Prop:=fun b=>L0 b∨∃id,Live c.h id∧(c.β id).1=b
 let c0:Cx:=⟨fun _=>(0,0),bA,c.w,c.w.heap.size⟩
 have hnl:∀id,¬Live c0.h id:=fun id hl=>by have:=hl.2; cases this
 have Fc:∀b,RO c L0 b→RO c0 L1 b:=fun b hb=>⟨fun id hl=>absurd hl (hnl id),fun h=>by
  rcases h with h | ⟨id,h1,h2⟩
  ·exact hb.2 h
  ·exact hb.1 id h1 h2⟩
 have sY:HRel c0 L1:=⟨fun id o ho=>(by cases ho),fun id o ho=>(by cases ho),fun id _ hl _ _=>absurd hl (hnl id),fun id hl=>absurd hl (hnl id),fun b hb=>by
  rcases hb with h | ⟨id,h1,h2⟩
  ·exact hrel.bd b h
  ·rw [←h2]; exact hrel.block h1,fun id hl=>absurd hl (hnl id),fun _=>Y8⟩
 refine (hcall L1 c0 vs rfl (XP _) sY (pz (c:=c) (d:=c0) rfl Fc _ _ xD hargs)).mono ?_
 rintro e w' ⟨c1,v,rfl,rfl,L6,hv,hrel1,e1⟩
 let d:Cx:=⟨c.β,c.h,c1.w,c.base⟩
 have hk:∀b,b<c.w.heap.size→c1.w.heap[b]? = c.w.heap[b]?:=fun b hb=>e1.exact b hb
 have ed:Ext c none0 d none0:=⟨XP _,fun id _ hl=>⟨hl,rfl,ik.len (c:=c) (c':=d) (.inl (hk _ (hrel.block hl)))⟩,e1.size,fun b hb _ _=>.inl (hk b hb),fun b hb=>hk b (Yb hb hb0),rfl,fun id hl=>.inr ⟨id,hl,rfl⟩,fun _ h=>h,fun _ h=>.inl h,e1.os,e1.tape,e1.output⟩
 have hb1:d.base≤c1.base:=by rw [e1.base]; exact hb0
 have Pt:∀b,RO c1 L1 b→RO d L0 b:=fun b hb=>⟨fun id hl he=>hb.2 (.inr ⟨id,hl,he⟩),fun h=>hb.2 (.inl h)⟩
 refine⟨d,v,rfl,rfl,hh,?_,⟨hrel.lt,fun id o ho=>?_,hrel.inj,hrel.out,fun b hb=>Yb (hrel.bd b hb) e1.size,hrel.low,hrel.ver⟩,ed⟩
 ·refine qo (c:=c1) (d:=d) (L:=L1) rfl Pt hrel1 (fun id hl=>⟨fun kP oV he=>hrel1.out id hl (.inr ⟨kP,oV,he⟩),fun h=>hrel1.out id hl (.inl h)⟩) deep x r' v ?_ hv
  rw [L6]; exact hr
 ·have hl:Live c.h id:=⟨hrel.lt _ _ ho,by rw [ho]; rfl⟩
  have:=(hrel.obj id o ho)
  have h2:=pd.ext (L0:=L0) ed (b:=(c.β id).1) (base:=(c.β id).2) (o:=o) (by rw [ir]; exact this) (hk _ (hrel.block hl))
  rw [ir] at h2
  exact h2
theorem pA {c:Cx}{L:Nat→Prop}:∀{xs:List AV} {vs:List Value},VRs c L xs vs→VRs c L (xs.map aO) vs
 | [],[],_=>trivial
 | x::_,_::_,h=>⟨by
   unfold aO
   cases hn:x.eH with
   | false=>exact h.1
   | true=>exact wJ rfl (fun _ h=>h) x _ hn h.1,pA h.2⟩
 | [],_::_,h=>h.elim
 | _::_,[],h=>h.elim
theorem yo {cf:CallF}(hcf:CallOK P cf):CallOK P fun f args h=>cf f (args.map aO) h:=by
 intro f args h r h' hc
 obtain⟨h1,h2⟩:=hcf f _ h r h' hc
 exact⟨h1,fun L0 c vs hh hb0 hrel hargs=>h2 L0 c vs hh hb0 hrel (pA hargs)⟩
theorem H0 {cf:CallF}(hcf:CallOK P cf)(deep:Nat):CallOK P fun f args h=>(bz h deep args).bind fun as=>(cf f as bA).bind fun x=>(gu x.2 deep x.1).map fun r=>(r,h):=by
 intro f args h r h' hc
 dsimp only at hc
 simp only [XK,XL,XS] at hc
 obtain⟨as,has,⟨x,h1⟩,hx,r',hr,rfl,rfl⟩:=hc
 obtain⟨hin,hcall⟩:=hcf f as bA x h1 hx
 refine⟨hin,fun L0 c vs hh hb0 hrel hargs=>?_⟩
 let c0:Cx:=⟨fun _=>(0,0),bA,c.w,c.w.heap.size⟩
 have hnl:∀id,¬Live c0.h id:=fun id hl=>by have:=hl.2; cases this
 have Fc:∀b,RO c L0 b→RO c0 L0 b:=fun b hb=>⟨fun id hl=>absurd hl (hnl id),hb.2⟩
 have sY:HRel c0 L0:=⟨fun id o ho=>(by cases ho),fun id o ho=>(by cases ho),fun id _ hl _ _=>absurd hl (hnl id),fun id hl=>absurd hl (hnl id),hrel.bd,fun id hl=>absurd hl (hnl id),fun _=>Y8⟩
 have sZ:VRs c0 L0 as vs:=iM (c:=c) (d:=c0) rfl Fc hrel (fun id hl=>⟨fun kP oV=>absurd oV (hnl kP),hrel.out id hl⟩) deep args as vs (by rw [hh]; exact has) hargs
 refine (hcall L0 c0 vs rfl (XP _) sY sZ).mono ?_
 rintro e w' ⟨c1,v,rfl,rfl,L6,hv,hrel1,e1⟩
 let d:Cx:=⟨c.β,c.h,c1.w,c.base⟩
 have hk:∀b,b<c.w.heap.size→c1.w.heap[b]? = c.w.heap[b]?:=fun b hb=>e1.exact b hb
 have ed:Ext c none0 d none0:=⟨XP _,fun id _ hl=>⟨hl,rfl,ik.len (c:=c) (c':=d) (.inl (hk _ (hrel.block hl)))⟩,e1.size,fun b hb _ _=>.inl (hk b hb),fun b hb=>hk b (Yb hb hb0),rfl,fun id hl=>.inr ⟨id,hl,rfl⟩,fun _ h=>h,fun _ h=>.inl h,e1.os,e1.tape,e1.output⟩
 refine⟨d,v,rfl,rfl,hh,?_,⟨hrel.lt,fun id o ho=>?_,hrel.inj,hrel.out,fun b hb=>Yb (hrel.bd b hb) e1.size,hrel.low,hrel.ver⟩,ed⟩
 ·refine oI (c:=c1) (d:=d) (L:=L0) rfl hrel1 (fun id hl=>⟨fun kP oV he=>?_,hrel1.out id hl⟩) deep x r' v ?_ hv
  ·rcases e1.HH id hl with h2 | ⟨p6,h2,_⟩
   ·have:=hrel.block oV
    have h3:(c.β kP).1=(c1.β id).1:=he
    have h4:c.w.heap.size≤(c1.β id).1:=h2
    omega
   ·exact absurd h2 (hnl p6)
  ·rw [L6]; exact hr
 ·have hl:Live c.h id:=⟨hrel.lt _ _ ho,by rw [ho]; rfl⟩
  have:=(hrel.obj id o ho)
  have h2:=pd.ext (L0:=L0) ed (b:=(c.β id).1) (base:=(c.β id).2) (o:=o) (by rw [ir]; exact this) (hk _ (hrel.block hl))
  rw [ir] at h2
  exact h2
section
variable {c1 d:Cx}{L1:Nat→Prop}{k:Nat}
mutual
theorem s7 (hw:d.w=c1.w)(hn:∀id,id<c1.h.next→id+k<d.h.next)(hl:∀id,Live d.h (id+k)→Live c1.h id∧d.β (id+k)=c1.β id):∀(x y:AV) (v:Value),dr k x=some y→VR c1 L1 x v→VR d L1 y v
 | .any,_,_,h,_=>by simp [dr] at h
 | .bool _,_,_,h,hv=>by simp only [dr,XM] at h; subst h; exact hv
 | .int _ _,_,_,h,hv=>by simp only [dr,XM] at h; subst h; exact hv
 | .str _,_,_,h,hv=>by simp only [dr,XM] at h; subst h; exact hv
 | .oz,_,_,h,hv=>by simp only [dr,XM] at h; subst h; exact hv
 | .mC,_,_,h,hv=>by simp only [dr,XM] at h; subst h; exact hv
 | .oZ,_,_,h,hv=>by simp only [dr,XM] at h; subst h; exact hv
 | .nils,_,_,h,hv=>by simp only [dr,XM] at h; subst h; exact hv
 | .ptr id off,_,_,h,hv=>by
  simp only [dr,XM] at h
  subst h
  simp only [VR] at hv ⊢
  obtain⟨h1,a,rfl,h2⟩:=hv
  refine⟨hn _ h1,a,rfl,fun lJ=>?_⟩
  obtain⟨g1,g2⟩:=hl _ lJ
  rw [g2]; exact h2 g1
 | .lp _ _,_,_,h,_=>by simp [dr] at h
 | .fp _ _,_,_,h,_=>by simp [dr] at h
 | .fz _ _ _,_,_,h,_=>by simp [dr] at h
 | .rs id off len z,y,v,h,hv=>by
  simp only [dr] at h
  split at h
  ·rename_i h0
   cases h
   subst h0
   simp only [VR] at hv ⊢
   rcases hv with⟨_,h2,h3,h4⟩| h1
   ·exact .inl ⟨trivial,h2,h3,h4⟩
   ·exact absurd rfl h1.1
  ·rename_i h0
   cases h
   simp only [VR] at hv ⊢
   rcases hv with h1 | ⟨_,h1,a,cap,rfl,h2,h3,h4⟩
   ·exact absurd h1.1 h0
   refine .inr ⟨by omega,hn _ h1,a,cap,rfl,h2,h3,fun lJ=>?_⟩
   obtain⟨g1,g2⟩:=hl _ lJ
   have:=h4 g1
   rw [g2]
   unfold Cx.len at this ⊢
   rw [hw]; exact this
 | .mp _,_,_,h,_=>by simp [dr] at h
 | .fn _ _,_,_,h,_=>by simp [dr] at h
 | .agg cs,_,v,h,hv=>by
  simp only [dr,XL] at h
  obtain⟨ys,h1,rfl⟩:=h
  simp only [VR] at hv ⊢
  obtain⟨vs,rfl,h2⟩:=hv
  exact⟨vs,rfl,qp hw hn hl cs ys vs.toList h1 h2⟩
 | .tup cs,_,v,h,hv=>by
  simp only [dr,XL] at h
  obtain⟨ys,h1,rfl⟩:=h
  simp only [VR] at hv ⊢
  obtain⟨vs,rfl,h2⟩:=hv
  exact⟨vs,rfl,qp hw hn hl cs ys vs.toList h1 h2⟩
theorem qp (hw:d.w=c1.w)(hn:∀id,id<c1.h.next→id+k<d.h.next)(hl:∀id,Live d.h (id+k)→Live c1.h id∧d.β (id+k)=c1.β id):∀(xs ys:List AV) (vs:List Value),cG k xs=some ys→VRs c1 L1 xs vs→VRs d L1 ys vs
 | [],ys,[],h,_=>by simp only [cG,XM] at h; subst h; trivial
 | x::xs,ys,v::vs,h,hv=>by
  simp only [cG,XK,XL] at h
  obtain⟨y,h1,U4,h2,rfl⟩:=h
  exact⟨s7 hw hn hl x y v h1 hv.1,qp hw hn hl xs U4 vs h2 hv.2⟩
 | [],_,_::_,_,h=>h.elim
 | _::_,_,[],_,h=>h.elim
end
theorem re (hw:d.w=c1.w)(hn:∀id,id<c1.h.next→id+k<d.h.next)(hl:∀id,Live d.h (id+k)→Live c1.h id∧d.β (id+k)=c1.β id):∀(xs:List AV) (b o:Nat),Cells c1 L1 xs b o→Cells d L1 (fT k xs) b o
 | [],_,_,_=>trivial
 | x::xs,b,o,h=>by
  obtain⟨⟨v,h1,h2,h3⟩,h4⟩:=h
  unfold fT
  cases hx:dr k x with
  | none=>trivial
  | some y=>exact⟨⟨v,by rw [hw]; exact h1,h2,s7 hw hn hl x y v hx h3⟩,re hw hn hl xs b (o+1) h4⟩
end
theorem s8 (k:Nat):∀xs:List AV,(fT k xs).length≤xs.length
 | []=>XP _
 | x::xs=>by
  unfold fT
  cases dr k x with
  | none=>exact Yt _
  | some y=>exact Nat.succ_le_succ (s8 k xs)
theorem jA {h h1:AHeap}{i:Nat}(hi:i<h.next):(h.eM h1).get i=h.get i∧(h.eM h1).ver i=h.ver i:=by
 have:Nat.blt i h.next=true:=by rw [Nat.blt_eq]; exact hi
 simp only [AHeap.eM,this,cond_true,and_self]
theorem kg {h h1:AHeap}{i:Nat}(hi:h.next≤i):(h.eM h1).get i=(h1.get (i - h.next)).bind (z7 h.next)∧(h.eM h1).ver i=h.next+h1.ver (i - h.next):=by
 have:Nat.blt i h.next=false:=by
  cases hb:Nat.blt i h.next with
  | false=>rfl
  | true=>rw [Nat.blt_eq] at hb; omega
 simp only [AHeap.eM,this,cond_false,and_self]
theorem Steady.eM {h h1:AHeap}(hw:∀id,h1.ver id<h1.next):Steady h (h.eM h1):=by
 refine⟨Nat.le_add_right _ _,fun i=>?_,fun hv i=>?_⟩
 ·by_cases hi:i<h.next
  ·exact .inl ⟨(jA hi).2,(jA hi).1⟩
  ·right; rw [(kg (Yh hi)).2]; exact Nat.le_add_right _ _
 ·show _<h.next+h1.next
  by_cases hi:i<h.next
  ·rw [(jA hi).2]; have:=hv i; omega
  ·rw [(kg (Yh hi)).2]; have:=hw (i - h.next); omega
theorem Fe {cf:CallF}(hcf:CallOK P cf)(deep:Nat):CallOK P fun f args h=>(bz h deep args).bind fun us=>(cf f us bA).bind fun x=>(dr h.next x.1).map fun r=>(r,h.eM x.2):=by
 intro f args h r h' hc
 dsimp only at hc
 simp only [XK,XL,XS] at hc
 obtain⟨us,has,⟨x,h1⟩,hx,r',hr,rfl,rfl⟩:=hc
 obtain⟨hin,hcall⟩:=hcf f us bA x h1 hx
 refine⟨hin,fun L0 c vs hh hb0 hrel hargs=>?_⟩
 let c0:Cx:=⟨fun _=>(0,0),bA,c.w,c.w.heap.size⟩
 have hnl:∀id,¬Live c0.h id:=fun id hl=>by have:=hl.2; cases this
 have Fc:∀b,RO c L0 b→RO c0 L0 b:=fun b hb=>⟨fun id hl=>absurd hl (hnl id),hb.2⟩
 have sY:HRel c0 L0:=⟨fun id o ho=>(by cases ho),fun id o ho=>(by cases ho),fun id _ hl _ _=>absurd hl (hnl id),fun id hl=>absurd hl (hnl id),hrel.bd,fun id hl=>absurd hl (hnl id),fun _=>Y8⟩
 have sZ:VRs c0 L0 us vs:=iM (c:=c) (d:=c0) rfl Fc hrel (fun id hl=>⟨fun kP oV=>absurd oV (hnl kP),hrel.out id hl⟩) deep args us vs (by rw [hh]; exact has) hargs
 refine (hcall L0 c0 vs rfl (XP _) sY sZ).mono ?_
 rintro e w' ⟨c1,v,rfl,rfl,L6,hv,hrel1,e1⟩
 let d:Cx:=⟨fun i=>if i<c.h.next then c.β i else c1.β (i - c.h.next),c.h.eM c1.h,c1.w,c.base⟩
 have hk:∀b,b<c.w.heap.size→c1.w.heap[b]? = c.w.heap[b]?:=fun b hb=>e1.exact b hb
 have qR:∀i,i<c.h.next→Live d.h i→Live c.h i:=fun i hi hl=>⟨hi,by have:=hl.2; rw [show d.h.get i=_ from (jA hi).1] at this; exact this⟩
 have Jo:∀i,c.h.next≤i→Live d.h i→Live c1.h (i - c.h.next):=fun i hi hl=>by
  have h2:=hl.2
  rw [show d.h.get i=_ from (kg hi).1] at h2
  cases hg:c1.h.get (i - c.h.next) with
  | none=>rw [hg] at h2; cases h2
  | some o=>exact⟨hrel1.lt _ _ hg,by rw [hg]; rfl⟩
 have H2:∀i,i<c.h.next→d.β i=c.β i:=fun i hi=>if_pos hi
 have Ff:∀i,c.h.next≤i→d.β i=c1.β (i - c.h.next):=fun i hi=>if_neg (by omega)
 have H3:∀i,Live c1.h i→c.w.heap.size≤(c1.β i).1:=fun i hl=>by
  rcases e1.HH i hl with h2 | ⟨p6,h2,_⟩
  ·exact h2
  ·exact absurd h2 (hnl p6)
 have ed:Ext c none0 d none0:=⟨Nat.le_add_right _ _,fun id hi hl=>⟨qR id hi hl,H2 id hi,ik.len (c:=c) (c':=d) (.inl (hk _ (hrel.block (qR id hi hl))))⟩,e1.size,fun b hb _ _=>.inl (hk b hb),fun b hb=>hk b (Yb hb hb0),rfl,fun id hl=>by
  by_cases hi:id<c.h.next
  ·exact .inr ⟨id,qR id hi hl,by rw [H2 id hi]⟩
  ·rw [Ff id (Yh hi)]
   exact .inl (H3 _ (Jo id (Yh hi) hl)),fun _ h=>h,fun _ h=>.inl h,e1.os,e1.tape,e1.output⟩
 have gn:∀id,id<c1.h.next→id+c.h.next<d.h.next:=fun id hi=>by show _<c.h.next+c1.h.next; omega
 have gl:∀id,Live d.h (id+c.h.next)→Live c1.h id∧d.β (id+c.h.next)=c1.β id:=fun id hl=>by
  have a:=Jo (id+c.h.next) (Nat.le_add_left _ _) hl
  have b:=Ff (id+c.h.next) (Nat.le_add_left _ _)
  rw [Nat.add_sub_cancel] at a b
  exact⟨a,b⟩
 refine⟨d,v,rfl,rfl,?_,?_,⟨fun id o ho=>?_,fun id o ho=>?_,fun id kP hl oV he=>?_,fun id hl=>?_,fun b hb=>Yb (hrel.bd b hb) e1.size,fun id hl=>?_,fun id=>?_⟩,ed⟩
 ·show c.h.eM c1.h=h.eM h1
  rw [hh,L6]
 ·refine s7 (c1:=c1) (d:=d) (k:=c.h.next) rfl gn gl x r' v ?_ hv
  rw [hh]; exact hr
 ·show id<c.h.next+c1.h.next
  by_cases hi:id<c.h.next
  ·omega
  ·rw [show d.h.get id=_ from (kg (Yh hi)).1,XK] at ho
   obtain⟨o1,Je,_⟩:=ho
   have:=hrel1.lt _ _ Je
   omega
 ·by_cases hi:id<c.h.next
  ·rw [show d.h.get id=_ from (jA hi).1] at ho
   have hl:Live c.h id:=⟨hi,by rw [ho]; rfl⟩
   have:=(hrel.obj id o ho)
   have h2:=pd.ext (L0:=L0) ed (b:=(c.β id).1) (base:=(c.β id).2) (o:=o) (by rw [ir]; exact this) (hk _ (hrel.block hl))
   rw [ir] at h2
   rw [H2 id hi]
   exact h2
  ·rw [show d.h.get id=_ from (kg (Yh hi)).1,XK] at ho
   obtain⟨o1,Je,ho⟩:=ho
   rw [Ff id (Yh hi)]
   cases o1 with
   | map es=>cases ho
   | row t cs=>cases ho
   | cells cs=>
    simp only [z7,XM] at ho
    subst ho
    obtain⟨n,g1,g2,g3⟩:=hrel1.obj _ _ Je
    exact⟨n,g1,Yz (Nat.add_le_add_left (s8 _ _) _) g2,re (c1:=c1) (d:=d) rfl gn gl cs _ _ g3⟩
 ·by_cases hi:id<c.h.next<;>by_cases jP:kP<c.h.next
  ·rw [H2 id hi,H2 kP jP] at he
   exact hrel.inj id kP (qR id hi hl) (qR kP jP oV) he
  ·rw [H2 id hi,Ff kP (Yh jP)] at he
   have a:=hrel.block (qR id hi hl)
   have b:=H3 _ (Jo kP (Yh jP) oV)
   omega
  ·rw [Ff id (Yh hi),H2 kP jP] at he
   have a:=hrel.block (qR kP jP oV)
   have b:=H3 _ (Jo id (Yh hi) hl)
   omega
  ·rw [Ff id (Yh hi),Ff kP (Yh jP)] at he
   have:=hrel1.inj _ _ (Jo id (Yh hi) hl) (Jo kP (Yh jP) oV) he
   omega
 ·by_cases hi:id<c.h.next
  ·rw [H2 id hi]; exact hrel.out id (qR id hi hl)
  ·rw [Ff id (Yh hi)]; exact hrel1.out _ (Jo id (Yh hi) hl)
 ·show c.base≤_
  by_cases hi:id<c.h.next
  ·rw [H2 id hi]; exact hrel.low id (qR id hi hl)
  ·rw [Ff id (Yh hi)]; exact Yz hb0 (H3 _ (Jo id (Yh hi) hl))
 ·show _<c.h.next+c1.h.next
  by_cases hi:id<c.h.next
  ·rw [show d.h.ver id=_ from (jA hi).2]; have:=hrel.ver id; omega
  ·rw [show d.h.ver id=_ from (kg (Yh hi)).2]; have:=hrel1.ver (id - c.h.next); omega
theorem lW {T:oa}(rf:IntrOK P T.intr)(m:Nat):∀k,SteadyF (fc P T m k)
 | 0=>fun f args h r h' hc=>by simp [fc] at hc
 | k+1=>fun f args h r h' hc=>by
  have hb:=wA (P:=P) (aW:=T.aW) (m:=m) (lW rf m k)
  simp only [fc] at hc
  split at hc
  ·rename_i g hg
   exact (rf f g hg).2 _ _ _ _ hc
  ·split at hc
   ·split at hc
    ·simp only [XK] at hc
     obtain⟨us,_,x,hx,hc⟩:=hc
     obtain⟨r',_,h2⟩:=Option.map_some' hc
     cases h2
     exact Steady.eM ((hb _ _ _ _ _ hx).wf fun _=>Y8)
    split at hc
    ·rw [XK] at hc
     obtain⟨x,_,hc⟩:=hc
     obtain⟨r',_,h2⟩:=Option.map_some' hc
     cases h2
     exact Steady.refl _
    ·split at hc
     ·rw [XK] at hc
      obtain⟨x,_,hc⟩:=hc
      obtain⟨r',_,h2⟩:=Option.map_some' hc
      cases h2
      exact Steady.refl _
     ·exact hb _ _ _ _ _ hc
   ·exact hb _ _ _ _ _ hc
theorem pB (hP:Fit P){T:oa}(rf:IntrOK P T.intr)(m:Nat):∀k,CallOK P (fc P T m k)
 | 0=>fun f args h r h' hc=>by simp [fc] at hc
 | k+1=>fun f args h r h' hc=>by
  have ih:=pB hP rf m k
  have hb:=yh hP (aW:=T.aW) ih (ym hP.mixed ih (lW rf m k)) m
  simp only [fc] at hc
  split at hc
  ·rename_i g hg
   exact (rf f g hg).1 f args h r h' (by simpa using hc)
  ·split at hc
   ·rename_i deep _
    split at hc
    ·exact Fe hb deep f args h r h' hc
    by_cases xD:cZ args=true
    ·exact HZ hb deep f args h r h' (by dsimp only; rw [if_pos xD] at hc ⊢; exact hc)
    ·rw [if_neg xD] at hc
     split at hc
     ·rename_i as has
      refine H0 hb deep f args h r h' ?_
      dsimp only
      rw [has]
      exact hc
     ·exact yo hb f args h r h' hc
   ·exact yo hb f args h r h' hc
def MU (P : Program) : Bool := P.funcs.toList.all fun fn => fn.name != "runtime.NumGoroutine" && match fn.body with | some c => kL fn.ntmps c | none => true
theorem Kb (h1:P.follows .mixedOrders=true)(h2:MU P=true):Fit P:=by
 refine⟨h1,fun f fn c hf hb=>?_⟩
 unfold MU at h2
 rw [X5] at h2
 have:=h2 fn (YG.2 (Array.mem_of_getElem? hf))
 rw [hb] at this
 simp only [XN,bne_iff_ne,ne_eq] at this
 exact⟨this.2,this.1⟩
theorem nO:IntrOK P fun _=>none:=fun f g h=>by cases h
end
end Go.R
