/- Part of the proof: RLocal, RSteady, RDraw, RPure. -/
import Derived.Test.YtifafejidnjckaaK2
import Derived.StillTail
set_option linter.unusedVariables false
set_option linter.unusedSimpArgs false
set_option maxRecDepth 100000
open Array renaming getElem?_eq_some_iff → UH, mem_toList_iff → U2
open Bool renaming and_eq_true → Ud, false_eq_true → Um, or_eq_true → UW, not_eq_true' → Vf, not_true → Vo
open List renaming getElem?_append_left → Ur, all_eq_true → Uv, mem_append → UF, getElem?_eq_none → UJ, mem_map → UO, getElem?_cons_zero → UR, map_congr_left → VH
open Nat renaming le_refl → Ue, zero_add → Uy, lt_of_lt_of_le → Uz, le_of_not_lt → UE, le_trans → UT, zero_le → U5, add_assoc → U6, eq_of_beq_eq_true → Vb, min_eq_left → Vw, zero_lt_one → Vx, add_comm → VE
open Option renaming bind_eq_some_iff → T9, bind_some → Ua, map_eq_some_iff → Ub, map_some → Ug, getD_some → U4
open Option.some renaming injEq → Uc, inj → UX
open Prod.mk renaming injEq → Ui
namespace Go.R
open Go
def RS.shift (s2:RS)(f:ki)(d:Option Nat)(s':RS):RS:=
 {ρ:=match d with | none=>s2.ρ | some d=>fun t=>if t=d then s'.ρ d else s2.ρ t
  bx:=match f.wb with | none=>s2.bx | some k=>fun t=>if t=k then s'.bx k else s2.bx t
  h:=if f.wh then s'.h else s2.h}
theorem RS.ext' {s t:RS}(h1:∀i,s.ρ i=t.ρ i)(h2:∀i,s.bx i=t.bx i)(h3:s.h=t.h):s=t:=by
 cases s; cases t
 congr
 ·exact funext h1
 ·exact funext h2
theorem hU (s s2:RS)(f:ki)(d:Option Nat)(z:AV)(hw:f.wb=none)(hh:f.wh=false):s2.set d z=s2.shift f d (s.set d z):=by
 refine RS.ext' (fun i=>?_) (fun i=>?_) ?_
 ·cases d with
  | none=>rfl
  | some d=>simp only [s9,RS.shift,if_true]
 ·simp only [RS.shift,hw]; cases d<;>rfl
 ·simp only [RS.shift,hh]; cases d<;>rfl
theorem iN (s:RS)(d:Option Nat)(z:AV):(s.set d z).h=s.h:=by cases d<;>rfl
theorem HE (s:RS)(d:Option Nat)(z:AV):(s.set d z).bx=s.bx:=by cases d<;>rfl
theorem CY (s:RS)(k i:Nat)(cs:List AV):(s.box k cs).bx i=if i=k then some cs else s.bx i:=by
 simp only [RS.box,beq_nat]
 by_cases h:i=k<;>simp [h]
theorem gu (s s2:RS)(f:ki)(d:Option Nat)(z:AV)(h':AHeap)(hw:f.wb=none)(hh:f.wh=true):({s2 with h:=h'}:RS).set d z=s2.shift f d (({s with h:=h'}:RS).set d z):=by
 refine RS.ext' (fun i=>?_) (fun i=>?_) ?_
 ·cases d with
  | none=>rfl
  | some d=>simp only [s9,RS.shift,if_true]
 ·simp only [RS.shift,hw]; cases d<;>rfl
 ·simp only [RS.shift,hh]; cases d<;>rfl
theorem Bs (s s2:RS)(f:ki)(k:Nat)(cs:List AV)(hw:f.wb=some k)(hh:f.wh=false):s2.box k cs=s2.shift f none (s.box k cs):=by
 refine RS.ext' (fun i=>rfl) (fun i=>?_) ?_
 ·simp only [CY,RS.shift,hw,if_true]
 ·simp only [RS.shift,hh]; rfl
section
variable {P:Program}{cf:CallF}{aE ds:List Nat}{o:Oper}{s s' s2:RS}
theorem nX {cs:List AV}{f:ki}(h:gX s aE ds o cs=some s')(hf:f=(match o.dst with
  | some d=>if aE.contains d then {wb:=some d,al:=true} else {wh:=true}
  | none=>{})) (hh:f.wh=true→s2.h=s.h) (nJ:f.al=true→∀d,o.dst=some d→qZ d s2.ρ (ds.filter fun t=>!Nat.beq t d)=true) :
  gX s2 aE ds o cs=some (s2.shift f o.dst s'):=by
 unfold gX at h ⊢
 split at h
 rotate_left
 ·cases h
 rename_i nI
 rw [if_pos nI]
 cases hd:o.dst with
 | none=>rw [hd] at h; cases h
 | some d=>
  rw [hd] at h hf
  simp only at h hf ⊢
  by_cases hl:aE.contains d=true
  ·rw [if_pos hl] at h hf ⊢
   subst hf
   split at h
   rotate_left
   ·cases h
   cases h
   rw [if_pos (nJ rfl d hd)]
   congr 1
   refine RS.ext' (fun i=>?_) (fun i=>?_) ?_
   ·simp only [s9,RS.shift,if_true]; rfl
   ·simp only [HE,CY,RS.shift,if_true]
   ·simp only [iN,RS.shift]; rfl
  ·rw [if_neg hl] at h hf ⊢
   subst hf
   cases h
   rw [hh rfl]
   congr 1
   exact gu s s2 {wh:=true} (some d) _ _ rfl rfl
theorem tu {e:Operand→AV}(h:xW P cf aE ds e s o=some s')(hb:∀k∈(bc aE e o).rb,s2.bx k=s.bx k)(hr:∀id∈(bc aE e o).rh,s2.h.get id=s.h.get id)
  (hh:(bc aE e o).wh=true→s2.h=s.h) (nJ:(bc aE e o).al=true→∀d,o.dst=some d→qZ d s2.ρ (ds.filter fun t=>!Nat.beq t d)=true) :
  xW P cf aE ds e s2 o=some (s2.shift (bc aE e o) o.dst s'):=by
 have dJ:∀{x x2:Option AV} (f:ki),(x.map fun x=>s.set o.dst x)=some s'→(x2=x)→f.wb=none→f.wh=false→(x2.map fun x=>s2.set o.dst x)=some (s2.shift f o.dst s'):=by
  intro x x2 f hx h2 h3 h4
  obtain⟨z,rfl,rfl⟩:=Option.map_some' hx
  subst h2
  simp only [Ug]
  rw [←hU s s2 f o.dst z h3 h4]
 have wi:∀{α:Type} {x x2:Option α} (f:ki) (g:α→AV) (k:α→AHeap),(x.map fun y=>({s with h:=k y}:RS).set o.dst (g y))=some s'→(x2=x)→f.wb=none→f.wh=true→
   (x2.map fun y=>({s2 with h:=k y}:RS).set o.dst (g y))=some (s2.shift f o.dst s'):=by
  intro α x x2 f g k hx h2 h3 h4
  obtain⟨z,rfl,rfl⟩:=Option.map_some' hx
  subst h2
  simp only [Ug]
  rw [←gu s s2 f o.dst (g z) (k z) h3 h4]
 unfold xW at h ⊢
 dsimp only at h ⊢
 split at h
 ·rename_i x ho; cases h; simp only [Uc]; exact hU s s2 _ _ _ (by simp [bc,ho]) (by simp [bc,ho])
 ·rename_i x ho; cases h; simp only [Uc]; exact hU s s2 _ _ _ (by simp [bc,ho]) (by simp [bc,ho])
 ·rename_i k x y ho
  obtain⟨t,ht,rfl⟩:=Option.map_some' h
  simp only [ht,Ug,Uc]
  exact hU s s2 _ _ _ (by simp [bc,ho]) (by simp [bc,ho])
 ·rename_i t ho
  rw [T9] at h
  obtain⟨z,hz,h⟩:=h
  simp only [hz,Ua]
  exact nX h (by simp only [bc,ho]; rfl) hh nJ
 ·rename_i t x ho
  exact nX h (by simp only [bc,ho]; rfl) hh nJ
 ·rename_i t ps ho; exact dJ _ h rfl (by simp [bc,ho]) (by simp [bc,ho])
 ·rename_i t k ps ho
  obtain⟨z,hz,rfl⟩:=Option.map_some' h
  simp only [hz,Ug,Uc]
  have hf:bc aE e o=(match o.dst with | some d=>if aE.contains d then {wh:=true} else {} | none=>{}):=by simp only [bc,ho]; rfl
  unfold oU
  cases Hx:nq P aE o t z with
  | none=>
   simp only
   cases hd:o.dst with
   | none=>rw [hd] at hf; rw [hf]; exact hU s s2 _ none _ rfl rfl
   | some d=>
    rw [hd] at hf
    simp only at hf
    by_cases hl:aE.contains d=true
    ·rw [if_pos hl] at hf
     have h2:=hh (by rw [hf])
     rw [hf]
     have h3:=gu s s2 {wh:=true} (some d) z s2.h rfl rfl
     refine h3.trans ?_
     rw [h2]
    ·rw [if_neg hl] at hf
     rw [hf]; exact hU s s2 _ _ _ rfl rfl
  | some q=>
   obtain⟨d,hd,hl⟩:∃d,o.dst=some d∧aE.contains d=true:=by
    unfold nq at Hx
    split at Hx
    ·rename_i d _ _ _ hd
     refine⟨d,hd,?_⟩
     cases hc:aE.contains d with
     | false=>rw [hc] at Hx; cases Hx
     | true=>rfl
    ·cases Hx
   rw [hd] at hf
   simp only [hl,if_true] at hf
   rw [hf] at hh ⊢
   simp only [hh rfl]
   exact gu s s2 _ _ _ _ rfl rfl
 ·
  rename_i t x ho
  have hf:bc aE e o=(match e x with | .lp k _=>{rb:=[k]} | .ptr id _=>{rh:=[id]} | _=>{}):=by simp only [bc,ho]; rfl
  refine dJ _ h ?_ ?_ ?_
  ·rw [hf] at hb hr
   unfold jj
   cases hx:e x<;>rw [hx] at hb hr<;>try rfl
   ·simp only; rw [hr _ (by simp)]
   ·simp only; rw [hb _ (by simp)]
  ·rw [hf]; cases e x<;>rfl
  ·rw [hf]; cases e x<;>rfl
 ·
  rename_i t x y ho
  have hf:bc aE e o=(match e x with | .lp k _=>{rb:=[k],wb:=some k} | _=>{wh:=true}):=by simp only [bc,ho]; rfl
  try simp only at h ⊢
  split at h
  ·cases h
  rename_i hd
  rw [if_neg hd]
  have Fc:o.dst=none:=by simpa using hd
  cases hx:e x<;>rw [hx] at h hf<;>simp only at h hf ⊢<;>try (cases h; done)
  ·rename_i id off
   rw [hf] at hh ⊢
   rw [T9] at h
   obtain⟨ob,hob,h⟩:=h
   rw [hh rfl,hob]
   cases ob with
   | map es=>cases h
   | row t cs=>cases h
   | cells cs=>
    obtain⟨eO,hcs,rfl⟩:=Option.map_some' h
    simp only [Ua,hcs,Ug,Fc,Uc]
    exact gu s s2 {wh:=true} none .any _ rfl rfl
  ·rename_i k off
   rw [hf] at hb ⊢
   rw [T9] at h
   obtain⟨cs,hcs,h⟩:=h
   rw [hb k (by simp),hcs]
   obtain⟨eO,Mt,rfl⟩:=Option.map_some' h
   simp only [Ua,Mt,Ug,Fc,Uc]
   exact Bs s s2 _ k eO rfl rfl
 ·rename_i ho; exact dJ _ h rfl (by simp [bc,ho]) (by simp [bc,ho])
 ·rename_i ho; exact dJ _ h rfl (by simp [bc,ho]) (by simp [bc,ho])
 ·rename_i ho; exact dJ _ h rfl (by simp [bc,ho]) (by simp [bc,ho])
 ·
  rename_i a b x ho
  have hf:bc aE e o=(match e x with | .rs id _ _ _=>{rh:=[id]} | _=>{}):=by simp only [bc,ho]; rfl
  refine dJ _ h ?_ ?_ ?_
  ·have hc:dS s2.h 1 (e x)=dS s.h 1 (e x):=by
    rw [hf] at hr
    unfold dS
    cases hx:e x<;>rw [hx] at hr<;>try rfl
    simp only; rw [hr _ (by simp)]
   unfold lM
   rw [hc]
  ·rw [hf]; cases e x<;>rfl
  ·rw [hf]; cases e x<;>rfl
 ·rename_i yk first cap ho
  try simp only
  split at h
  ·rename_i hc
   rw [if_pos hc]
   exact dJ _ h rfl (by simp [bc,ho]) (by simp [bc,ho])
  ·cases h
 ·rename_i ho
  have hf:(bc aE e o).wh=true:=by simp [bc,ho]
  cases h
  simp only [hh hf,Uc]
  exact gu s s2 _ _ _ _ (by simp [bc,ho]) hf
 ·rename_i t l c ho
  have hf:(bc aE e o).wh=true:=by simp [bc,ho]
  exact wi _ (fun y:AV × AHeap=>y.1) (fun y=>y.2) h (by simp only [hh hf]) (by simp [bc,ho]) hf
 ·rename_i ho; exact dJ _ h rfl (by simp [bc,ho]) (by simp [bc,ho])
 ·rename_i ho; exact dJ _ h rfl (by simp [bc,ho]) (by simp [bc,ho])
 ·rename_i ho; exact dJ _ h rfl (by simp [bc,ho]) (by simp [bc,ho])
 ·rename_i ho; exact dJ _ h rfl (by simp [bc,ho]) (by simp [bc,ho])
 ·rename_i ho; exact dJ _ h rfl (by simp [bc,ho]) (by simp [bc,ho])
 ·
  rename_i t m k ok ho
  have hf:bc aE e o=(match e m with | .mp id=>{rh:=[id]} | _=>{}):=by simp only [bc,ho]; rfl
  refine dJ _ h ?_ ?_ ?_
  ·rw [hf] at hr
   unfold fD
   cases hx:e m<;>rw [hx] at hr<;>try rfl
   simp only; rw [hr _ (by simp)]
  ·rw [hf]; cases e m<;>rfl
  ·rw [hf]; cases e m<;>rfl
 ·rename_i t m k x ho
  have hf:(bc aE e o).wh=true:=by simp [bc,ho]
  try simp only at h ⊢
  split at h
  ·cases h
  rename_i hd
  rw [if_neg hd]
  have Fc:o.dst=none:=by simpa using hd
  obtain⟨h',hm,rfl⟩:=Option.map_some' h
  simp only [hh hf,hm,Ug,Fc,Uc]
  exact gu s s2 _ none .any _ (by simp [bc,ho]) hf
 ·rename_i t m k x ho
  have hf:(bc aE e o).wh=true:=by simp [bc,ho]
  try simp only at h ⊢
  split at h
  ·cases h
  rename_i hd
  rw [if_neg hd]
  have Fc:o.dst=none:=by simpa using hd
  obtain⟨h',hm,rfl⟩:=Option.map_some' h
  simp only [hh hf,hm,Ug,Fc,Uc]
  exact gu s s2 _ none .any _ (by simp [bc,ho]) hf
 ·rename_i ho; exact dJ _ h rfl (by simp [bc,ho]) (by simp [bc,ho])
 ·
  rename_i b args zw ho
  try simp only
  unfold fw at h ⊢
  generalize hargs:args.toList.map e=as at h ⊢
  generalize zw.toList=ts at h ⊢
  split at h
  ·rename_i t x
   try simp only
   have hf:bc aE e o=(match x with | .mp id=>{rh:=[id]} | _=>{}):=by
    simp only [bc,ho,hargs]
    cases x<;>rfl
   refine dJ _ h ?_ ?_ ?_
   ·rw [hf] at hr
    unfold qY
    cases x<;>try rfl
    simp only; rw [hr _ (by simp)]
   ·rw [hf]; cases x<;>rfl
   ·rw [hf]; cases x<;>rfl
  ·try simp only
   have hf:(bc aE e o).wh=true∧(bc aE e o).wb=none:=by simp only [bc,ho,hargs]; simp
   exact wi _ (fun y:AV × AHeap=>y.1) (fun y=>y.2) h (by simp only [hh hf.1]) hf.2 hf.1
  ·try simp only
   have hf:(bc aE e o).wh=true∧(bc aE e o).wb=none:=by simp only [bc,ho,hargs]; simp
   exact wi _ (fun y:AV × AHeap=>y.1) (fun y=>y.2) h (by simp only [hh hf.1]) hf.2 hf.1
  ·try simp only
   have hf:(bc aE e o).wh=true∧(bc aE e o).wb=none:=by simp only [bc,ho,hargs]; simp
   exact wi _ (fun _:AHeap=>.tup []) (fun y=>y) h (by simp only [hh hf.1]) hf.2 hf.1
  ·try simp only
   rw [T9] at h
   obtain⟨v,hv,h⟩:=h
   rw [T9] at h
   obtain⟨vs,Cq,h⟩:=h
   rw [T9] at h
   obtain⟨u,hu,h⟩:=h
   simp only [hv,Cq,hu,Ua]
   exact dJ _ h rfl (by simp [bc,ho]) (by simp [bc,ho])
  ·try simp only
   rw [T9] at h
   obtain⟨v,hv,h⟩:=h
   rw [T9] at h
   obtain⟨vs,Cq,h⟩:=h
   rw [T9] at h
   obtain⟨u,hu,h⟩:=h
   simp only [hv,Cq,hu,Ua]
   exact dJ _ h rfl (by simp [bc,ho]) (by simp [bc,ho])
  ·cases h
 ·
  rename_i fx args zw ho
  have hf:(bc aE e o).wh=true∧(bc aE e o).wb=none:=by simp [bc,ho]
  try simp only
  cases hx:e fx<;>rw [hx] at h<;>simp only at h ⊢<;>try (cases h; done)
  rename_i yk cap
  split at h
  ·rename_i ha
   rw [if_pos ha]
   exact wi _ (fun y:AV × AHeap=>y.1) (fun y=>y.2) h (by simp only [hh hf.1]) hf.2 hf.1
  ·cases h
 ·cases h
end
end Go.R
namespace Go.R
open Go
def SteadyF (cf:CallF):Prop:=∀f args h r h',cf f args h=some (r,h')→Steady h h'
section
variable {P:Program}{cf:CallF}{aE ds:List Nat}{o:Oper}{s s':RS}
theorem rD {h h':AHeap}{t t2:TypeId}{x y z:AV}(hh:dq P h t t2 x y=some (z,h')):Steady h h':=by
 unfold dq at hh
 rw [T9] at hh
 obtain⟨d,_,hh⟩:=hh
 cases d<;>simp only at hh<;>try (cases hh; done)
 rw [T9] at hh
 obtain⟨i,_,hh⟩:=hh
 rw [T9] at hh
 obtain⟨⟨new,m⟩,_,hh⟩:=hh
 simp only at hh
 split at hh
 ·cases hh
 split at hh
 ·split at hh
  ·cases hh
  ·split at hh<;>cases hh
   ·exact Steady.refl _
   ·exact Steady.put _ _ _
 ·split at hh
  ·cases hh
  ·split at hh
   ·split at hh<;>cases hh<;>exact Steady.refl _
   ·cases hh; exact Steady.put _ _ _
 ·split at hh
  ·split at hh
   ·cases hh
   ·split at hh<;>cases hh
    ·exact Steady.refl _
    ·exact Steady.put _ _ _
  rw [T9] at hh
  obtain⟨ob,_,hh⟩:=hh
  cases ob with
  | map es=>cases hh
  | row t cs=>cases hh
  | cells cs=>
   simp only at hh
   split at hh
   ·cases hh
   ·split at hh<;>cases hh
    ·exact Steady.refl _
    ·exact (Steady.kill _ _).trans (Steady.put _ _ _)
 ·cases hh
theorem uB {h h':AHeap}{t t2:TypeId}{x y z:AV}(hh:pI P h t t2 x y=some (z,h')):Steady h h':=by
 unfold pI at hh
 rw [T9] at hh
 obtain⟨d,_,hh⟩:=hh
 cases d<;>simp only at hh<;>try (cases hh; done)
 rw [T9] at hh
 obtain⟨i,_,hh⟩:=hh
 rw [T9] at hh
 obtain⟨⟨new,m⟩,_,hh⟩:=hh
 simp only at hh
 split at hh
 ·cases hh
 split at hh
 ·split at hh
  ·split at hh<;>cases hh
   exact Steady.refl _
  rw [T9] at hh
  obtain⟨ob,_,hh⟩:=hh
  cases ob with
  | map es=>cases hh
  | row t cs=>cases hh
  | cells cs=>
   simp only at hh
   split at hh<;>cases hh
   exact Steady.put _ _ _
 ·split at hh<;>cases hh
  exact Steady.refl _
 ·cases hh
theorem sM {h h':AHeap}{t:TypeId}{x:AV}(hh:kQ P h t x=some h'):Steady h h':=by
 unfold kQ at hh
 rw [T9] at hh
 obtain⟨d,_,hh⟩:=hh
 cases x<;>simp only at hh<;>try (cases hh; done)
 ·split at hh
  ·cases hh; exact Steady.refl _
  split at hh
  ·cases hh
  cases d<;>simp only at hh<;>try (cases hh; done)
  simp only [T9] at hh
  obtain⟨i,_,z,_,ob,_,hh⟩:=hh
  cases ob with
  | map es=>cases hh
  | row t cs=>cases hh
  | cells cs=>
   simp only at hh
   split at hh
   ·cases hh; exact Steady.put _ _ _
   ·cases hh
 ·cases hh; exact Steady.refl _
 ·rw [T9] at hh
  obtain⟨ob,_,hh⟩:=hh
  cases ob with
  | cells cs=>cases hh
  | row t cs=>cases hh
  | map es=>cases hh; exact Steady.put _ _ _
theorem wj {aE:List Nat}{d:Option Nat}{x y:AV × AHeap}(hz:uf aE d x=some y):Steady x.2 y.2:=by
 unfold uf at hz
 cases hm:JC aE d with
 | true=>rw [hm,cond_true] at hz; exact lU hz
 | false=>rw [hm,cond_false] at hz; cases hz; exact Steady.refl _
theorem lY {h h':AHeap}{t:TypeId}{x y z:AV}(hh:ij P h t x y z=some h'):Steady h h':=by
 unfold ij at hh
 rw [T9] at hh
 obtain⟨d,_,hh⟩:=hh
 cases d<;>simp only at hh<;>try (cases hh; done)
 split at hh
 ·cases hh
 cases x<;>simp only at hh<;>try (cases hh; done)
 rw [T9] at hh
 obtain⟨ob,_,hh⟩:=hh
 cases ob with
 | cells cs=>cases hh
 | row t cs=>cases hh
 | map es=>
  obtain⟨pH,_,rfl⟩:=Option.map_some' hh
  exact Steady.put _ _ _
theorem nY {h h':AHeap}{t:TypeId}{x y z:AV}(hh:gr P h t x y=some (z,h')):Steady h h':=by
 unfold gr at hh
 split at hh
 ·rw [T9] at hh
  obtain⟨d,_,hh⟩:=hh
  cases d<;>simp only at hh<;>try (cases hh; done)
  rw [T9] at hh
  obtain⟨i,_,hh⟩:=hh
  rw [T9] at hh
  obtain⟨z,_,hh⟩:=hh
  split at hh<;>cases hh
  exact Steady.put _ _ _
 ·cases hh
theorem na {cs:List AV}(h:gX s aE ds o cs=some s'):Steady s.h s'.h:=by
 unfold gX at h
 split at h
 rotate_left
 ·cases h
 split at h
 ·split at h
  ·split at h<;>cases h
   rw [iN]; exact Steady.refl _
  ·cases h
   rw [iN]; exact Steady.put _ _ _
 ·cases h
theorem rE (hcf:SteadyF cf){e:Operand→AV}(h:xW P cf aE ds e s o=some s'):Steady s.h s'.h:=by
 have dJ:∀{x:Option AV},(x.map fun x=>s.set o.dst x)=some s'→Steady s.h s'.h:=by
  intro x hx
  obtain⟨z,rfl,rfl⟩:=Option.map_some' hx
  rw [iN]; exact Steady.refl _
 unfold xW at h
 dsimp only at h
 split at h
 ·cases h; rw [iN]; exact Steady.refl _
 ·cases h; rw [iN]; exact Steady.refl _
 ·obtain⟨z,_,rfl⟩:=Option.map_some' h; rw [iN]; exact Steady.refl _
 ·rw [T9] at h
  obtain⟨z,_,h⟩:=h
  exact na h
 ·exact na h
 ·exact dJ h
 ·obtain⟨z,hz,rfl⟩:=Option.map_some' h
  unfold oU
  split
  ·rw [iN]; exact Steady.refl _
  ·rw [iN]; exact Steady.put _ _ _
 ·exact dJ h
 ·split at h
  ·cases h
  split at h
  ·rw [T9] at h
   obtain⟨cs,_,h⟩:=h
   obtain⟨z,_,rfl⟩:=Option.map_some' h
   exact Steady.refl _
  ·rw [T9] at h
   obtain⟨ob,_,h⟩:=h
   cases ob with
   | map es=>cases h
   | row t cs=>cases h
   | cells cs=>
    obtain⟨z,_,rfl⟩:=Option.map_some' h
    exact Steady.put _ _ _
  ·cases h
 ·exact dJ h
 ·exact dJ h
 ·exact dJ h
 ·exact dJ h
 ·split at h
  ·exact dJ h
  ·cases h
 ·cases h; rw [iN]; exact Steady.put _ _ _
 ·obtain⟨⟨z,h'⟩,hz,rfl⟩:=Option.map_some' h
  rw [iN]; exact nY hz
 ·exact dJ h
 ·exact dJ h
 ·exact dJ h
 ·exact dJ h
 ·exact dJ h
 ·exact dJ h
 ·split at h
  ·cases h
  obtain⟨h',hz,rfl⟩:=Option.map_some' h
  exact lY hz
 ·split at h
  ·cases h
  obtain⟨h',hz,rfl⟩:=Option.map_some' h
  exact lY hz
 ·exact dJ h
 ·unfold fw at h
  split at h
  ·exact dJ h
  ·obtain⟨⟨z,h'⟩,hz,rfl⟩:=Option.map_some' h
   rw [iN]; exact rD hz
  ·obtain⟨⟨z,h'⟩,hz,rfl⟩:=Option.map_some' h
   rw [iN]; exact uB hz
  ·obtain⟨h',hz,rfl⟩:=Option.map_some' h
   rw [iN]; exact sM hz
  ·rw [T9] at h
   obtain⟨v,_,h⟩:=h
   rw [T9] at h
   obtain⟨vs,_,h⟩:=h
   rw [T9] at h
   obtain⟨u,_,h⟩:=h
   exact dJ h
  ·rw [T9] at h
   obtain⟨v,_,h⟩:=h
   rw [T9] at h
   obtain⟨vs,_,h⟩:=h
   rw [T9] at h
   obtain⟨u,_,h⟩:=h
   exact dJ h
  ·cases h
 ·split at h
  ·split at h
   ·obtain⟨⟨z,h'⟩,hz,rfl⟩:=Option.map_some' h
    rw [T9] at hz
    obtain⟨⟨z0,h0⟩,hz,hm⟩:=hz
    rw [iN]; exact (hcf _ _ _ _ _ hz).trans (wj hm)
   ·cases h
  ·cases h
 ·cases h
theorem nZ (hcf:SteadyF cf){ops:List Oper}(h:lO P cf aE ops s o=some s'):Steady s.h s'.h:=by
 unfold lO at h
 rw [T9] at h
 obtain⟨w,_,h⟩:=h
 cases w with
 | true=>exact rE hcf (by simpa [ug] using h)
 | false=>
  simp only [Um,if_false,Uc] at h
  subst h
  rw [iN]; exact Steady.refl _
theorem pS (hcf:SteadyF cf){ops:List Oper}:∀{l:List Oper} {s s':RS},p8 P cf aE ops s l=some s'→Steady s.h s'.h
 | [],s,s',h=>by simp only [p8,Uc] at h; subst h; exact Steady.refl _
 | o::l,s,s',h=>by
  simp only [p8,T9] at h
  obtain⟨s1,h1,h2⟩:=h
  exact (nZ hcf h1).trans (pS hcf h2)
theorem pU (hcf:SteadyF cf){ops:List Oper}:∀{l:List Oper} {s r:RS} {es:List lD},nO P cf aE ops s l=some (es,r)→Steady s.h r.h
 | [],s,r,es,h=>by simp only [nO,Uc,Ui] at h; rw [h.2]; exact Steady.refl _
 | o::l,s,r,es,h=>by
  simp only [nO,T9,Ub] at h
  obtain⟨w,hw,s1,h1,⟨pH,r'⟩,h2,h3⟩:=h
  simp only [Ui] at h3
  obtain⟨_,rfl⟩:=h3
  have h4:lO P cf aE ops s o=some s1:=by unfold lO; rw [hw]; exact h1
  exact (nZ hcf h4).trans (pU hcf h2)
theorem sN (hcf:SteadyF cf){ops:Array Oper}(h:jk P cf aE ops s=some s'):Steady s.h s'.h:=by
 unfold jk at h
 dsimp only at h
 split at h
 rotate_left
 ·cases h
 rw [T9] at h
 obtain⟨⟨es,r⟩,yg,h⟩:=h
 simp only at h
 split at h
 ·cases h; exact pU hcf yg
 ·cases h
theorem fF (hcf:SteadyF cf){A:b4}{m:Nat}:∀(c:Code) (st iX:St) (e:Ex),bF P cf A m c st=some (e,iX)→Steady st.h iX.h
 | .skip,st,iX,e,h=>by simp only [bF,Uc,Ui] at h; rw [h.2]; exact Steady.refl _
 | .label _,st,iX,e,h=>by simp only [bF,Uc,Ui] at h; rw [h.2]; exact Steady.refl _
 | .ret,st,iX,e,h=>by simp only [bF,Uc,Ui] at h; rw [h.2]; exact Steady.refl _
 | .exit _,st,iX,e,h=>by simp only [bF,Uc,Ui] at h; rw [h.2]; exact Steady.refl _
 | .seq x y,st,iX,e,h=>by
  simp only [bF,T9] at h
  obtain⟨⟨e1,s1⟩,h1,h2⟩:=h
  have:=fF hcf x st s1 e1 h1
  cases e1 with
  | norm=>exact this.trans (fF hcf y s1 iX e h2)
  | exit id=>simp only [Uc,Ui] at h2; rw [←h2.2]; exact this
  | ret=>simp only [Uc,Ui] at h2; rw [←h2.2]; exact this
 | .cond k x y,st,iX,e,h=>by
  simp only [bF,T9] at h
  obtain⟨t,_,h⟩:=h
  cases t with
  | true=>exact fF hcf x st iX e (by simpa using h)
  | false=>exact fF hcf y st iX e (by simpa using h)
 | .block id x,st,iX,e,h=>by
  simp only [bF,Ub] at h
  obtain⟨⟨e1,s1⟩,h1,h2⟩:=h
  have:=fF hcf x st s1 e1 h1
  cases e1<;>(simp only [Ui] at h2; rw [←h2.2]; exact this)
 | .loop x,st,iX,e,h=>by
  simp only [bF] at h
  have key:∀(j:Nat) (st:St),kl (bF P cf A m x) j st=some (e,iX)→Steady st.h iX.h:=by
   intro j
   induction j with
   | zero=>intro st h; simp [kl] at h
   | succ j ih=>
    intro st h
    simp only [kl,T9] at h
    obtain⟨⟨e1,s1⟩,h1,h2⟩:=h
    have:=fF hcf x st s1 e1 h1
    cases e1 with
    | norm=>exact this.trans (ih s1 h2)
    | exit id=>simp only [Uc,Ui] at h2; rw [←h2.2]; exact this
    | ret=>simp only [Uc,Ui] at h2; rw [←h2.2]; exact this
  exact key m st h
 | .region id ops draw,st,iX,e,h=>by
  simp only [bF,T9,Ub,Ui] at h
  obtain⟨s0,h0,s',h1,s2,h2,_,rfl⟩:=h
  rw [FD]
  refine ((lV h0).trans ?_).trans (lV h2)
  cases draw with
  | true=>exact sN (s:=s0) hcf (by simpa using h1)
  | false=>exact pS (s:=s0) hcf (by simpa using h1)
 | .rangeFunc ..,st,iX,e,h=>by simp [bF] at h
 | .scope ..,st,iX,e,h=>by simp [bF] at h
 | .goto ..,st,iX,e,h=>by simp [bF] at h
 | .refuse ..,st,iX,e,h=>by simp [bF] at h
theorem uC (hcf:SteadyF cf){aV:FuncId→b4}{m:Nat}:SteadyF (ba P aV cf m):=by
 intro f args h r h' hc
 unfold ba at hc
 rw [T9] at hc
 obtain⟨fn,hf,hc⟩:=hc
 rw [T9] at hc
 obtain⟨c,hb,hc⟩:=hc
 split at hc
 rotate_left
 ·cases hc
 rw [T9] at hc
 obtain⟨⟨e,st⟩,hex,hc⟩:=hc
 have:=fF hcf c _ _ _ hex
 cases e with
 | norm=>obtain⟨r',_,h2⟩:=Option.map_some' hc; cases h2; exact this
 | ret=>obtain⟨r',_,h2⟩:=Option.map_some' hc; cases h2; exact this
 | exit id=>cases hc
end
end Go.R
namespace Go.R
open Go
section
variable {P:Program}{cf:CallF}{aE ds:List Nat}{o:Oper}{s s':RS}
theorem Bu {e e':Operand→AV}(h:∀x∈o.op.operands,e x=e' x):xW P cf aE ds e s o=xW P cf aE ds e' s o:=by
 have J3:∀(l:List Operand),(∀x∈l,e x=e' x)→l.map e=l.map e':=fun l hl=>VH hl
 have HF:∀(q:Option Operand),(∀x,q=some x→e x=e' x)→q.map e=q.map e':=by
  intro q hq; cases q with
  | none=>rfl
  | some x=>simp [hq x rfl]
 unfold xW
 cases zz:o.op<;>rw [zz] at h
 case build t ps=>
  have:(ps.toList.map fun (i,x)=>(i,e x))=(ps.toList.map fun (i,x)=>(i,e' x)):=
   VH fun p hp=>by
    have:=h p.2 (by simp only [Op.operands,List.mem_toArray,UO]; exact⟨p,hp,rfl⟩)
    simp [this]
  simp only [this]
 case buildSlice t n ps=>
  have:(ps.toList.map fun (i,x)=>(i,e x))=(ps.toList.map fun (i,x)=>(i,e' x)):=
   VH fun p hp=>by
    have:=h p.2 (by simp only [Op.operands,List.mem_toArray,UO]; exact⟨p,hp,rfl⟩)
    simp [this]
  simp only [this]
 case makeFunc f first cap=>
  have:cap.toList.map e=cap.toList.map e':=J3 _ fun x hx=>h x (by simp only [Op.operands,Array.mem_append]; right; exact U2.1 hx)
  cases f<;>first | rfl | simp only [this]
 case makeMap t r=>cases r<;>rfl
 case slice t x lo hi mx=>
  have h1:e x=e' x:=h x (by simp [Op.operands])
  have h2:=HF lo fun y hy=>h y (by simp [Op.operands,hy])
  have h3:=HF hi fun y hy=>h y (by simp [Op.operands,hy])
  have h4:=HF mx fun y hy=>h y (by simp [Op.operands,hy])
  simp only [h1,h2,h3,h4]
 case call c=>
  obtain⟨callee,args,zw⟩:=c
  have h1:args.toList.map e=args.toList.map e':=J3 _ fun x hx=>h x (by
   simp only [Op.operands,Call.operands]
   cases callee<;>simp<;>first | exact U2.1 hx | (right; exact U2.1 hx) | (left; exact U2.1 hx))
  cases callee with
  | builtin b=>simp only [h1]
  | value f=>
   have h2:e f=e' f:=h f (by simp [Op.operands,Call.operands])
   simp only [h1,h2]
  | invoke r nm=>rfl
 all_goals first
  | rfl
  | (simp [Op.operands] at h; simp [h])
end
theorem n5 (acc:List Nat)(i:Nat):∀(l:List Edge) (m:Nat),(l.foldl (fun m e=>bif Region.binds .any e then m ||| (2 ^ e.on ||| acc.getD e.on 0) else m) m).testBit i=true→
  m.testBit i=true∨∃e∈l,Region.binds .any e=true∧(e.on=i∨(acc.getD e.on 0).testBit i=true)
 | [],m,h=>.inl h
 | e::l,m,h=>by
  rcases n5 acc i l _ h with h1 | ⟨e',he,h1⟩
  ·dsimp only at h1
   cases hb:Region.binds .any e with
   | false=>rw [hb] at h1; exact .inl h1
   | true=>
    rw [hb] at h1
    simp only [cond_true,Nat.testBit_or,UW,Nat.testBit_two_pow,decide_eq_true_eq] at h1
    rcases h1 with h1 | h1 | h1
    ·exact .inl h1
    ·exact .inr ⟨e,by simp,hb,.inl h1⟩
    ·exact .inr ⟨e,by simp,hb,.inr h1⟩
  ·exact .inr ⟨e',by simp [he],h1⟩
theorem pV:∀(l:List Oper) (acc:List Nat),(∀j,j<acc.length→(iU acc l).getD j 0=acc.getD j 0)∧
  ∀j i,((iU acc l).getD j 0).testBit i=true→acc.length≤j→∃o,l[j - acc.length]? = some o∧∃e∈o.after.toList,Region.binds .any e=true∧(e.on=i∨((iU acc l).getD e.on 0).testBit i=true)
 | [],acc=>⟨fun j hj=>rfl,fun j i h hj=>by simp [iU,List.getD,UJ hj] at h⟩
 | o::l,acc=>by
  simp only [iU]
  generalize hm:(o.after.toList.foldl (fun m e=>bif Region.binds .any e then m ||| (2 ^ e.on ||| acc.getD e.on 0) else m) 0)=m
  obtain⟨h1,h2⟩:=pV l (acc++[m])
  have hold:∀j,j<acc.length→(iU (acc++[m]) l).getD j 0=acc.getD j 0:=fun j hj=>by
   rw [h1 j (by simp; omega)]
   simp [List.getD,Ur hj]
  refine⟨hold,fun j i h hj=>?_⟩
  by_cases Rt:j=acc.length
  ·subst Rt
   have:(iU (acc++[m]) l).getD acc.length 0=m:=by
    rw [h1 _ (by simp)]; simp [List.getD]
   rw [this,←hm] at h
   rcases n5 acc i _ _ h with h3 | ⟨e,he,hb,h3⟩
   ·simp at h3
   ·refine⟨o,by simp,e,he,hb,h3.imp id fun h4=>?_⟩
    by_cases hl:e.on<acc.length
    ·rw [hold _ hl]; exact h4
    ·simp [List.getD,UJ (Nat.not_lt.1 hl)] at h4
  ·obtain⟨o',Jm,h3⟩:=h2 j i h (by simp; omega)
   refine⟨o',?_,h3⟩
   rw [show j - acc.length=(j - (acc++[m]).length)+1 by simp; omega]
   simpa using Jm
theorem jX {α:Type}(p:Nat→α→Nat→α→Bool):∀(l:List α) (k:Nat),nN p k l=true→∀i j x y,i<j→l[i]? = some x→l[j]? = some y→p (k+i) x (k+j) y=true
 | [],k,_,i,j,x,y,_,hx,_=>by simp at hx
 | a::l,k,h,i,j,x,y,xK,hx,hy=>by
  simp only [nN,Ud,Uv] at h
  obtain⟨h1,h2⟩:=h
  cases j with
  | zero=>omega
  | succ j=>
   cases i with
   | zero=>
    simp only [UR,Uc] at hx
    subst hx
    have:=h1 (y,k+1+j) (by rw [List.mk_add_mem_zipIdx_iff_getElem?]; simpa using hy)
    simpa [U6,VE 1 j] using this
   | succ i=>
    have:=jX p l (k+1) h2 i j x y (by omega) (by simpa using hx) (by simpa using hy)
    rw [show k+(i+1)=k+1+i by omega,show k+(j+1)=k+1+j by omega]
    exact this
theorem n6:∀(l:List Oper) (k:Nat),qL k l=true→∀i o,l[i]? = some o→∀e∈o.after.toList,Region.binds .any e=true→e.on<k+i
 | [],k,_,i,o,h,_,_,_=>by simp at h
 | a::l,k,h,i,o,ho,e,he,hb=>by
  simp only [qL,Ud,Uv] at h
  obtain⟨h1,h2⟩:=h
  cases i with
  | zero=>
   simp only [UR,Uc] at ho
   subst ho
   have:=h1 e he
   simp only [hb,Vo,Bool.false_or] at this
   exact Nat.blt_eq.mp this
  | succ i=>
   have:=n6 l (k+1) h2 i o (by simpa using ho) e he hb
   omega
theorem n7 {V:Type}{n i:Nat}(hi:i≤n){W:Nat→Prop}{S:Nat→Bool}{m x:Nat→V}(h0:m 0=x 0)(J4:∀k,k<n→W k→S k=true→m (k+1)=x (k+1))(qa:∀k,k<n→(¬W k∨S k=false)→m (k+1)=m k)
  (hx:∀k,k<n→¬W k→x (k+1)=x k) (hS:∀k,k<n→W k→(S k=true↔k<i)):m n=x i:=by
 have key:∀k,k≤n→m k=x (min k i):=by
  intro k
  induction k with
  | zero=>intro _; simpa using h0
  | succ k ih=>
   intro hk
   have ih:=ih (by omega)
   by_cases hw:W k
   ·have hs:=hS k (by omega) hw
    by_cases wk:k<i
    ·rw [J4 k (by omega) hw (hs.2 wk),Vw (by omega)]
    ·have:S k=false:=by
      cases h:S k with
      | false=>rfl
      | true=>exact absurd (hs.1 h) wk
     rw [qa k (by omega) (.inr this),ih,Nat.min_eq_right (by omega),Nat.min_eq_right (by omega)]
   ·rw [qa k (by omega) (.inl hw),ih]
    by_cases wk:k<i
    ·rw [Vw (by omega),Vw (by omega),hx k (by omega) hw]
    ·rw [Nat.min_eq_right (by omega),Nat.min_eq_right (by omega)]
 rw [key n (Ue n),Nat.min_eq_right hi]
open Classical in
theorem uD {V:Type}{n i:Nat}(hi:i<n){W:Nat→Prop}{S S':Nat→Bool}{m m' x:Nat→V}(h0:m' 0=m 0)(J4:∀k,k<n→W k→S k=true→m (k+1)=x (k+1))(qa:∀k,k<n→(¬W k∨S k=false)→m (k+1)=m k)
  (Po:∀k,k<n→W k→S' k=true→m' (k+1)=x (k+1)) (HG:∀k,k<n→(¬W k∨S' k=false)→m' (k+1)=m' k)
  (Bv:∀k,S' k=if k=i then true else S k) (J5:S i=false) (hl:W i→∀j,j<n→i<j→W j→S j=false):m' n=if W i then x (i+1) else m n:=by
 have key:∀k,k≤n→m' k=if i<k∧W i then x (i+1) else m k:=by
  intro k
  induction k with
  | zero=>intro _; simpa using h0
  | succ k ih=>
   intro hk
   have ih:=ih (by omega)
   by_cases wk:k=i
   ·subst wk
    by_cases hw:W k
    ·rw [Po k (by omega) hw (by rw [Bv]; simp),if_pos ⟨by omega,hw⟩]
    ·rw [HG k (by omega) (.inl hw),ih,if_neg (fun h=>hw h.2),if_neg (fun h=>hw h.2),qa k (by omega) (.inl hw)]
   ·have hs:S' k=S k:=by rw [Bv,if_neg wk]
    by_cases hw:W k
    ·cases rC:S k with
     | true=>
      rw [Po k (by omega) hw (hs.trans rC)]
      by_cases Cu:i<k+1∧W i
      ·have:=hl Cu.2 k (by omega) (by omega) hw
       rw [rC] at this; cases this
      ·rw [if_neg Cu,J4 k (by omega) hw rC]
     | false=>
      rw [HG k (by omega) (.inr (hs.trans rC)),ih,qa k (by omega) (.inr rC)]
      by_cases Cu:i<k∧W i
      ·rw [if_pos Cu,if_pos ⟨by omega,Cu.2⟩]
      ·rw [if_neg Cu,if_neg (fun h=>Cu ⟨by omega,h.2⟩)]
    ·rw [HG k (by omega) (.inl hw),ih,qa k (by omega) (.inl hw)]
     by_cases Cu:i<k∧W i
     ·rw [if_pos Cu,if_pos ⟨by omega,Cu.2⟩]
     ·rw [if_neg Cu,if_neg (fun h=>Cu ⟨by omega,h.2⟩)]
 rw [key n (Ue n)]
 by_cases hw:W i
 ·rw [if_pos ⟨hi,hw⟩,if_pos hw]
 ·rw [if_neg (fun h=>hw h.2),if_neg hw]
structure rF (P:Program)(cf:CallF)(aE:List Nat)(ops:Array Oper)(tx:Nat→RS)(ft:Nat→ki)(ord:Nat→Nat→Prop):Prop where
 op:∀k o,ops[k]? = some o→∃w,gE ops.toList (tx k).ρ o=some w∧(if w then ug P cf aE (ops.toList.filterMap (·.dst)) (tx k) o=some (tx (k+1))∧ft k=bc aE (bG (tx k).ρ) o else tx (k+1)=(tx k).set o.dst (.tup [])∧ft k={})
 HH:∀k i,ord k i→∃o,ops[i]? = some o∧∃e∈o.after,Region.binds .any e=true∧(e.on=k∨ord k e.on)
 back:∀i o,ops[i]? = some o→∀e∈o.after,Region.binds .any e=true→e.on<i
 GU:∀i j x y,i≠j→ops[i]? = some x→ops[j]? = some y→ord i j∨ord j i∨∀d,x.dst=some d→d∉y.looksAt ops∧y.dst≠some d
 boxes:∀i j,i<ops.size→j<ops.size→i≠j→ord i j∨ord j i∨(∀k,(ft i).wb=some k→k∉(ft j).rb∧(ft j).wb≠some k)∧((ft i).wh=true→(ft j).wh=false∧∀id∈(ft j).rh,(tx i).h.get id=(tx (i+1)).h.get id)
 Mu:∀i o d,ops[i]? = some o→(ft i).al=true→o.dst=some d→(∀t∈ops.toList.filterMap (·.dst),t≠d→∀off,(tx 0).ρ t≠.lp d off)∧∀j y t,ops[j]? = some y→j≠i→ord i j∨(y.dst=some t→∀off,(tx (j+1)).ρ t≠.lp d off)
section
variable {P:Program}{cf:CallF}{aE:List Nat}{ops:Array Oper}{tx:Nat→RS}{ft:Nat→ki}{ord:Nat→Nat→Prop}
def iO (ops:Array Oper)(k:Nat):Option Nat:=(ops[k]?).bind (·.dst)
def jG (ops:Array Oper)(tx:Nat→RS)(ft:Nat→ki)(S:Nat→Bool):Nat→RS
 | 0=>tx 0
 | k+1=>if S k then (jG ops tx ft S k).shift (ft k) (iO ops k) (tx (k+1)) else jG ops tx ft S k
theorem rF.shift (T:rF P cf aE ops tx ft ord){k:Nat}(hk:k<ops.size):tx (k+1)=(tx k).shift (ft k) (iO ops k) (tx (k+1)):=by
 have ho:ops[k]? = some ops[k]:=by simp [hk]
 obtain⟨w,hw,h⟩:=T.op k _ ho
 have hd:iO ops k=ops[k].dst:=by simp [iO,hk]
 rw [hd]
 cases w with
 | true=>
  simp only [if_true] at h
  obtain⟨h1,h2⟩:=h
  have:=tu (s2:=tx k) (e:=bG (tx k).ρ) h1 (fun _ _=>rfl) (fun _ _=>rfl) (fun _=>rfl) (fun nJ d xH=>by
   unfold ug xW at h1
   dsimp only at h1
   have GV:∀(cs:List AV) (s s':RS),gX s aE (ops.toList.filterMap (·.dst)) ops[k] cs=some s'→aE.contains d=true→qZ d s.ρ ((ops.toList.filterMap (·.dst)).filter fun t=>!Nat.beq t d)=true:=by
    intro cs s s' hb hl
    unfold gX at hb
    simp only [xH,hl,if_true] at hb
    by_cases hn:qZ d s.ρ ((ops.toList.filterMap (·.dst)).filter fun t=>!Nat.beq t d)=true
    ·exact hn
    ·simp [hn] at hb
   unfold bc at nJ
   split at nJ
   ·rename_i t zz
    rw [xH] at nJ
    simp only at nJ
    split at nJ
    ·rename_i hl
     rw [zz] at h1
     simp only [T9] at h1
     obtain⟨z,_,h1⟩:=h1
     exact GV _ _ _ h1 hl
    ·cases nJ
   ·rename_i t x zz
    rw [xH] at nJ
    simp only at nJ
    split at nJ
    ·rename_i hl
     rw [zz] at h1
     exact GV _ _ _ h1 hl
    ·cases nJ
   all_goals first
    | (split at nJ<;>cases nJ)
    | (split at nJ<;>first | cases nJ | (split at nJ<;>cases nJ))
    | cases nJ)
  unfold ug at h1
  rw [h1] at this
  rw [h2]
  exact UX this
 | false=>
  simp only [Um,if_false] at h
  rw [h.1,h.2]
  exact hU (tx k) (tx k) {} _ _ rfl rfl
theorem qO (s2:RS)(f:ki)(d:Option Nat)(s':RS)(t:Nat):(s2.shift f d s').ρ t=if d=some t then s'.ρ t else s2.ρ t:=by
 cases d with
 | none=>simp [RS.shift]
 | some d=>
  simp only [RS.shift,Uc]
  by_cases h:t=d
  ·subst h; simp
  ·rw [if_neg h,if_neg (Ne.symm h)]
theorem n9 (s2:RS)(f:ki)(d:Option Nat)(s':RS)(b:Nat):(s2.shift f d s').bx b=if f.wb=some b then s'.bx b else s2.bx b:=by
 cases hf:f.wb with
 | none=>simp [RS.shift,hf]
 | some k=>
  simp only [RS.shift,hf,Uc]
  by_cases h:b=k
  ·subst h; simp
  ·rw [if_neg h,if_neg (Ne.symm h)]
theorem rF.lt (T:rF P cf aE ops tx ft ord):∀{j k:Nat},ord k j→k<j:=by
 intro j
 induction j using Nat.strongRecOn with
 | _ j ih=>
  intro k h
  obtain⟨o,ho,e,he,hb,h1⟩:=T.HH k j h
  have h2:=T.back j o ho e he hb
  rcases h1 with h1 | h1
  ·omega
  ·have:=ih e.on h2 h1; omega
def pc (ops:Array Oper)(S:Nat→Bool):Prop:=∀j o,ops[j]? = some o→S j=true→∀e∈o.after,Region.binds .any e=true→S e.on=true
theorem rF.down (T:rF P cf aE ops tx ft ord){S:Nat→Bool}(hc:pc ops S):∀{j k:Nat},ord k j→S j=true→S k=true:=by
 intro j
 induction j using Nat.strongRecOn with
 | _ j ih=>
  intro k h hs
  obtain⟨o,ho,e,he,hb,h1⟩:=T.HH k j h
  have h2:=T.back j o ho e he hb
  have h3:=hc j o ho hs e he hb
  rcases h1 with h1 | h1
  ·rw [←h1]; exact h3
  ·exact ih e.on h2 h1 h3
variable {S:Nat→Bool}{i:Nat}{oi:Oper}
theorem rF.before (T:rF P cf aE ops tx ft ord)(hc:pc ops S)(ho:ops[i]? = some oi)(hr:∀e∈oi.after,Region.binds .any e=true→S e.on=true){k:Nat}(h:ord k i):S k=true:=by
 obtain⟨o,Jm,e,he,hb,h1⟩:=T.HH k i h
 rw [ho] at Jm
 cases Jm
 rcases h1 with h1 | h1
 ·rw [←h1]; exact hr e he hb
 ·exact T.down hc h1 (hr e he hb)
theorem rF.iff (T:rF P cf aE ops tx ft ord)(hc:pc ops S)(ho:ops[i]? = some oi)(hr:∀e∈oi.after,Region.binds .any e=true→S e.on=true)(hi:S i=false){k:Nat}(h:ord i k∨ord k i):S k=true↔k<i:=by
 rcases h with h | h
 ·have:=T.lt h
  refine⟨fun hk=>?_,fun _=>by omega⟩
  have:=T.down hc h hk
  rw [hi] at this; cases this
 ·exact⟨fun _=>T.lt h,fun _=>T.before hc ho hr h⟩
theorem uE (t:Nat)(k:Nat)(hd:iO ops k=some t)(hs:S k=true):(jG ops tx ft S (k+1)).ρ t=(tx (k+1)).ρ t:=by
 simp only [jG,hs,if_true,qO,hd]
theorem uF (t:Nat)(k:Nat)(h:¬iO ops k=some t∨S k=false):(jG ops tx ft S (k+1)).ρ t=(jG ops tx ft S k).ρ t:=by
 simp only [jG]
 split
 ·rename_i hs
  rcases h with h | h
  ·rw [qO,if_neg h]
  ·rw [h] at hs; cases hs
 ·rfl
theorem uG (b:Nat)(k:Nat)(hd:(ft k).wb=some b)(hs:S k=true):(jG ops tx ft S (k+1)).bx b=(tx (k+1)).bx b:=by
 simp only [jG,hs,if_true,n9,hd]
theorem uH (b:Nat)(k:Nat)(h:¬(ft k).wb=some b∨S k=false):(jG ops tx ft S (k+1)).bx b=(jG ops tx ft S k).bx b:=by
 simp only [jG]
 split
 ·rename_i hs
  rcases h with h | h
  ·rw [n9,if_neg h]
  ·rw [h] at hs; cases hs
 ·rfl
theorem uI (k:Nat)(hd:(ft k).wh=true)(hs:S k=true):(jG ops tx ft S (k+1)).h=(tx (k+1)).h:=by
 simp only [jG,hs,if_true,RS.shift,hd]
theorem uJ (k:Nat)(h:¬(ft k).wh=true∨S k=false):(jG ops tx ft S (k+1)).h=(jG ops tx ft S k).h:=by
 simp only [jG]
 split
 ·rename_i hs
  rcases h with h | h
  ·simp only [RS.shift]; rw [if_neg h]
  ·rw [h] at hs; cases hs
 ·rfl
theorem rF.Mw (T:rF P cf aE ops tx ft ord)(t:Nat)(k:Nat)(hk:k<ops.size)(h:¬iO ops k=some t):(tx (k+1)).ρ t=(tx k).ρ t:=by
 rw [T.shift hk,qO,if_neg h]
theorem rF.J6 (T:rF P cf aE ops tx ft ord)(b:Nat)(k:Nat)(hk:k<ops.size)(h:¬(ft k).wb=some b):(tx (k+1)).bx b=(tx k).bx b:=by
 rw [T.shift hk,n9,if_neg h]
theorem rF.HI (T:rF P cf aE ops tx ft ord)(k:Nat)(hk:k<ops.size)(h:¬(ft k).wh=true):(tx (k+1)).h=(tx k).h:=by
 rw [T.shift hk]; simp only [RS.shift]; rw [if_neg h]
theorem rF.reads (T:rF P cf aE ops tx ft ord)(hc:pc ops S)(ho:ops[i]? = some oi)(hr:∀e∈oi.after,Region.binds .any e=true→S e.on=true)(hi:S i=false) :
  (∀t∈oi.looksAt ops,(jG ops tx ft S ops.size).ρ t=(tx i).ρ t)∧(∀b∈(ft i).rb,(jG ops tx ft S ops.size).bx b=(tx i).bx b)∧
  (∀id∈(ft i).rh,(jG ops tx ft S ops.size).h.get id=(tx i).h.get id)∧((ft i).wh=true→(jG ops tx ft S ops.size).h=(tx i).h):=by
 have hin:i<ops.size:=(UH.1 ho).1
 have Bi:∀k,k<ops.size→ops[k]? = some ops[k]!:=fun k hk=>by simp [hk]
 have CZ:∀k,k=i→(S k=true↔k<i):=by
  rintro k rfl
  rw [hi]; simp
 refine⟨fun t ht=>?_,fun b hb=>?_,fun id hid=>?_,fun hw=>?_⟩
 ·refine n7 (W:=fun k=>iO ops k=some t) (m:=fun k=>(jG ops tx ft S k).ρ t) (x:=fun k=>(tx k).ρ t) (S:=S) (Nat.le_of_lt hin) rfl (fun k _ h hs=>uE t k h hs) (fun k _ h=>uF t k h) (fun k hk h=>T.Mw t k hk h) (fun k hk h=>?_)
  by_cases wk:k=i
  ·exact CZ k wk
  ·obtain⟨y,hy,HJ⟩:=T9.1 h
   rcases T.GU k i y oi wk hy ho with h1 | h1 | h1
   ·exact T.iff hc ho hr hi (.inr h1)
   ·exact T.iff hc ho hr hi (.inl h1)
   ·exact absurd ht (h1 t HJ).1
 ·refine n7 (W:=fun k=>(ft k).wb=some b) (m:=fun k=>(jG ops tx ft S k).bx b) (x:=fun k=>(tx k).bx b) (S:=S) (Nat.le_of_lt hin) rfl (fun k _ h hs=>uG b k h hs) (fun k _ h=>uH b k h) (fun k hk h=>T.J6 b k hk h) (fun k hk h=>?_)
  by_cases wk:k=i
  ·exact CZ k wk
  ·rcases T.boxes k i hk hin wk with h1 | h1 | h1
   ·exact T.iff hc ho hr hi (.inr h1)
   ·exact T.iff hc ho hr hi (.inl h1)
   ·exact absurd hb (h1.1 b h).1
 ·
  obtain⟨p,hp,JW⟩:∃p,p≤ops.size∧∀k,k<ops.size→(ft k).wh=true→(S k=true↔k<p):=by
   have key:∀m,m≤ops.size→(∀k,k<m→(ft k).wh=true→S k=true)∨∃p,p<m∧(ft p).wh=true∧S p=false∧∀k,k<p→(ft k).wh=true→S k=true:=by
    intro m
    induction m with
    | zero=>intro _; exact .inl fun k hk=>by omega
    | succ m ih=>
     intro hm
     rcases ih (by omega) with h | ⟨p,h1,h2⟩
     ·by_cases hw:(ft m).wh=true∧S m=false
      ·exact .inr ⟨m,by omega,hw.1,hw.2,h⟩
      ·refine .inl fun k hk Pp=>?_
       by_cases Ru:k=m
       ·subst Ru
        cases hs:S k with
        | true=>rfl
        | false=>exact absurd ⟨Pp,hs⟩ hw
       ·exact h k (by omega) Pp
     ·exact .inr ⟨p,by omega,h2⟩
   rcases key ops.size (Ue _) with h | ⟨p,h1,h2,h3,h4⟩
   ·exact⟨ops.size,Ue _,fun k hk hw=>⟨fun _=>hk,fun _=>h k hk hw⟩⟩
   ·refine⟨p,by omega,fun k hk hw=>⟨fun hs=>?_,fun LD=>h4 k LD hw⟩⟩
    rcases Nat.lt_or_ge k p with h5 | h5
    ·exact h5
    ·by_cases LD:k=p
     ·subst LD; rw [h3] at hs; cases hs
     ·rcases T.boxes p k h1 hk (Ne.symm LD) with h6 | h6 | h6
      ·have:=T.down hc h6 hs; rw [h3] at this; cases this
      ·have:=T.lt h6; omega
      ·have:=(h6.2 h2).1; rw [hw] at this; cases this
  have HK:(jG ops tx ft S ops.size).h=(tx p).h:=
   n7 (W:=fun k=>(ft k).wh=true) (m:=fun k=>(jG ops tx ft S k).h) (x:=fun k=>(tx k).h) (S:=S) hp rfl (fun k _ h hs=>uI k h hs) (fun k _ h=>uJ k h) (fun k hk h=>T.HI k hk h) JW
  rw [HK]
  have GW:∀k,k<ops.size→(p≤k∧k<i)∨(i≤k∧k<p)→(tx (k+1)).h.get id=(tx k).h.get id:=by
   intro k hk hb
   by_cases hw:(ft k).wh=true
   ·have hs:=JW k hk hw
    have wk:k≠i:=by
     rintro rfl
     rcases hb with hb | hb
     ·omega
     ·have:=hs.2 hb.2; rw [hi] at this; cases this
    rcases T.boxes k i hk hin wk with h1 | h1 | h1
    ·have hlt:=T.lt h1
     have:=hs.1 (T.before hc ho hr h1)
     omega
    ·have hlt:=T.lt h1
     have:=T.down hc h1 (hs.2 (by omega))
     rw [hi] at this; cases this
    ·exact ((h1.2 hw).2 id hid).symm
   ·rw [T.HI k hk hw]
  have walk:∀a b,a≤b→b≤ops.size→(∀k,a≤k→k<b→(tx (k+1)).h.get id=(tx k).h.get id)→(tx b).h.get id=(tx a).h.get id:=by
   intro a b J7
   induction b with
   | zero=>
     intro _ _; have:a=0:=by omega
     subst this; rfl
   | succ b ih=>
    intro hb hk
    by_cases Mx:a=b+1
    ·subst Mx; rfl
    ·rw [hk b (by omega) (by omega)]
     exact ih (by omega) (by omega) fun k h1 h2=>hk k h1 (by omega)
  rcases Nat.le_total p i with h | h
  ·exact (walk p i h (Nat.le_of_lt hin) fun k h1 h2=>GW k (by omega) (.inl ⟨h1,h2⟩)).symm
  ·exact walk i p h hp fun k h1 h2=>GW k (by omega) (.inr ⟨h1,h2⟩)
 ·refine n7 (W:=fun k=>(ft k).wh=true) (m:=fun k=>(jG ops tx ft S k).h) (x:=fun k=>(tx k).h) (S:=S) (Nat.le_of_lt hin) rfl (fun k _ h hs=>uI k h hs) (fun k _ h=>uJ k h) (fun k hk h=>T.HI k hk h) (fun k hk h=>?_)
  by_cases wk:k=i
  ·exact CZ k wk
  ·rcases T.boxes k i hk hin wk with h1 | h1 | h1
   ·exact T.iff hc ho hr hi (.inr h1)
   ·exact T.iff hc ho hr hi (.inl h1)
   ·have:=(h1.2 h).1; rw [hw] at this; cases this
theorem wo (t:Nat):∀k,(jG ops tx ft S k).ρ t=(tx 0).ρ t∨∃j,j<k∧S j=true∧iO ops j=some t∧(jG ops tx ft S k).ρ t=(tx (j+1)).ρ t
 | 0=>.inl rfl
 | k+1=>by
  by_cases h:iO ops k=some t∧S k=true
  ·exact .inr ⟨k,by omega,h.2,h.1,uE t k h.1 h.2⟩
  ·have h':¬iO ops k=some t∨S k=false:=by
    by_cases h1:iO ops k=some t
    ·right; cases hs:S k with
     | true=>exact absurd ⟨h1,hs⟩ h
     | false=>rfl
    ·exact .inl h1
   rw [uF t k h']
   rcases wo t k with h1 | ⟨j,h1,h2⟩
   ·exact .inl h1
   ·exact .inr ⟨j,by omega,h2⟩
theorem rG {k:Nat}{ρ:Nat→AV}:∀{l:List Nat},(∀t∈l,∀off,ρ t≠.lp k off)→qZ k ρ l=true
 | [],_=>rfl
 | t::l,h=>by
  simp only [qZ,Ud]
  refine⟨?_,rG fun u hu=>h u (by simp [hu])⟩
  have:=h t (by simp)
  split
  ·rename_i j off heq
   simp only [bne_iff_ne,ne_eq]
   rintro rfl
   exact this off heq
  ·rfl
open Classical in
theorem rF.next (T:rF P cf aE ops tx ft ord)(hc:pc ops S)(ho:ops[i]? = some oi)(hr:∀e∈oi.after,Region.binds .any e=true→S e.on=true)(hi:S i=false){S':Nat→Bool}(Bv:∀k,S' k=if k=i then true else S k) :
  lO P cf aE ops.toList (jG ops tx ft S ops.size) oi=some (jG ops tx ft S' ops.size):=by
 have hin:i<ops.size:=(UH.1 ho).1
 obtain⟨h1,h2,h3,h4⟩:=T.reads hc ho hr hi
 obtain⟨w,hw,zz⟩:=T.op i oi ho
 have qd:iO ops i=oi.dst:=by simp [iO,ho]
 have tv:∀j,i<j→j<ops.size→(ord i j∨ord j i)→S j=false:=by
  intro j xK hj h
  cases hs:S j with
  | false=>rfl
  | true=>have:=(T.iff hc ho hr hi h).1 hs; omega
 have HK:jG ops tx ft S' ops.size=(jG ops tx ft S ops.size).shift (ft i) (iO ops i) (tx (i+1)):=by
  refine RS.ext' (fun t=>?_) (fun b=>?_) ?_
  ·rw [qO]
   have:=uD (W:=fun k=>iO ops k=some t) (m:=fun k=>(jG ops tx ft S k).ρ t) (m':=fun k=>(jG ops tx ft S' k).ρ t) (x:=fun k=>(tx k).ρ t) (S:=S) (S':=S') hin rfl
    (fun k _ h hs=>uE t k h hs) (fun k _ h=>uF t k h) (fun k _ h hs=>uE t k h hs) (fun k _ h=>uF t k h) Bv hi (fun Jo j hj xK J8=>by
     obtain⟨y,hy,HJ⟩:=T9.1 J8
     rw [qd] at Jo
     rcases T.GU i j oi y (by omega) ho hy with h | h | h
     ·exact tv j xK hj (.inl h)
     ·exact tv j xK hj (.inr h)
     ·exact absurd HJ (h t Jo).2)
   rw [this]
   by_cases hd:iO ops i=some t
   ·rw [if_pos hd,if_pos hd]
   ·rw [if_neg hd,if_neg hd]
  ·rw [n9]
   have:=uD (W:=fun k=>(ft k).wb=some b) (m:=fun k=>(jG ops tx ft S k).bx b) (m':=fun k=>(jG ops tx ft S' k).bx b) (x:=fun k=>(tx k).bx b) (S:=S) (S':=S') hin rfl
    (fun k _ h hs=>uG b k h hs) (fun k _ h=>uH b k h) (fun k _ h hs=>uG b k h hs) (fun k _ h=>uH b k h) Bv hi (fun Jo j hj xK J8=>by
     rcases T.boxes i j hin hj (by omega) with h | h | h
     ·exact tv j xK hj (.inl h)
     ·exact tv j xK hj (.inr h)
     ·exact absurd J8 (h.1 b Jo).2)
   rw [this]
   by_cases hd:(ft i).wb=some b
   ·rw [if_pos hd,if_pos hd]
   ·rw [if_neg hd,if_neg hd]
  ·have:=uD (W:=fun k=>(ft k).wh=true) (m:=fun k=>(jG ops tx ft S k).h) (m':=fun k=>(jG ops tx ft S' k).h) (x:=fun k=>(tx k).h) (S:=S) (S':=S') hin rfl
    (fun k _ h hs=>uI k h hs) (fun k _ h=>uJ k h) (fun k _ h hs=>uI k h hs) (fun k _ h=>uJ k h) Bv hi (fun Jo j hj xK J8=>by
     rcases T.boxes i j hin hj (by omega) with h | h | h
     ·exact tv j xK hj (.inl h)
     ·exact tv j xK hj (.inr h)
     ·have:=(h.2 Jo).1; rw [J8] at this; cases this)
   rw [this]
   simp only [RS.shift]
   by_cases hd:(ft i).wh=true
   ·rw [if_pos hd,if_pos hd]
   ·rw [if_neg hd,if_neg hd]
 have J9:∀x∈oi.op.operands,bG (jG ops tx ft S ops.size).ρ x=bG (tx i).ρ x:=by
  intro x hx
  cases x with
  | tmp t=>
   refine h1 t ?_
   unfold Oper.looksAt
   rw [UF]
   left
   rw [List.mem_filterMap]
   exact⟨.tmp t,U2.2 hx,rfl⟩
  | _=>rfl
 have Ka:gE ops.toList (jG ops tx ft S ops.size).ρ oi=gE ops.toList (tx i).ρ oi:=by
  unfold gE
  cases hg:oi.guard with
  | none=>rfl
  | some g=>
   obtain⟨g,want⟩:=g
   simp only
   cases hq:(ops.toList[g]?).bind (·.dst) with
   | none=>rfl
   | some d=>
    simp only [Ua]
    rw [h1 d]
    unfold Oper.looksAt
    rw [UF]
    right
    rw [hg]
    simp only
    have:(ops[g]?).bind (·.dst)=some d:=by simpa using hq
    rw [this]
    simp
 unfold lO
 rw [Ka,hw]
 simp only [Ua]
 rw [HK,qd]
 cases w with
 | false=>
  simp only [Um,if_false] at zz ⊢
  rw [zz.1,zz.2]
  congr 1
  exact hU (tx i) _ {} _ _ rfl rfl
 | true=>
  simp only [if_true] at zz ⊢
  obtain⟨zz,Jp⟩:=zz
  unfold ug at zz ⊢
  rw [Bu J9,Jp]
  rw [Jp] at h2 h3 h4
  refine tu zz h2 h3 h4 (fun nJ d xH=>rG fun t ht off he=>?_)
  rw [List.mem_filter] at ht
  obtain⟨Rv,Rw⟩:=ht
  have GN:t≠d:=by simpa [beq_nat] using Rw
  obtain⟨l1,l2⟩:=T.Mu i oi d ho (by rw [Jp]; exact nJ) xH
  rcases wo (ops:=ops) (tx:=tx) (ft:=ft) (S:=S) t ops.size with h | ⟨j,hj,hs,Rx,h⟩
  ·rw [h] at he
   exact l1 t Rv GN off he
  ·rw [h] at he
   obtain⟨y,hy,HJ⟩:=T9.1 Rx
   have hji:j≠i:=by rintro rfl; rw [hi] at hs; cases hs
   rcases l2 j y t hy hji with h5 | h5
   ·have:=T.down hc h5 hs; rw [hi] at this; cases this
   ·exact h5 HJ off he
theorem zA (T:rF P cf aE ops tx ft ord)(kx:∀k,k<ops.size→S k=true):∀k,k≤ops.size→jG ops tx ft S k=tx k
 | 0,_=>rfl
 | k+1,hk=>by
  simp only [jG,kx k (by omega),if_true]
  rw [zA T kx k (by omega)]
  exact (T.shift (by omega)).symm
def left (n:Nat)(S:Nat→Bool):Nat:=(List.range n).countP fun j=>!S j
theorem Bw {n:Nat}{S:Nat→Bool}(h:left n S=0):∀k,k<n→S k=true:=by
 intro k hk
 unfold left at h
 rw [List.countP_eq_zero] at h
 simpa using h k (List.mem_range.2 hk)
theorem C0 {n i:Nat}(hi:i<n){S S':Nat→Bool}(J5:S i=false)(Bv:∀k,S' k=if k=i then true else S k):left n S'+1=left n S:=by
 unfold left
 have:∀m,(List.range m).countP (fun j=>!S' j)+(if i<m then 1 else 0)=(List.range m).countP fun j=>!S j:=by
  intro m
  induction m with
  | zero=>simp
  | succ m ih=>
   rw [List.range_succ,List.countP_append,List.countP_append]
   simp only [List.countP_cons,List.countP_nil]
   by_cases hm:m=i
   ·subst hm
    have h1:S' m=true:=by rw [Bv]; simp
    rw [h1,J5]
    simp at ih ⊢
    omega
   ·have h1:S' m=S m:=by rw [Bv,if_neg hm]
    rw [h1]
    by_cases Pq:i<m
    ·have h3:i<m+1:=by omega
     simp only [Pq,h3,if_true] at ih ⊢
     omega
    ·have h3:¬i<m+1:=by omega
     simp only [Pq,h3,if_false] at ih ⊢
     omega
 have:=this n
 rw [if_pos hi] at this
 exact this
theorem HL (T:rF P cf aE ops tx ft ord)(hcf:CallOK P cf){L0:Nat→Prop}{c0:Cx}{n:Nat}(hb0:c0.base≤c0.w.heap.size)(E9:tq n ops.toList=true){Q:Exit→Act→World→Prop}
  (hQ:∀a' w',Inv L0 c0 n (ops.toList.filterMap (·.dst)) (tx ops.size) a' w'→Q .normal a' w') :
  ∀(fuel:Nat) (dK:Array Bool) (a:Act) (w:World),dK.size=ops.size→pc ops (fun j=>dK.getD j false)→left ops.size (fun j=>dK.getD j false)≤fuel→
   Inv L0 c0 n (ops.toList.filterMap (·.dst)) (jG ops tx ft (fun j=>dK.getD j false) ops.size) a w→wpAny P .any ops Q fuel dK a w:=by
 intro fuel
 have C1:∀(dK:Array Bool) a w,dK.size=ops.size→Region.ready .any ops dK=[]→Inv L0 c0 n (ops.toList.filterMap (·.dst)) (jG ops tx ft (fun j=>dK.getD j false) ops.size) a w→Q .normal a w:=by
  intro dK a w hsz Jq hi
  have kx:∀k,k<ops.size→dK.getD k false=true:=by
   intro k
   induction k using Nat.strongRecOn with
   | _ k ih=>
    intro hk
    cases hl:dK.getD k false with
    | true=>rfl
    | false=>
     have:k∈Region.ready .any ops dK:=mem_ready.2 ⟨getD_in (by omega) hl,ops[k],by simp [hk],fun e he hb=>by
      have:=T.back k ops[k] (by simp [hk]) e he hb
      exact ih e.on this (by omega)⟩
     rw [Jq] at this
     cases this
  rw [zA (S:=fun j=>dK.getD j false) T kx _ (Ue _)] at hi
  exact hQ a w hi
 induction fuel with
 | zero=>
  intro dK a w hsz hc hl hi
  have kx:=Bw (Nat.le_zero.1 hl)
  have Jq:Region.ready .any ops dK=[]:=by
   rw [List.eq_nil_iff_forall_not_mem]
   intro j hj
   obtain⟨h1,o,ho,_⟩:=mem_ready.1 hj
   have My:j<ops.size:=(UH.1 ho).1
   have h2:=kx j My
   have Fe:j<dK.size:=by omega
   simp [Fe] at h1 h2
   rw [h1] at h2; cases h2
  exact⟨Jq,C1 dK a w hsz Jq hi⟩
 | succ fuel ih=>
  intro dK a w hsz hc hl hi
  refine⟨fun Jq=>C1 dK a w hsz Jq hi,fun i FE=>?_⟩
  obtain⟨h1,o,ho,Kb⟩:=mem_ready.1 FE
  have hin:i<ops.size:=(UH.1 ho).1
  have Pt:i<dK.size:=by omega
  have J5:dK.getD i false=false:=by simp [Pt] at h1 ⊢; exact h1
  have Bv:∀k,(dK.setIfInBounds i true).getD k false=if k=i then true else dK.getD k false:=by
   intro k
   by_cases hk:k=i
   ·subst hk
    rw [if_pos rfl]
    simp [Pt]
   ·rw [if_neg hk,getD_set_ne false (Ne.symm hk)]
  have hst:=T.next (S:=fun j=>dK.getD j false) (S':=fun k=>(dK.setIfInBounds i true).getD k false) hc ho Kb J5 Bv
  unfold wpOp
  rw [ho]
  simp only
  have Kc:o∈ops.toList:=U2.2 (Array.mem_of_getElem? ho)
  have:=wa (Q:=Q) (K:=wpAny P .any ops Q fuel (dK.setIfInBounds i true)) hcf hb0 rfl (wc E9 Kc) hst hi (fun a' w' jl=>by
   refine ih _ a' w' (by simpa using hsz) ?_ ?_ jl
   ·intro j oj Mz hj e he hb
    dsimp only at hj ⊢
    rw [Bv] at hj ⊢
    by_cases hji:j=i
    ·subst hji
     rw [ho] at Mz
     cases Mz
     have:=Kb e he hb
     rw [this]; simp
    ·rw [if_neg hji] at hj
     have:=hc j oj Mz hj e he hb
     simp only at this
     rw [this]; simp
   ·have:=C0 hin (S:=fun j=>dK.getD j false) J5 Bv
    omega)
  split
  ·rename_i hw; rw [if_pos hw] at this; exact .inl this
  ·rename_i hw; rw [if_neg hw] at this; exact this
theorem tw {opsL:List Oper}:∀(l:List Oper) (s r:RS) (es:List lD),nO P cf aE opsL s l=some (es,r)→∃tx:Nat→RS,tx 0=s∧tx l.length=r∧
  ∀k o,l[k]? = some o→∃w,gE opsL (tx k).ρ o=some w∧(if w then ug P cf aE (opsL.filterMap (·.dst)) (tx k) o=some (tx (k+1)) else tx (k+1)=(tx k).set o.dst (.tup []))∧
   es[k]? = some {o,f:=if w then bc aE (bG (tx k).ρ) o else {},s:=tx k,s':=tx (k+1)}
 | [],s,r,es,h=>by
  simp only [nO,Uc,Ui] at h
  obtain⟨rfl,rfl⟩:=h
  exact⟨fun _=>s,rfl,rfl,fun k o ho=>by simp at ho⟩
 | o::l,s,r,es,h=>by
  simp only [nO,T9,Ub] at h
  obtain⟨w,hw,s1,h1,⟨pH,r'⟩,h2,h3⟩:=h
  simp only [Ui] at h3
  obtain⟨rfl,rfl⟩:=h3
  obtain⟨tx,t0,tn,ht⟩:=tw l s1 r' pH h2
  refine⟨fun | 0=>s | k+1=>tx k,rfl,tn,fun k o' ho=>?_⟩
  cases k with
  | zero=>
   simp only [UR,Uc] at ho
   subst ho
   refine⟨w,hw,?_,?_⟩
   ·cases w with
    | true=>simpa [t0] using h1
    | false=>
     simp only [Um,if_false,Uc] at h1 ⊢
     rw [t0]; exact h1.symm
   ·simp [t0]
  | succ k=>
   obtain⟨w',h4,h5,h6⟩:=ht k o' (by simpa using ho)
   exact⟨w',h4,h5,by simpa using h6⟩
theorem C2 {e:Operand→AV}{o:Oper}(h:(bc aE e o).al=true):(bc aE e o).wb.isSome=true:=by
 unfold bc at h ⊢
 split at h<;>try (cases h; done)
 all_goals (split at h<;>try (cases h; done))
 all_goals (split at h<;>try (cases h; done))
 all_goals simp_all
theorem Bx {k:Nat}{x:AV}(h:Hp k x=false):∀off,x≠.lp k off:=by
 rintro off rfl
 simp [Hp] at h
theorem wq (hm:P.follows .mixedOrders=true)(hcf:CallOK P cf)(Ry:SteadyF cf):yn P cf:=by
 intro L0 c0 n aE id ops s s' h hb0 E9 a w Q hi hQ
 unfold jk at h
 dsimp only at h
 split at h
 rotate_left
 ·cases h
 rename_i uK
 rw [T9] at h
 obtain⟨⟨es,r⟩,yg,h⟩:=h
 simp only at h
 split at h
 rotate_left
 ·cases h
 rename_i wu
 cases h
 obtain⟨tx,t0,tn,ht⟩:=tw ops.toList s s' es yg
 generalize JF:iU [] ops.toList=ms at uK wu
 have MA:∀k i,(ms.getD i 0).testBit k=true→∃o,ops[i]? = some o∧∃e∈o.after,Region.binds .any e=true∧(e.on=k∨(ms.getD e.on 0).testBit k=true):=by
  intro k i hk
  obtain⟨o,ho,e,he,hb,h1⟩:=(pV ops.toList []).2 i k (by rw [JF]; exact hk) (by simp)
  refine⟨o,by simpa using ho,e,U2.1 he,hb,?_⟩
  rw [JF] at h1
  exact h1
 unfold mD at uK
 simp only [Ud] at uK
 obtain⟨HM,C3⟩:=uK
 let ft:Nat→ki:=fun k=>((es[k]?).map (·.f)).getD {}
 have rj:∀k o,ops[k]? = some o→∃w,gE ops.toList (tx k).ρ o=some w∧(if w then ug P cf aE (ops.toList.filterMap (·.dst)) (tx k) o=some (tx (k+1)) else tx (k+1)=(tx k).set o.dst (.tup []))∧
   es[k]? = some {o,f:=ft k,s:=tx k,s':=tx (k+1)}∧ft k=if w then bc aE (bG (tx k).ρ) o else {}:=by
  intro k o ho
  obtain⟨w,h1,h2,h3⟩:=ht k o (by simpa using ho)
  have Jp:ft k=if w then bc aE (bG (tx k).ρ) o else {}:=by simp only [ft,h3,Ug,U4]
  exact⟨w,h1,h2,by rw [Jp]; exact h3,Jp⟩
 have FE:∀k o,ops[k]? = some o→((⟨o,ft k,tx k,tx (k+1)⟩:lD),k)∈es.zipIdx:=by
  intro k o ho
  obtain⟨w,_,_,h3,_⟩:=rj k o ho
  exact List.mk_mem_zipIdx_iff_getElem?.2 h3
 simp only [Uv,List.mem_filter,Ud] at wu
 have pJ:∀k o,ops[k]? = some o→(ft k).quiet=false→(((⟨o,ft k,tx k,tx (k+1)⟩:lD),k)∈es.zipIdx∧(!(ft k).quiet)=true):=fun k o ho hq=>⟨FE k o ho,by rw [hq]; rfl⟩
 have Bi:∀k,k<ops.size→ops[k]? = some ops[k]!:=fun k hk=>by simp [hk]
 have HN:∀i j x y,ops[i]? = some x→ops[j]? = some y→i≠j→(ft i).quiet=false→(ft j).quiet=false→(ms.getD j 0).testBit i=true∨(ms.getD i 0).testBit j=true∨
   lD.iT ⟨x,ft i,tx i,tx (i+1)⟩ ⟨y,ft j,tx j,tx (j+1)⟩=true:=by
  intro i j x y hx hy xK GX Ff
  rcases Nat.lt_or_ge i j with hlt | hge
  ·have:=(wu _ (pJ i x hx GX)).2 _ (pJ j y hy Ff)
   simp only [UW,Ud] at this
   rcases this with (h1 | h1) | h1
   ·have:=Nat.le_of_ble_eq_true h1; omega
   ·exact .inl h1
   ·exact .inr (.inr h1.1)
  ·have:=(wu _ (pJ j y hy Ff)).2 _ (pJ i x hx GX)
   simp only [UW,Ud] at this
   rcases this with (h1 | h1) | h1
   ·have:=Nat.le_of_ble_eq_true h1; omega
   ·exact .inr (.inl h1)
   ·exact .inr (.inr h1.2)
 have MB:∀id,(tx 0).h.ver id<(tx 0).h.next:=by
  obtain⟨_,c,Lo,lam,_,f,_⟩:=hi
  rw [t0,←f.h]; exact f.rel.ver
 have hst:∀k,k<ops.size→Steady (tx k).h (tx (k+1)).h:=by
  intro k hk
  obtain⟨w,h1,h2,_⟩:=rj k _ (Bi k hk)
  cases w with
  | true=>exact rE Ry (by simpa [ug] using h2)
  | false=>
   simp only [Um,if_false] at h2
   rw [h2,iN]; exact Steady.refl _
 have LF:∀k,k≤ops.size→∀id,(tx k).h.ver id<(tx k).h.next:=by
  intro k
  induction k with
  | zero=>intro _; exact MB
  | succ k ih=>intro hk; exact (hst k (by omega)).wf (ih (by omega))
 have T:rF P cf aE ops tx ft (fun k i=>(ms.getD i 0).testBit k=true):=by
  refine⟨fun k o ho=>?_,MA,fun i o ho e he hb=>?_,fun i j x y xK hx hy=>?_,fun i j hin My xK=>?_,fun i o d ho nJ hd=>?_⟩
  ·obtain⟨w,h1,h2,h3,h4⟩:=rj k o ho
   refine⟨w,h1,?_⟩
   cases w with
   | true=>exact⟨h2,h4⟩
   | false=>exact⟨h2,h4⟩
  ·have:=n6 _ 0 HM i o (by simpa using ho) e (U2.2 he) hb
   omega
  ·have Jr:∀x y:Oper,uh ops x y=true→∀d,x.dst=some d→d∉y.looksAt ops∧y.dst≠some d:=by
    intro x y h d hd
    unfold uh at h
    rw [hd] at h
    simpa using h
   rcases Nat.lt_or_ge i j with hlt | hge
   ·have:=jX _ _ 0 C3 i j x y hlt (by simpa using hx) (by simpa using hy)
    simp only [Uy,UW,Ud] at this
    rcases this with h1 | h1
    ·exact .inl h1
    ·exact .inr (.inr (Jr _ _ h1.1))
   ·have:=jX _ _ 0 C3 j i y x (by omega) (by simpa using hy) (by simpa using hx)
    simp only [Uy,UW,Ud] at this
    rcases this with h1 | h1
    ·exact .inr (.inl h1)
    ·exact .inr (.inr (Jr _ _ h1.2))
  ·cases GX:(ft i).quiet with
   | true=>
    unfold ki.quiet at GX
    simp only [Ud,Option.isNone_iff_eq_none,Vf] at GX
    exact .inr (.inr ⟨fun k hk=>(by rw [GX.1.1.2] at hk; cases hk),fun hk=>(by rw [GX.2] at hk; cases hk)⟩)
   | false=>
    cases Ff:(ft j).quiet with
    | true=>
     unfold ki.quiet at Ff
     simp only [Ud,Option.isNone_iff_eq_none,Vf,List.isEmpty_iff] at Ff
     obtain⟨⟨⟨q1,q2⟩,q3⟩,q4⟩:=Ff
     exact .inr (.inr ⟨fun k hk=>⟨by rw [q1]; simp,by rw [q2]; simp⟩,fun hk=>⟨q4,by rw [q3]; simp⟩⟩)
    | false=>
     rcases HN i j _ _ (Bi i hin) (Bi j My) xK GX Ff with h1 | h1 | h1
     ·exact .inl h1
     ·exact .inr (.inl h1)
     ·refine .inr (.inr ?_)
      unfold lD.iT at h1
      simp only [Ud,UW,Vf,Uv] at h1
      obtain⟨h2,h3⟩:=h1
      refine⟨fun k hk=>?_,fun hk=>?_⟩
      ·rw [hk] at h2
       simpa using h2
      ·rcases h3 with h3 | h3
       ·rw [hk] at h3; cases h3
       ·refine⟨h3.1,fun id hid=>?_⟩
        have hv:=Vb (h3.2 id hid)
        rcases (hst i hin).keep id with⟨_,h5⟩| h5
        ·exact h5.symm
        ·have:=LF i (by omega) id; omega
  ·obtain⟨w,h1,h2,h3,h4⟩:=rj i o ho
   have hq:(ft i).quiet=false:=by
    cases w with
    | false=>rw [h4] at nJ; cases nJ
    | true=>
     rw [h4] at nJ ⊢
     have:=C2 nJ
     unfold ki.quiet
     simp only [if_true] at this ⊢
     cases hwb:(bc aE (bG (tx i).ρ) o).wb with
     | none=>rw [hwb] at this; cases this
     | some k=>simp
   have:=(wu _ (pJ i o ho hq)).1
   unfold qM at this
   simp only [nJ,hd] at this
   simp only [Ud,Uv,UW] at this
   obtain⟨k1,k2⟩:=this
   refine⟨fun t ht GN off=>?_,fun j y t hy hji=>?_⟩
   ·rw [t0]
    exact oW k1 t (by rw [List.mem_filter]; exact⟨ht,by simpa [beq_nat] using GN⟩) off
   ·have:=k2 _ (FE j y hy)
    rcases this with (h5 | h5) | h5
    ·have:=Vb h5; omega
    ·exact .inl h5
    ·right
     intro HJ off
     simp only [lD.out,HJ,Vf] at h5
     exact Bx h5 off
 have hlen:tx ops.size=s':=by simpa using tn
 refine wp_region_any hm ?_
 refine HL T hcf hb0 E9 (fun a' w' jl=>hQ a' w' (by rw [hlen] at jl; exact jl)) ops.size _ _ _ (by simp) ?_ ?_ ?_
 ·intro j o _ hj
  simp only [getD_replicate_false] at hj
  cases hj
 ·unfold left
  exact UT (List.countP_le_length) (by simp)
 ·have CO:∀k,jG ops tx ft (fun j=>(Array.replicate ops.size false).getD j false) k=tx 0:=by
   intro k
   induction k with
   | zero=>rfl
   | succ k ih=>
    rw [jG,getD_replicate_false,if_neg (by simp)]
    exact ih
  rw [CO,t0]
  exact hi.drew
end
end Go.R
namespace Go.R
open Go
section
variable {c d:Cx}{L L':Nat→Prop}
mutual
theorem zB (hw:d.w=c.w)(hbs:d.base≤c.base)(kK:∀b,RO c L b→RO d L' b):∀(x:AV) (v:Value),x.dM=true→VR c L x v→VR d L' x v
 | .any,_,h,_=>by simp [AV.dM] at h
 | .bool _,_,_,h=>h
 | .int _ _,_,_,h=>h
 | .str _,_,_,h=>h
 | .nn,_,_,h=>h
 | .ptr _ _,_,h,_=>by simp [AV.dM] at h
 | .lp _ _,_,h,_=>by simp [AV.dM] at h
 | .fp cs off,v,h,hv=>by
  simp only [AV.dM] at h
  simp only [VR] at hv ⊢
  obtain⟨b,o,rfl,hc⟩:=hv
  exact⟨b,o,rfl,hc.imp id fun ⟨hr,hc⟩=>⟨kK b hr,ny hw hbs kK cs b o h hc⟩⟩
 | .nils,_,_,h=>h
 | .fz cs n ex,v,h,hv=>by
  simp only [AV.dM] at h
  simp only [VR] at hv ⊢
  obtain⟨a,cap,rfl,h1,h2,hs,hc⟩:=hv
  exact⟨a,cap,rfl,h1,h2,hs,hc.imp id fun ⟨b,o,ha,hr,hex,hc⟩=>⟨b,o,ha,kK b hr,fun h=>UT hbs (hex h),ny hw hbs kK cs b o h hc⟩⟩
 | .rs _ _ _ _,_,h,_=>by simp [AV.dM] at h
 | .lC,_,_,h=>h
 | .mp _,_,h,_=>by simp [AV.dM] at h
 | .fn f cap,v,h,hv=>by
  simp only [AV.dM] at h
  simp only [VR] at hv ⊢
  obtain⟨vs,rfl,h1⟩:=hv
  exact⟨vs,rfl,oa hw hbs kK cap vs.toList h h1⟩
 | .nL,_,_,h=>h
 | .agg cs,v,h,hv=>by
  simp only [AV.dM] at h
  simp only [VR] at hv ⊢
  obtain⟨vs,rfl,h1⟩:=hv
  exact⟨vs,rfl,oa hw hbs kK cs vs.toList h h1⟩
 | .tup cs,v,h,hv=>by
  simp only [AV.dM] at h
  simp only [VR] at hv ⊢
  obtain⟨vs,rfl,h1⟩:=hv
  exact⟨vs,rfl,oa hw hbs kK cs vs.toList h h1⟩
theorem oa (hw:d.w=c.w)(hbs:d.base≤c.base)(kK:∀b,RO c L b→RO d L' b):∀(xs:List AV) (vs:List Value),cw xs=true→VRs c L xs vs→VRs d L' xs vs
 | [],[],_,_=>trivial
 | x::xs,v::vs,h,hv=>by
  simp only [cw,Ud] at h
  exact⟨zB hw hbs kK x v h.1 hv.1,oa hw hbs kK xs vs h.2 hv.2⟩
 | [],_::_,_,h=>h.elim
 | _::_,[],_,h=>h.elim
theorem ny (hw:d.w=c.w)(hbs:d.base≤c.base)(kK:∀b,RO c L b→RO d L' b):∀(xs:List AV) (b o:Nat),cw xs=true→Cells c L xs b o→Cells d L' xs b o
 | [],_,_,_,_=>trivial
 | x::xs,b,o,h,hv=>by
  simp only [cw,Ud] at h
  obtain⟨⟨v,h1,h2,h3⟩,h4⟩:=hv
  exact⟨⟨v,by rw [hw]; exact h1,h2,zB hw hbs kK x v h.1 h3⟩,ny hw hbs kK xs b (o+1) h.2 h4⟩
end
mutual
theorem uL (hw:d.w=c.w)(kK:∀b,RO c L b→RO d L' b):∀(x:AV) (v:Value),x.dM=true→VR c L x v→VR d L' x.iS v
 | .any,_,h,_=>by simp [AV.dM] at h
 | .bool _,_,_,h=>h
 | .int _ _,_,_,h=>h
 | .str _,_,_,h=>h
 | .nn,_,_,h=>h
 | .ptr _ _,_,h,_=>by simp [AV.dM] at h
 | .lp _ _,_,h,_=>by simp [AV.dM] at h
 | .fp cs off,v,h,hv=>by
  simp only [AV.dM] at h
  simp only [VR,AV.iS] at hv ⊢
  obtain⟨b,o,rfl,hc⟩:=hv
  refine⟨b,o,rfl,?_⟩
  rcases hc with rfl | ⟨hr,hc⟩
  ·exact .inl rfl
  ·exact .inr ⟨kK b hr,pd hw kK cs b o h hc⟩
 | .nils,v,_,h=>by
  simp only [VR] at h
  simp only [AV.iS,VR]
  exact⟨none,0,h,Ue _,by simp,.inr ⟨trivial,rfl⟩,.inl trivial⟩
 | .fz cs n ex,v,h,hv=>by
  simp only [AV.dM] at h
  simp only [VR,AV.iS] at hv ⊢
  obtain⟨a,cap,rfl,h1,h2,hs,hc⟩:=hv
  refine⟨a,cap,rfl,h1,by simp,hs.imp id fun h=>⟨by rw [h.1]; rfl,h.2⟩,?_⟩
  rcases hc with rfl | ⟨b,o,ha,hr,hex,hc⟩
  ·exact .inl rfl
  ·exact .inr ⟨b,o,ha,kK b hr,by simp,pd hw kK cs b o h hc⟩
 | .rs _ _ _ _,_,h,_=>by simp [AV.dM] at h
 | .lC,_,_,h=>h
 | .mp _,_,h,_=>by simp [AV.dM] at h
 | .fn f cap,v,h,hv=>by
  simp only [AV.dM] at h
  simp only [VR,AV.iS] at hv ⊢
  obtain⟨vs,rfl,h1⟩:=hv
  exact⟨vs,rfl,oc hw kK cap vs.toList h h1⟩
 | .nL,_,_,h=>h
 | .agg cs,v,h,hv=>by
  simp only [AV.dM] at h
  simp only [VR,AV.iS] at hv ⊢
  obtain⟨vs,rfl,h1⟩:=hv
  exact⟨vs,rfl,oc hw kK cs vs.toList h h1⟩
 | .tup cs,v,h,hv=>by
  simp only [AV.dM] at h
  simp only [VR,AV.iS] at hv ⊢
  obtain⟨vs,rfl,h1⟩:=hv
  exact⟨vs,rfl,oc hw kK cs vs.toList h h1⟩
theorem oc (hw:d.w=c.w)(kK:∀b,RO c L b→RO d L' b):∀(xs:List AV) (vs:List Value),cw xs=true→VRs c L xs vs→VRs d L' (dh xs) vs
 | [],[],_,_=>trivial
 | x::xs,v::vs,h,hv=>by
  simp only [cw,Ud] at h
  exact⟨uL hw kK x v h.1 hv.1,oc hw kK xs vs h.2 hv.2⟩
 | [],_::_,_,h=>h.elim
 | _::_,[],_,h=>h.elim
theorem pd (hw:d.w=c.w)(kK:∀b,RO c L b→RO d L' b):∀(xs:List AV) (b o:Nat),cw xs=true→Cells c L xs b o→Cells d L' (dh xs) b o
 | [],_,_,_,_=>trivial
 | x::xs,b,o,h,hv=>by
  simp only [cw,Ud] at h
  obtain⟨⟨v,h1,h2,h3⟩,h4⟩:=hv
  exact⟨⟨v,by rw [hw]; exact h1,h2,uL hw kK x v h.1 h3⟩,pd hw kK xs b (o+1) h.2 h4⟩
end
mutual
theorem pe (hw:d.w=c.w)(kK:∀b,RO c L b→RO d L' b)(hrel:HRel c L)(hid:∀id,Live c.h id→RO d L' (c.β id).1):∀(n:Nat) (x y:AV) (v:Value),b5 c.h n x=some y→VR c L x v→VR d L' y v
 | 0,x,y,v,h,_=>by simp [b5] at h
 | n+1,x,y,v,h,hv=>by
  have MC:(if x.dM then some x.iS else none)=some y→VR d L' y v:=by
   intro h
   split at h
   ·rename_i hn; cases h; exact uL hw kK x v hn hv
   ·cases h
  cases x with
  | ptr id off=>
   simp only [b5,T9] at h
   obtain⟨ob,ho,h⟩:=h
   cases ob with
   | map es=>cases h
   | row t cs=>cases h
   | cells cs=>
    simp only [Ub] at h
    obtain⟨eO,hcs,rfl⟩:=h
    have hl:Live c.h id:=⟨hrel.lt _ _ ho,by simp [ho]⟩
    obtain⟨m,_,_,hc⟩:=hrel.obj _ _ ho
    simp only [VR] at hv ⊢
    obtain⟨_,a,rfl,ha⟩:=hv
    rw [ha hl]
    exact⟨_,_,rfl,.inr ⟨hid id hl,jw hw kK hrel hid n cs eO _ _ hcs hc⟩⟩
  | rs id off len gZ=>
   simp only [b5] at h
   split at h
   ·rename_i hid
    split at h
    rotate_left
    ·cases h
    rename_i hl0
    cases h
    simp only [VR] at hv ⊢
    rcases hv with⟨_,_,_,a,rfl⟩| hv
    ·exact⟨a,0,rfl,Ue _,by simp,.inr ⟨trivial,rfl⟩,.inl trivial⟩
    ·exact absurd hid hv.1
   rename_i jH
   rw [T9] at h
   obtain⟨ob,ho,h⟩:=h
   cases ob with
   | map es=>cases h
   | row t cs=>cases h
   | cells cs=>
    simp only at h
    split at h
    rotate_left
    ·cases h
    rename_i hle
    simp only [Ub] at h
    obtain⟨eO,hcs,rfl⟩:=h
    have hl:Live c.h id:=⟨hrel.lt _ _ ho,by simp [ho]⟩
    obtain⟨m,_,_,hc⟩:=hrel.obj _ _ ho
    simp only [VR] at hv ⊢
    rcases hv with hv | ⟨_,_,a,cap,rfl,h1,h2,h3⟩
    ·exact absurd hv.1 jH
    refine⟨a,cap,rfl,h1,by simp,.inl h2,?_⟩
    rcases h3 hl with⟨h4,_⟩| h4
    ·exact .inr ⟨_,_,h4,hid id hl,by simp,jw hw kK hrel hid n _ eO _ _ hcs ((hc.drop off).take (len*gZ))⟩
    ·left
     have hz:len=0:=by omega
     subst hz
     rw [Nat.zero_mul,List.take_zero] at hcs
     cases n with
     | zero=>simp [bq] at hcs
     | succ n=>simp only [bq,Uc] at hcs; exact hcs.symm
  | agg cs=>
   simp only [b5,Ub] at h
   obtain⟨eO,hcs,rfl⟩:=h
   simp only [VR] at hv ⊢
   obtain⟨vs,rfl,h1⟩:=hv
   exact⟨vs,rfl,hX hw kK hrel hid n cs eO vs.toList hcs h1⟩
  | tup cs=>
   simp only [b5,Ub] at h
   obtain⟨eO,hcs,rfl⟩:=h
   simp only [VR] at hv ⊢
   obtain⟨vs,rfl,h1⟩:=hv
   exact⟨vs,rfl,hX hw kK hrel hid n cs eO vs.toList hcs h1⟩
  | fn f cs=>
   simp only [b5,Ub] at h
   obtain⟨eO,hcs,rfl⟩:=h
   simp only [VR] at hv ⊢
   obtain⟨vs,rfl,h1⟩:=hv
   exact⟨vs,rfl,hX hw kK hrel hid n cs eO vs.toList hcs h1⟩
  | _=>exact MC (by simpa only [b5] using h)
theorem hX (hw:d.w=c.w)(kK:∀b,RO c L b→RO d L' b)(hrel:HRel c L)(hid:∀id,Live c.h id→RO d L' (c.β id).1):∀(n:Nat) (xs ys:List AV) (vs:List Value),bq c.h n xs=some ys→VRs c L xs vs→VRs d L' ys vs
 | 0,xs,ys,vs,h,_=>by simp [bq] at h
 | n+1,[],ys,vs,h,hv=>by
  simp only [bq,Uc] at h
  subst h
  cases vs with
  | nil=>trivial
  | cons v vs=>exact hv.elim
 | n+1,x::xs,ys,vs,h,hv=>by
  simp only [bq,T9,Ub] at h
  obtain⟨y,hy,zs,hz,rfl⟩:=h
  cases vs with
  | nil=>exact hv.elim
  | cons v vs=>exact⟨pe hw kK hrel hid n x y v hy hv.1,hX hw kK hrel hid n xs zs vs hz hv.2⟩
theorem jw (hw:d.w=c.w)(kK:∀b,RO c L b→RO d L' b)(hrel:HRel c L)(hid:∀id,Live c.h id→RO d L' (c.β id).1):∀(n:Nat) (xs ys:List AV) (b o:Nat),bq c.h n xs=some ys→Cells c L xs b o→Cells d L' ys b o
 | 0,xs,ys,b,o,h,_=>by simp [bq] at h
 | n+1,[],ys,b,o,h,hv=>by
  simp only [bq,Uc] at h
  subst h
  trivial
 | n+1,x::xs,ys,b,o,h,hv=>by
  simp only [bq,T9,Ub] at h
  obtain⟨y,hy,zs,hz,rfl⟩:=h
  obtain⟨⟨v,h1,h2,h3⟩,h4⟩:=hv
  exact⟨⟨v,by rw [hw]; exact h1,h2,pe hw kK hrel hid n x y v hy h3⟩,jw hw kK hrel hid n xs zs b (o+1) hz h4⟩
end
mutual
theorem nz (hw:d.w=c.w)(hrel:HRel c L)(hid:∀id,Live c.h id→RO d L' (c.β id).1):∀(n:Nat) (x y:AV) (v:Value),gh c.h n x=some y→VR c L x v→VR d L' y v
 | 0,x,y,v,h,_=>by simp [gh] at h
 | n+1,x,y,v,h,hv=>by
  unfold gh at h
  split at h
  ·cases h; exact hv
  ·cases h; exact hv
  ·cases h; exact hv
  ·cases h; exact hv
  ·cases h; exact hv
  ·cases h; exact hv
  ·cases h
   simp only [VR] at hv ⊢
   exact⟨none,0,hv,Ue _,by simp,.inr ⟨trivial,rfl⟩,.inl trivial⟩
  ·cases h
   simp only [VR] at hv ⊢
   obtain⟨a,cap,rfl,h1,h2,hs,_⟩:=hv
   exact⟨a,cap,rfl,h1,by simp,hs,.inl trivial⟩
  ·rename_i id off len gZ
   split at h
   ·rename_i jH
    split at h
    rotate_left
    ·cases h
    rename_i hl0
    cases h
    simp only [VR] at hv ⊢
    rcases hv with⟨_,_,_,a,rfl⟩| hv
    ·exact⟨a,0,rfl,Ue _,by simp,.inr ⟨trivial,rfl⟩,.inl trivial⟩
    ·exact absurd jH hv.1
   rename_i jH
   rw [T9] at h
   obtain⟨ob,ho,h⟩:=h
   cases ob with
   | map es=>cases h
   | row t cs=>cases h
   | cells cs=>
    simp only at h
    split at h
    rotate_left
    ·cases h
    rename_i hle
    simp only [Ub] at h
    obtain⟨eO,hcs,rfl⟩:=h
    have hl:Live c.h id:=⟨hrel.lt _ _ ho,by simp [ho]⟩
    obtain⟨m,_,_,hc⟩:=hrel.obj _ _ ho
    simp only [VR] at hv ⊢
    rcases hv with hv | ⟨_,_,a,cap,rfl,h1,h2,h3⟩
    ·exact absurd hv.1 jH
    refine⟨a,cap,rfl,h1,by simp,.inl h2,?_⟩
    rcases h3 hl with⟨h4,_⟩| h4
    ·exact .inr ⟨_,_,h4,hid id hl,by simp,lz hw hrel hid n _ eO _ _ hcs ((hc.drop off).take (len*gZ))⟩
    ·left
     have hz:len=0:=by omega
     subst hz
     rw [Nat.zero_mul,List.take_zero] at hcs
     cases n with
     | zero=>simp [dv] at hcs
     | succ n=>simp only [dv,Uc] at hcs; exact hcs.symm
  ·rename_i cs
   simp only [Ub] at h
   obtain⟨eO,hcs,rfl⟩:=h
   simp only [VR] at hv ⊢
   obtain⟨vs,rfl,h1⟩:=hv
   exact⟨vs,rfl,lZ hw hrel hid n cs eO vs.toList hcs h1⟩
  ·rename_i cs
   simp only [Ub] at h
   obtain⟨eO,hcs,rfl⟩:=h
   simp only [VR] at hv ⊢
   obtain⟨vs,rfl,h1⟩:=hv
   exact⟨vs,rfl,lZ hw hrel hid n cs eO vs.toList hcs h1⟩
  ·cases h
theorem lZ (hw:d.w=c.w)(hrel:HRel c L)(hid:∀id,Live c.h id→RO d L' (c.β id).1):∀(n:Nat) (xs ys:List AV) (vs:List Value),dv c.h n xs=some ys→VRs c L xs vs→VRs d L' ys vs
 | 0,xs,ys,vs,h,_=>by simp [dv] at h
 | n+1,[],ys,vs,h,hv=>by
  simp only [dv,Uc] at h
  subst h
  cases vs with
  | nil=>trivial
  | cons v vs=>exact hv.elim
 | n+1,x::xs,ys,vs,h,hv=>by
  simp only [dv,T9,Ub] at h
  obtain⟨y,hy,zs,hz,rfl⟩:=h
  cases vs with
  | nil=>exact hv.elim
  | cons v vs=>exact⟨nz hw hrel hid n x y v hy hv.1,lZ hw hrel hid n xs zs vs hz hv.2⟩
theorem lz (hw:d.w=c.w)(hrel:HRel c L)(hid:∀id,Live c.h id→RO d L' (c.β id).1):∀(n:Nat) (xs ys:List AV) (b o:Nat),dv c.h n xs=some ys→Cells c L xs b o→Cells d L' ys b o
 | 0,xs,ys,b,o,h,_=>by simp [dv] at h
 | n+1,[],ys,b,o,h,hv=>by
  simp only [dv,Uc] at h
  subst h
  trivial
 | n+1,x::xs,ys,b,o,h,hv=>by
  simp only [dv,T9,Ub] at h
  obtain⟨y,hy,zs,hz,rfl⟩:=h
  obtain⟨⟨v,h1,h2,h3⟩,h4⟩:=hv
  exact⟨⟨v,by rw [hw]; exact h1,h2,nz hw hrel hid n x y v hy h3⟩,lz hw hrel hid n xs zs b (o+1) hz h4⟩
end
end
section
variable {P:Program}
theorem FF {cf:CallF}(hcf:CallOK P cf)(deep:Nat):CallOK P fun f args h=>if cw args then (cf f (dh args) bz).bind fun x=>(b5 x.2 deep x.1).map fun r=>(r,h) else cf f args h:=by
 intro f args h r h' hc
 dsimp only at hc
 split at hc
 rotate_left
 ·exact hcf f args h r h' hc
 rename_i vB
 rw [T9] at hc
 obtain⟨⟨x,h1⟩,hx,hc⟩:=hc
 rw [Ub] at hc
 obtain⟨r',hr,he⟩:=hc
 simp only [Ui] at he
 obtain⟨rfl,rfl⟩:=he
 obtain⟨hin,hcall⟩:=hcf f (dh args) bz x h1 hx
 refine⟨hin,fun L0 c vs hh hb0 hrel hargs=>?_⟩
 let L1:Nat→Prop:=fun b=>L0 b∨∃id,Live c.h id∧(c.β id).1=b
 let c0:Cx:=⟨fun _=>(0,0),bz,c.w,c.w.heap.size⟩
 have hnl:∀id,¬Live c0.h id:=fun id hl=>by have:=hl.2; cases this
 have C4:∀b,RO c L0 b→RO c0 L1 b:=fun b hb=>⟨fun id hl=>absurd hl (hnl id),fun h=>by
  rcases h with h | ⟨id,h1,h2⟩
  ·exact hb.2 h
  ·exact hb.1 id h1 h2⟩
 have rH:HRel c0 L1:=⟨fun id o ho=>(by cases ho),fun id o ho=>(by cases ho),fun id _ hl _ _=>absurd hl (hnl id),fun id hl=>absurd hl (hnl id),fun b hb=>by
  rcases hb with h | ⟨id,h1,h2⟩
  ·exact hrel.bd b h
  ·rw [←h2]; exact hrel.block h1,fun id hl=>absurd hl (hnl id),fun _=>Vx⟩
 refine (hcall L1 c0 vs rfl (Ue _) rH (oc (c:=c) (d:=c0) rfl C4 _ _ vB hargs)).mono ?_
 rintro e w' ⟨c1,v,rfl,rfl,Js,hv,hrel1,e1⟩
 let d:Cx:=⟨c.β,c.h,c1.w,c.base⟩
 have hk:∀b,b<c.w.heap.size→c1.w.heap[b]? = c.w.heap[b]?:=fun b hb=>e1.exact b hb
 have ed:Ext c none0 d none0:=⟨Ue _,fun id _ hl=>⟨hl,rfl,gN.len (c:=c) (c':=d) (.inl (hk _ (hrel.block hl)))⟩,e1.size,fun b hb _ _=>.inl (hk b hb),fun b hb=>hk b (Uz hb hb0),rfl,fun id hl=>.inr ⟨id,hl,rfl⟩,fun _ h=>h,fun _ h=>.inl h,e1.os,e1.tape,e1.output⟩
 have hb1:d.base≤c1.base:=by rw [e1.base]; exact hb0
 have MD:∀b,RO c1 L1 b→RO d L0 b:=fun b hb=>⟨fun id hl he=>hb.2 (.inr ⟨id,hl,he⟩),fun h=>hb.2 (.inl h)⟩
 refine⟨d,v,rfl,rfl,hh,?_,⟨hrel.lt,fun id o ho=>?_,hrel.inj,hrel.out,fun b hb=>Uz (hrel.bd b hb) e1.size,hrel.low,hrel.ver⟩,ed⟩
 ·refine pe (c:=c1) (d:=d) (L:=L1) rfl MD hrel1 (fun id hl=>⟨fun jV nG he=>hrel1.out id hl (.inr ⟨jV,nG,he⟩),fun h=>hrel1.out id hl (.inl h)⟩) deep x r' v ?_ hv
  rw [Js]; exact hr
 ·have hl:Live c.h id:=⟨hrel.lt _ _ ho,by rw [ho]; rfl⟩
  have:=(hrel.obj id o ho)
  have h2:=nP.ext (L0:=L0) ed (b:=(c.β id).1) (base:=(c.β id).2) (o:=o) (by rw [gQ]; exact this) (hk _ (hrel.block hl))
  rw [gQ] at h2
  exact h2
theorem od {c:Cx}{L:Nat→Prop}:∀{xs:List AV} {vs:List Value},VRs c L xs vs→VRs c L (xs.map aK) vs
 | [],[],_=>trivial
 | x::_,_::_,h=>⟨by
   unfold aK
   cases hn:x.dM with
   | false=>exact h.1
   | true=>exact uL rfl (fun _ h=>h) x _ hn h.1,od h.2⟩
 | [],_::_,h=>h.elim
 | _::_,[],h=>h.elim
theorem wv {cf:CallF}(hcf:CallOK P cf):CallOK P fun f args h=>cf f (args.map aK) h:=by
 intro f args h r h' hc
 obtain⟨h1,h2⟩:=hcf f _ h r h' hc
 exact⟨h1,fun L0 c vs hh hb0 hrel hargs=>h2 L0 c vs hh hb0 hrel (od hargs)⟩
theorem FG {cf:CallF}(hcf:CallOK P cf)(deep:Nat):CallOK P fun f args h=>(bq h deep args).bind fun as=>(cf f as bz).bind fun x=>(gh x.2 deep x.1).map fun r=>(r,h):=by
 intro f args h r h' hc
 dsimp only at hc
 simp only [T9,Ub,Ui] at hc
 obtain⟨as,has,⟨x,h1⟩,hx,r',hr,rfl,rfl⟩:=hc
 obtain⟨hin,hcall⟩:=hcf f as bz x h1 hx
 refine⟨hin,fun L0 c vs hh hb0 hrel hargs=>?_⟩
 let c0:Cx:=⟨fun _=>(0,0),bz,c.w,c.w.heap.size⟩
 have hnl:∀id,¬Live c0.h id:=fun id hl=>by have:=hl.2; cases this
 have C4:∀b,RO c L0 b→RO c0 L0 b:=fun b hb=>⟨fun id hl=>absurd hl (hnl id),hb.2⟩
 have rH:HRel c0 L0:=⟨fun id o ho=>(by cases ho),fun id o ho=>(by cases ho),fun id _ hl _ _=>absurd hl (hnl id),fun id hl=>absurd hl (hnl id),hrel.bd,fun id hl=>absurd hl (hnl id),fun _=>Vx⟩
 have rI:VRs c0 L0 as vs:=hX (c:=c) (d:=c0) rfl C4 hrel (fun id hl=>⟨fun jV nG=>absurd nG (hnl jV),hrel.out id hl⟩) deep args as vs (by rw [hh]; exact has) hargs
 refine (hcall L0 c0 vs rfl (Ue _) rH rI).mono ?_
 rintro e w' ⟨c1,v,rfl,rfl,Js,hv,hrel1,e1⟩
 let d:Cx:=⟨c.β,c.h,c1.w,c.base⟩
 have hk:∀b,b<c.w.heap.size→c1.w.heap[b]? = c.w.heap[b]?:=fun b hb=>e1.exact b hb
 have ed:Ext c none0 d none0:=⟨Ue _,fun id _ hl=>⟨hl,rfl,gN.len (c:=c) (c':=d) (.inl (hk _ (hrel.block hl)))⟩,e1.size,fun b hb _ _=>.inl (hk b hb),fun b hb=>hk b (Uz hb hb0),rfl,fun id hl=>.inr ⟨id,hl,rfl⟩,fun _ h=>h,fun _ h=>.inl h,e1.os,e1.tape,e1.output⟩
 refine⟨d,v,rfl,rfl,hh,?_,⟨hrel.lt,fun id o ho=>?_,hrel.inj,hrel.out,fun b hb=>Uz (hrel.bd b hb) e1.size,hrel.low,hrel.ver⟩,ed⟩
 ·refine nz (c:=c1) (d:=d) (L:=L0) rfl hrel1 (fun id hl=>⟨fun jV nG he=>?_,hrel1.out id hl⟩) deep x r' v ?_ hv
  ·rcases e1.Fl id hl with h2 | ⟨oR,h2,_⟩
   ·have:=hrel.block nG
    have h3:(c.β jV).1=(c1.β id).1:=he
    have h4:c.w.heap.size≤(c1.β id).1:=h2
    omega
   ·exact absurd h2 (hnl oR)
  ·rw [Js]; exact hr
 ·have hl:Live c.h id:=⟨hrel.lt _ _ ho,by rw [ho]; rfl⟩
  have:=(hrel.obj id o ho)
  have h2:=nP.ext (L0:=L0) ed (b:=(c.β id).1) (base:=(c.β id).2) (o:=o) (by rw [gQ]; exact this) (hk _ (hrel.block hl))
  rw [gQ] at h2
  exact h2
section
variable {c1 d:Cx}{L1:Nat→Prop}{k:Nat}
mutual
theorem rJ (hw:d.w=c1.w)(hn:∀id,id<c1.h.next→id+k<d.h.next)(hl:∀id,Live d.h (id+k)→Live c1.h id∧d.β (id+k)=c1.β id):∀(x y:AV) (v:Value),cG k x=some y→VR c1 L1 x v→VR d L1 y v
 | .any,_,_,h,_=>by simp [cG] at h
 | .bool _,_,_,h,hv=>by simp only [cG,Uc] at h; subst h; exact hv
 | .int _ _,_,_,h,hv=>by simp only [cG,Uc] at h; subst h; exact hv
 | .str _,_,_,h,hv=>by simp only [cG,Uc] at h; subst h; exact hv
 | .nn,_,_,h,hv=>by simp only [cG,Uc] at h; subst h; exact hv
 | .lC,_,_,h,hv=>by simp only [cG,Uc] at h; subst h; exact hv
 | .nL,_,_,h,hv=>by simp only [cG,Uc] at h; subst h; exact hv
 | .nils,_,_,h,hv=>by simp only [cG,Uc] at h; subst h; exact hv
 | .ptr id off,_,_,h,hv=>by
  simp only [cG,Uc] at h
  subst h
  simp only [VR] at hv ⊢
  obtain⟨h1,a,rfl,h2⟩:=hv
  refine⟨hn _ h1,a,rfl,fun ly=>?_⟩
  obtain⟨g1,g2⟩:=hl _ ly
  rw [g2]; exact h2 g1
 | .lp _ _,_,_,h,_=>by simp [cG] at h
 | .fp _ _,_,_,h,_=>by simp [cG] at h
 | .fz _ _ _,_,_,h,_=>by simp [cG] at h
 | .rs id off len z,y,v,h,hv=>by
  simp only [cG] at h
  split at h
  ·rename_i h0
   cases h
   subst h0
   simp only [VR] at hv ⊢
   rcases hv with⟨_,h2,h3,h4⟩| h1
   ·exact .inl ⟨trivial,h2,h3,h4⟩
   ·exact absurd rfl h1.1
  ·rename_i h0
   cases h
   simp only [VR] at hv ⊢
   rcases hv with h1 | ⟨_,h1,a,cap,rfl,h2,h3,h4⟩
   ·exact absurd h1.1 h0
   refine .inr ⟨by omega,hn _ h1,a,cap,rfl,h2,h3,fun ly=>?_⟩
   obtain⟨g1,g2⟩:=hl _ ly
   have:=h4 g1
   rw [g2]
   unfold Cx.len at this ⊢
   rw [hw]; exact this
 | .mp _,_,_,h,_=>by simp [cG] at h
 | .fn _ _,_,_,h,_=>by simp [cG] at h
 | .agg cs,_,v,h,hv=>by
  simp only [cG,Ub] at h
  obtain⟨ys,h1,rfl⟩:=h
  simp only [VR] at hv ⊢
  obtain⟨vs,rfl,h2⟩:=hv
  exact⟨vs,rfl,pf hw hn hl cs ys vs.toList h1 h2⟩
 | .tup cs,_,v,h,hv=>by
  simp only [cG,Ub] at h
  obtain⟨ys,h1,rfl⟩:=h
  simp only [VR] at hv ⊢
  obtain⟨vs,rfl,h2⟩:=hv
  exact⟨vs,rfl,pf hw hn hl cs ys vs.toList h1 h2⟩
theorem pf (hw:d.w=c1.w)(hn:∀id,id<c1.h.next→id+k<d.h.next)(hl:∀id,Live d.h (id+k)→Live c1.h id∧d.β (id+k)=c1.β id):∀(xs ys:List AV) (vs:List Value),b9 k xs=some ys→VRs c1 L1 xs vs→VRs d L1 ys vs
 | [],ys,[],h,_=>by simp only [b9,Uc] at h; subst h; trivial
 | x::xs,ys,v::vs,h,hv=>by
  simp only [b9,T9,Ub] at h
  obtain⟨y,h1,Rz,h2,rfl⟩:=h
  exact⟨rJ hw hn hl x y v h1 hv.1,pf hw hn hl xs Rz vs h2 hv.2⟩
 | [],_,_::_,_,h=>h.elim
 | _::_,_,[],_,h=>h.elim
end
theorem pW (hw:d.w=c1.w)(hn:∀id,id<c1.h.next→id+k<d.h.next)(hl:∀id,Live d.h (id+k)→Live c1.h id∧d.β (id+k)=c1.β id):∀(xs:List AV) (b o:Nat),Cells c1 L1 xs b o→Cells d L1 (eZ k xs) b o
 | [],_,_,_=>trivial
 | x::xs,b,o,h=>by
  obtain⟨⟨v,h1,h2,h3⟩,h4⟩:=h
  unfold eZ
  cases hx:cG k x with
  | none=>trivial
  | some y=>exact⟨⟨v,by rw [hw]; exact h1,h2,rJ hw hn hl x y v hx h3⟩,pW hw hn hl xs b (o+1) h4⟩
end
theorem rK (k:Nat):∀xs:List AV,(eZ k xs).length≤xs.length
 | []=>Ue _
 | x::xs=>by
  unfold eZ
  cases cG k x with
  | none=>exact U5 _
  | some y=>exact Nat.succ_le_succ (rK k xs)
theorem iP {h h1:AHeap}{i:Nat}(hi:i<h.next):(h.dX h1).get i=h.get i∧(h.dX h1).ver i=h.ver i:=by
 have:Nat.blt i h.next=true:=by rw [Nat.blt_eq]; exact hi
 simp only [AHeap.dX,this,cond_true,and_self]
theorem jx {h h1:AHeap}{i:Nat}(hi:h.next≤i):(h.dX h1).get i=(h1.get (i - h.next)).bind (xZ h.next)∧(h.dX h1).ver i=h.next+h1.ver (i - h.next):=by
 have:Nat.blt i h.next=false:=by
  cases hb:Nat.blt i h.next with
  | false=>rfl
  | true=>rw [Nat.blt_eq] at hb; omega
 simp only [AHeap.dX,this,cond_false,and_self]
theorem Steady.dX {h h1:AHeap}(hw:∀id,h1.ver id<h1.next):Steady h (h.dX h1):=by
 refine⟨Nat.le_add_right _ _,fun i=>?_,fun hv i=>?_⟩
 ·by_cases hi:i<h.next
  ·exact .inl ⟨(iP hi).2,(iP hi).1⟩
  ·right; rw [(jx (UE hi)).2]; exact Nat.le_add_right _ _
 ·show _<h.next+h1.next
  by_cases hi:i<h.next
  ·rw [(iP hi).2]; have:=hv i; omega
  ·rw [(jx (UE hi)).2]; have:=hw (i - h.next); omega
theorem C5 {cf:CallF}(hcf:CallOK P cf)(deep:Nat):CallOK P fun f args h=>(bq h deep args).bind fun us=>(cf f us bz).bind fun x=>(cG h.next x.1).map fun r=>(r,h.dX x.2):=by
 intro f args h r h' hc
 dsimp only at hc
 simp only [T9,Ub,Ui] at hc
 obtain⟨us,has,⟨x,h1⟩,hx,r',hr,rfl,rfl⟩:=hc
 obtain⟨hin,hcall⟩:=hcf f us bz x h1 hx
 refine⟨hin,fun L0 c vs hh hb0 hrel hargs=>?_⟩
 let c0:Cx:=⟨fun _=>(0,0),bz,c.w,c.w.heap.size⟩
 have hnl:∀id,¬Live c0.h id:=fun id hl=>by have:=hl.2; cases this
 have C4:∀b,RO c L0 b→RO c0 L0 b:=fun b hb=>⟨fun id hl=>absurd hl (hnl id),hb.2⟩
 have rH:HRel c0 L0:=⟨fun id o ho=>(by cases ho),fun id o ho=>(by cases ho),fun id _ hl _ _=>absurd hl (hnl id),fun id hl=>absurd hl (hnl id),hrel.bd,fun id hl=>absurd hl (hnl id),fun _=>Vx⟩
 have rI:VRs c0 L0 us vs:=hX (c:=c) (d:=c0) rfl C4 hrel (fun id hl=>⟨fun jV nG=>absurd nG (hnl jV),hrel.out id hl⟩) deep args us vs (by rw [hh]; exact has) hargs
 refine (hcall L0 c0 vs rfl (Ue _) rH rI).mono ?_
 rintro e w' ⟨c1,v,rfl,rfl,Js,hv,hrel1,e1⟩
 let d:Cx:=⟨fun i=>if i<c.h.next then c.β i else c1.β (i - c.h.next),c.h.dX c1.h,c1.w,c.base⟩
 have hk:∀b,b<c.w.heap.size→c1.w.heap[b]? = c.w.heap[b]?:=fun b hb=>e1.exact b hb
 have pJ:∀i,i<c.h.next→Live d.h i→Live c.h i:=fun i hi hl=>⟨hi,by have:=hl.2; rw [show d.h.get i=_ from (iP hi).1] at this; exact this⟩
 have GY:∀i,c.h.next≤i→Live d.h i→Live c1.h (i - c.h.next):=fun i hi hl=>by
  have h2:=hl.2
  rw [show d.h.get i=_ from (jx hi).1] at h2
  cases hg:c1.h.get (i - c.h.next) with
  | none=>rw [hg] at h2; cases h2
  | some o=>exact⟨hrel1.lt _ _ hg,by rw [hg]; rfl⟩
 have FH:∀i,i<c.h.next→d.β i=c.β i:=fun i hi=>if_pos hi
 have C6:∀i,c.h.next≤i→d.β i=c1.β (i - c.h.next):=fun i hi=>if_neg (by omega)
 have FI:∀i,Live c1.h i→c.w.heap.size≤(c1.β i).1:=fun i hl=>by
  rcases e1.Fl i hl with h2 | ⟨oR,h2,_⟩
  ·exact h2
  ·exact absurd h2 (hnl oR)
 have ed:Ext c none0 d none0:=⟨Nat.le_add_right _ _,fun id hi hl=>⟨pJ id hi hl,FH id hi,gN.len (c:=c) (c':=d) (.inl (hk _ (hrel.block (pJ id hi hl))))⟩,e1.size,fun b hb _ _=>.inl (hk b hb),fun b hb=>hk b (Uz hb hb0),rfl,fun id hl=>by
  by_cases hi:id<c.h.next
  ·exact .inr ⟨id,pJ id hi hl,by rw [FH id hi]⟩
  ·rw [C6 id (UE hi)]
   exact .inl (FI _ (GY id (UE hi) hl)),fun _ h=>h,fun _ h=>.inl h,e1.os,e1.tape,e1.output⟩
 have gn:∀id,id<c1.h.next→id+c.h.next<d.h.next:=fun id hi=>by show _<c.h.next+c1.h.next; omega
 have gl:∀id,Live d.h (id+c.h.next)→Live c1.h id∧d.β (id+c.h.next)=c1.β id:=fun id hl=>by
  have a:=GY (id+c.h.next) (Nat.le_add_left _ _) hl
  have b:=C6 (id+c.h.next) (Nat.le_add_left _ _)
  rw [Nat.add_sub_cancel] at a b
  exact⟨a,b⟩
 refine⟨d,v,rfl,rfl,?_,?_,⟨fun id o ho=>?_,fun id o ho=>?_,fun id jV hl nG he=>?_,fun id hl=>?_,fun b hb=>Uz (hrel.bd b hb) e1.size,fun id hl=>?_,fun id=>?_⟩,ed⟩
 ·show c.h.dX c1.h=h.dX h1
  rw [hh,Js]
 ·refine rJ (c1:=c1) (d:=d) (k:=c.h.next) rfl gn gl x r' v ?_ hv
  rw [hh]; exact hr
 ·show id<c.h.next+c1.h.next
  by_cases hi:id<c.h.next
  ·omega
  ·rw [show d.h.get id=_ from (jx (UE hi)).1,T9] at ho
   obtain⟨o1,GP,_⟩:=ho
   have:=hrel1.lt _ _ GP
   omega
 ·by_cases hi:id<c.h.next
  ·rw [show d.h.get id=_ from (iP hi).1] at ho
   have hl:Live c.h id:=⟨hi,by rw [ho]; rfl⟩
   have:=(hrel.obj id o ho)
   have h2:=nP.ext (L0:=L0) ed (b:=(c.β id).1) (base:=(c.β id).2) (o:=o) (by rw [gQ]; exact this) (hk _ (hrel.block hl))
   rw [gQ] at h2
   rw [FH id hi]
   exact h2
  ·rw [show d.h.get id=_ from (jx (UE hi)).1,T9] at ho
   obtain⟨o1,GP,ho⟩:=ho
   rw [C6 id (UE hi)]
   cases o1 with
   | map es=>cases ho
   | row t cs=>cases ho
   | cells cs=>
    simp only [xZ,Uc] at ho
    subst ho
    obtain⟨n,g1,g2,g3⟩:=hrel1.obj _ _ GP
    exact⟨n,g1,UT (Nat.add_le_add_left (rK _ _) _) g2,pW (c1:=c1) (d:=d) rfl gn gl cs _ _ g3⟩
 ·by_cases hi:id<c.h.next<;>by_cases jl:jV<c.h.next
  ·rw [FH id hi,FH jV jl] at he
   exact hrel.inj id jV (pJ id hi hl) (pJ jV jl nG) he
  ·rw [FH id hi,C6 jV (UE jl)] at he
   have a:=hrel.block (pJ id hi hl)
   have b:=FI _ (GY jV (UE jl) nG)
   omega
  ·rw [C6 id (UE hi),FH jV jl] at he
   have a:=hrel.block (pJ jV jl nG)
   have b:=FI _ (GY id (UE hi) hl)
   omega
  ·rw [C6 id (UE hi),C6 jV (UE jl)] at he
   have:=hrel1.inj _ _ (GY id (UE hi) hl) (GY jV (UE jl) nG) he
   omega
 ·by_cases hi:id<c.h.next
  ·rw [FH id hi]; exact hrel.out id (pJ id hi hl)
  ·rw [C6 id (UE hi)]; exact hrel1.out _ (GY id (UE hi) hl)
 ·show c.base≤_
  by_cases hi:id<c.h.next
  ·rw [FH id hi]; exact hrel.low id (pJ id hi hl)
  ·rw [C6 id (UE hi)]; exact UT hb0 (FI _ (GY id (UE hi) hl))
 ·show _<c.h.next+c1.h.next
  by_cases hi:id<c.h.next
  ·rw [show d.h.ver id=_ from (iP hi).2]; have:=hrel.ver id; omega
  ·rw [show d.h.ver id=_ from (jx (UE hi)).2]; have:=hrel1.ver (id - c.h.next); omega
theorem kX {T:mV}(pX:IntrOK P T.intr)(m:Nat):∀k,SteadyF (eA P T m k)
 | 0=>fun f args h r h' hc=>by simp [eA] at hc
 | k+1=>fun f args h r h' hc=>by
  have hb:=uC (P:=P) (aV:=T.aV) (m:=m) (kX pX m k)
  simp only [eA] at hc
  split at hc
  ·rename_i g hg
   exact (pX f g hg).2 _ _ _ _ hc
  ·split at hc
   ·split at hc
    ·simp only [T9] at hc
     obtain⟨us,_,x,hx,hc⟩:=hc
     obtain⟨r',_,h2⟩:=Option.map_some' hc
     cases h2
     exact Steady.dX ((hb _ _ _ _ _ hx).wf fun _=>Vx)
    split at hc
    ·rw [T9] at hc
     obtain⟨x,_,hc⟩:=hc
     obtain⟨r',_,h2⟩:=Option.map_some' hc
     cases h2
     exact Steady.refl _
    ·split at hc
     ·rw [T9] at hc
      obtain⟨x,_,hc⟩:=hc
      obtain⟨r',_,h2⟩:=Option.map_some' hc
      cases h2
      exact Steady.refl _
     ·exact hb _ _ _ _ _ hc
   ·exact hb _ _ _ _ _ hc
theorem oe (hP:Fit P){T:mV}(pX:IntrOK P T.intr)(m:Nat):∀k,CallOK P (eA P T m k)
 | 0=>fun f args h r h' hc=>by simp [eA] at hc
 | k+1=>fun f args h r h' hc=>by
  have ih:=oe hP pX m k
  have hb:=wg hP (aV:=T.aV) ih (wq hP.mixed ih (kX pX m k)) m
  simp only [eA] at hc
  split at hc
  ·rename_i g hg
   exact (pX f g hg).1 f args h r h' (by simpa using hc)
  ·split at hc
   ·rename_i deep _
    split at hc
    ·exact C5 hb deep f args h r h' hc
    by_cases vB:cw args=true
    ·exact FF hb deep f args h r h' (by dsimp only; rw [if_pos vB] at hc ⊢; exact hc)
    ·rw [if_neg vB] at hc
     split at hc
     ·rename_i as has
      refine FG hb deep f args h r h' ?_
      dsimp only
      rw [has]
      exact hc
     ·exact wv hb f args h r h' hc
   ·exact wv hb f args h r h' hc
def Kd (P : Program) : Bool := P.funcs.toList.all fun fn => fn.name != "runtime.NumGoroutine" && match fn.body with | some c => jQ fn.ntmps c | none => true
theorem HO (h1:P.follows .mixedOrders=true)(h2:Kd P=true):Fit P:=by
 refine⟨h1,fun f fn c hf hb=>?_⟩
 unfold Kd at h2
 rw [Uv] at h2
 have:=h2 fn (U2.2 (Array.mem_of_getElem? hf))
 rw [hb] at this
 simp only [Ud,bne_iff_ne,ne_eq] at this
 exact⟨this.2,this.1⟩
theorem mH:IntrOK P fun _=>none:=fun f g h=>by cases h
end
end Go.R
