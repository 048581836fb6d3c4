/- Part of the proof: RLocal, RSteady, RDraw, RPure. -/
import Derived.Test.YtmekcfdllhphlaaGreatDoorK2
import Derived.StillTail
set_option linter.unusedVariables false
set_option linter.unusedSimpArgs false
set_option maxRecDepth 100000
open Array renaming getElem?_eq_some_iff → abc, mem_toList_iff → abC
open Bool renaming and_eq_true → aaF, false_eq_true → aaS, or_eq_true → abt, not_eq_true' → ab4
open List renaming mem_append → aaQ, getElem?_eq_none → aa1, mem_map → aba, all_eq_true → abd, getElem?_append_left → abf, getElem?_cons_zero → abk, map_congr_left → abV, mem_filter → ace
open Nat renaming le_refl → aaE, zero_add → aaZ, lt_of_lt_of_le → aa9, le_trans → abj, add_assoc → abl, eq_of_beq_eq_true → abY, min_eq_left → aco
open Ne renaming symm → abZ
open Option renaming bind_some → aaA, bind_eq_some_iff → aaB, map_eq_some_iff → aaC, map_some → aaG, getD_some → aby
open Option.some renaming injEq → aaD, inj → aa2
open Prod.mk renaming injEq → aaJ
namespace Go.R
open Go
def RS.shift (s2:RS)(f:lH)(d:Option Nat)(s':RS):RS:=
 {ρ:=match d with | none=>s2.ρ | some d=>fun t=>if t=d then s'.ρ d else s2.ρ t
  bx:=match f.wb with | none=>s2.bx | some k=>fun t=>if t=k then s'.bx k else s2.bx t
  h:=if f.wh then s'.h else s2.h}
theorem RS.ext' {s t:RS}(h1:∀i,s.ρ i=t.ρ i)(h2:∀i,s.bx i=t.bx i)(h3:s.h=t.h):s=t:=by
 cases s; cases t
 congr
 ·exact funext h1
 ·exact funext h2
theorem je (s s2:RS)(f:lH)(d:Option Nat)(z:AV)(hw:f.wb=none)(hh:f.wh=false):s2.set d z=s2.shift f d (s.set d z):=by
 refine RS.ext' (fun i=>?_) (fun i=>?_) ?_
 ·cases d with
  | none=>rfl
  | some d=>simp only [xu,RS.shift,if_true]
 ·simp only [RS.shift,hw]; cases d<;>rfl
 ·simp only [RS.shift,hh]; cases d<;>rfl
theorem jY (s:RS)(d:Option Nat)(z:AV):(s.set d z).h=s.h:=by cases d<;>rfl
theorem MR (s:RS)(d:Option Nat)(z:AV):(s.set d z).bx=s.bx:=by cases d<;>rfl
theorem He (s:RS)(k i:Nat)(cs:List AV):(s.box k cs).bx i=if i=k then some cs else s.bx i:=by
 simp only [RS.box,beq_nat]
 by_cases h:i=k<;>simp [h]
theorem il (s s2:RS)(f:lH)(d:Option Nat)(z:AV)(h':AHeap)(hw:f.wb=none)(hh:f.wh=true):({s2 with h:=h'}:RS).set d z=s2.shift f d (({s with h:=h'}:RS).set d z):=by
 refine RS.ext' (fun i=>?_) (fun i=>?_) ?_
 ·cases d with
  | none=>rfl
  | some d=>simp only [xu,RS.shift,if_true]
 ·simp only [RS.shift,hw]; cases d<;>rfl
 ·simp only [RS.shift,hh]; cases d<;>rfl
theorem FD (s s2:RS)(f:lH)(k:Nat)(cs:List AV)(hw:f.wb=some k)(hh:f.wh=false):s2.box k cs=s2.shift f none (s.box k cs):=by
 refine RS.ext' (fun i=>rfl) (fun i=>?_) ?_
 ·simp only [He,RS.shift,hw,if_true]
 ·simp only [RS.shift,hh]; rfl
section
variable {P:Program}{cf:CallF}{aN ds:List Nat}{o:Oper}{s s' s2:RS}
theorem qd {cs:List AV}{f:lH}(h:iY s aN ds o cs=some s')(hf:f=(match o.dst with
  | some d=>if aN.contains d then {wb:=some d,al:=true} else {wh:=true}
  | none=>{})) (hh:f.wh=true→s2.h=s.h) (pO:f.al=true→∀d,o.dst=some d→uM d s2.ρ (ds.filter fun t=>!Nat.beq t d)=true) :
  iY s2 aN ds o cs=some (s2.shift f o.dst s'):=by
 unfold iY at h ⊢
 split at h
 rotate_left
 ·cases h
 rename_i pV
 rw [if_pos pV]
 cases hd:o.dst with
 | none=>rw [hd] at h; cases h
 | some d=>
  rw [hd] at h hf
  simp only at h hf ⊢
  by_cases hl:aN.contains d=true
  ·rw [if_pos hl] at h hf ⊢
   subst hf
   split at h
   rotate_left
   ·cases h
   cases h
   rw [if_pos (pO rfl d hd)]
   congr 1
   refine RS.ext' (fun i=>?_) (fun i=>?_) ?_
   ·simp only [xu,RS.shift,if_true]; rfl
   ·simp only [MR,He,RS.shift,if_true]
   ·simp only [jY,RS.shift]; rfl
  ·rw [if_neg hl] at h hf ⊢
   subst hf
   cases h
   rw [hh rfl]
   congr 1
   exact il s s2 {wh:=true} (some d) _ _ rfl rfl
theorem xL {e:Operand→AV}(h:Cp P cf aN ds e s o=some s')(hb:∀k∈(bo aN e o).rb,s2.bx k=s.bx k)(hr:∀id∈(bo aN e o).rh,s2.h.get id=s.h.get id)
  (hh:(bo aN e o).wh=true→s2.h=s.h) (pO:(bo aN e o).al=true→∀d,o.dst=some d→uM d s2.ρ (ds.filter fun t=>!Nat.beq t d)=true) :
  Cp P cf aN ds e s2 o=some (s2.shift (bo aN e o) o.dst s'):=by
 have ep:∀{x x2:Option AV} (f:lH),(x.map fun x=>s.set o.dst x)=some s'→(x2=x)→f.wb=none→f.wh=false→(x2.map fun x=>s2.set o.dst x)=some (s2.shift f o.dst s'):=by
  intro x x2 f hx h2 h3 h4
  obtain⟨z,rfl,rfl⟩:=Option.map_some' hx
  subst h2
  simp only [aaG]
  rw [←je s s2 f o.dst z h3 h4]
 have AD:∀{α:Type} {x x2:Option α} (f:lH) (g:α→AV) (k:α→AHeap),(x.map fun y=>({s with h:=k y}:RS).set o.dst (g y))=some s'→(x2=x)→f.wb=none→f.wh=true→
   (x2.map fun y=>({s2 with h:=k y}:RS).set o.dst (g y))=some (s2.shift f o.dst s'):=by
  intro α x x2 f g k hx h2 h3 h4
  obtain⟨z,rfl,rfl⟩:=Option.map_some' hx
  subst h2
  simp only [aaG]
  rw [←il s s2 f o.dst (g z) (k z) h3 h4]
 unfold Cp at h ⊢
 dsimp only at h ⊢
 split at h
 ·rename_i x ho; cases h; simp only [aaD]; exact je s s2 _ _ _ (by simp [bo,ho]) (by simp [bo,ho])
 ·rename_i x ho; cases h; simp only [aaD]; exact je s s2 _ _ _ (by simp [bo,ho]) (by simp [bo,ho])
 ·rename_i k x y ho
  obtain⟨t,ht,rfl⟩:=Option.map_some' h
  simp only [ht,aaG,aaD]
  exact je s s2 _ _ _ (by simp [bo,ho]) (by simp [bo,ho])
 ·rename_i t ho
  rw [aaB] at h
  obtain⟨z,hz,h⟩:=h
  simp only [hz,aaA]
  exact qd h (by simp only [bo,ho]; rfl) hh pO
 ·rename_i t x ho
  exact qd h (by simp only [bo,ho]; rfl) hh pO
 ·rename_i t ps ho; exact ep _ h rfl (by simp [bo,ho]) (by simp [bo,ho])
 ·rename_i t k ps ho
  obtain⟨z,hz,rfl⟩:=Option.map_some' h
  simp only [hz,aaG,aaD]
  have hf:bo aN e o=(match o.dst with | some d=>if aN.contains d then {wh:=true} else {} | none=>{}):=by simp only [bo,ho]; rfl
  unfold rL
  cases MK:pn P aN o t z with
  | none=>
   simp only
   cases hd:o.dst with
   | none=>rw [hd] at hf; rw [hf]; exact je s s2 _ none _ rfl rfl
   | some d=>
    rw [hd] at hf
    simp only at hf
    by_cases hl:aN.contains d=true
    ·rw [if_pos hl] at hf
     have h2:=hh (by rw [hf])
     rw [hf]
     have h3:=il s s2 {wh:=true} (some d) z s2.h rfl rfl
     refine h3.trans ?_
     rw [h2]
    ·rw [if_neg hl] at hf
     rw [hf]; exact je s s2 _ _ _ rfl rfl
  | some q=>
   obtain⟨d,hd,hl⟩:∃d,o.dst=some d∧aN.contains d=true:=by
    unfold pn at MK
    split at MK
    ·rename_i d _ _ _ hd
     refine⟨d,hd,?_⟩
     cases hc:aN.contains d with
     | false=>rw [hc] at MK; cases MK
     | true=>rfl
    ·cases MK
   rw [hd] at hf
   simp only [hl,if_true] at hf
   rw [hf] at hh ⊢
   simp only [hh rfl]
   exact il s s2 _ _ _ _ rfl rfl
 ·
  rename_i t x ho
  have hf:bo aN e o=(match e x with | .lp k _=>{rb:=[k]} | .ptr id _=>{rh:=[id]} | _=>{}):=by simp only [bo,ho]; rfl
  refine ep _ h ?_ ?_ ?_
  ·rw [hf] at hb hr
   unfold jV
   cases hx:e x<;>rw [hx] at hb hr<;>try rfl
   ·simp only; rw [hr _ (by simp)]
   ·simp only; rw [hb _ (by simp)]
  ·rw [hf]; cases e x<;>rfl
  ·rw [hf]; cases e x<;>rfl
 ·
  rename_i t x y ho
  have hf:bo aN e o=(match e x with | .lp k _=>{rb:=[k],wb:=some k} | _=>{wh:=true}):=by simp only [bo,ho]; rfl
  try simp only at h ⊢
  split at h
  ·cases h
  rename_i hd
  rw [if_neg hd]
  have FB:o.dst=none:=by simpa using hd
  cases hx:e x<;>rw [hx] at h hf<;>simp only at h hf ⊢<;>try (cases h; done)
  ·rename_i id off
   rw [hf] at hh ⊢
   rw [aaB] at h
   obtain⟨ob,hob,h⟩:=h
   rw [hh rfl,hob]
   cases ob with
   | map es=>cases h
   | row t cs=>cases h
   | cells cs=>
    obtain⟨fU,hcs,rfl⟩:=Option.map_some' h
    simp only [aaA,hcs,aaG,FB,aaD]
    exact il s s2 {wh:=true} none .any _ rfl rfl
  ·rename_i k off
   rw [hf] at hb ⊢
   rw [aaB] at h
   obtain⟨cs,hcs,h⟩:=h
   rw [hb k (by simp),hcs]
   obtain⟨fU,SY,rfl⟩:=Option.map_some' h
   simp only [aaA,SY,aaG,FB,aaD]
   exact FD s s2 _ k fU rfl rfl
 ·rename_i ho; exact ep _ h rfl (by simp [bo,ho]) (by simp [bo,ho])
 ·rename_i ho; exact ep _ h rfl (by simp [bo,ho]) (by simp [bo,ho])
 ·rename_i ho; exact ep _ h rfl (by simp [bo,ho]) (by simp [bo,ho])
 ·
  rename_i a b x ho
  have hf:bo aN e o=(match e x with | .rs id _ _ _=>{rh:=[id]} | _=>{}):=by simp only [bo,ho]; rfl
  refine ep _ h ?_ ?_ ?_
  ·have hc:dT s2.h 1 (e x)=dT s.h 1 (e x):=by
    rw [hf] at hr
    unfold dT
    cases hx:e x<;>rw [hx] at hr<;>try rfl
    simp only; rw [hr _ (by simp)]
   unfold eu
   rw [hc]
  ·rw [hf]; cases e x<;>rfl
  ·rw [hf]; cases e x<;>rfl
 ·rename_i CG first cap ho
  try simp only
  split at h
  ·rename_i hc
   rw [if_pos hc]
   exact ep _ h rfl (by simp [bo,ho]) (by simp [bo,ho])
  ·cases h
 ·rename_i ho
  have hf:(bo aN e o).wh=true:=by simp [bo,ho]
  cases h
  simp only [hh hf,aaD]
  exact il s s2 _ _ _ _ (by simp [bo,ho]) hf
 ·rename_i t l c ho
  have hf:(bo aN e o).wh=true:=by simp [bo,ho]
  exact AD _ (fun y:AV × AHeap=>y.1) (fun y=>y.2) h (by simp only [hh hf]) (by simp [bo,ho]) hf
 ·rename_i ho; exact ep _ h rfl (by simp [bo,ho]) (by simp [bo,ho])
 ·rename_i ho; exact ep _ h rfl (by simp [bo,ho]) (by simp [bo,ho])
 ·rename_i ho; exact ep _ h rfl (by simp [bo,ho]) (by simp [bo,ho])
 ·rename_i ho; exact ep _ h rfl (by simp [bo,ho]) (by simp [bo,ho])
 ·rename_i ho; exact ep _ h rfl (by simp [bo,ho]) (by simp [bo,ho])
 ·
  rename_i t m k ok ho
  have hf:bo aN e o=(match e m with | .mp id=>{rh:=[id]} | _=>{}):=by simp only [bo,ho]; rfl
  refine ep _ h ?_ ?_ ?_
  ·rw [hf] at hr
   unfold gz
   cases hx:e m<;>rw [hx] at hr<;>try rfl
   simp only; rw [hr _ (by simp)]
  ·rw [hf]; cases e m<;>rfl
  ·rw [hf]; cases e m<;>rfl
 ·rename_i t m k x ho
  have hf:(bo aN e o).wh=true:=by simp [bo,ho]
  try simp only at h ⊢
  split at h
  ·cases h
  rename_i hd
  rw [if_neg hd]
  have FB:o.dst=none:=by simpa using hd
  obtain⟨h',hm,rfl⟩:=Option.map_some' h
  simp only [hh hf,hm,aaG,FB,aaD]
  exact il s s2 _ none .any _ (by simp [bo,ho]) hf
 ·rename_i t m k x ho
  have hf:(bo aN e o).wh=true:=by simp [bo,ho]
  try simp only at h ⊢
  split at h
  ·cases h
  rename_i hd
  rw [if_neg hd]
  have FB:o.dst=none:=by simpa using hd
  obtain⟨h',hm,rfl⟩:=Option.map_some' h
  simp only [hh hf,hm,aaG,FB,aaD]
  exact il s s2 _ none .any _ (by simp [bo,ho]) hf
 ·rename_i ho; exact ep _ h rfl (by simp [bo,ho]) (by simp [bo,ho])
 ·
  rename_i b args DR ho
  try simp only
  unfold ie at h ⊢
  generalize hargs:args.toList.map e=as at h ⊢
  generalize DR.toList=ts at h ⊢
  split at h
  ·rename_i t x
   try simp only
   have hf:bo aN e o=(match x with | .mp id=>{rh:=[id]} | _=>{}):=by
    simp only [bo,ho,hargs]
    cases x<;>rfl
   refine ep _ h ?_ ?_ ?_
   ·rw [hf] at hr
    unfold uK
    cases x<;>try rfl
    simp only; rw [hr _ (by simp)]
   ·rw [hf]; cases x<;>rfl
   ·rw [hf]; cases x<;>rfl
  ·try simp only
   have hf:(bo aN e o).wh=true∧(bo aN e o).wb=none:=by simp only [bo,ho,hargs]; simp
   exact AD _ (fun y:AV × AHeap=>y.1) (fun y=>y.2) h (by simp only [hh hf.1]) hf.2 hf.1
  ·try simp only
   have hf:(bo aN e o).wh=true∧(bo aN e o).wb=none:=by simp only [bo,ho,hargs]; simp
   exact AD _ (fun y:AV × AHeap=>y.1) (fun y=>y.2) h (by simp only [hh hf.1]) hf.2 hf.1
  ·try simp only
   have hf:(bo aN e o).wh=true∧(bo aN e o).wb=none:=by simp only [bo,ho,hargs]; simp
   exact AD _ (fun _:AHeap=>.tup []) (fun y=>y) h (by simp only [hh hf.1]) hf.2 hf.1
  ·try simp only
   rw [aaB] at h
   obtain⟨v,hv,h⟩:=h
   rw [aaB] at h
   obtain⟨vs,GM,h⟩:=h
   rw [aaB] at h
   obtain⟨u,hu,h⟩:=h
   simp only [hv,GM,hu,aaA]
   exact ep _ h rfl (by simp [bo,ho]) (by simp [bo,ho])
  ·try simp only
   rw [aaB] at h
   obtain⟨v,hv,h⟩:=h
   rw [aaB] at h
   obtain⟨vs,GM,h⟩:=h
   rw [aaB] at h
   obtain⟨u,hu,h⟩:=h
   simp only [hv,GM,hu,aaA]
   exact ep _ h rfl (by simp [bo,ho]) (by simp [bo,ho])
  ·cases h
 ·
  rename_i fx args DR ho
  have hf:(bo aN e o).wh=true∧(bo aN e o).wb=none:=by simp [bo,ho]
  try simp only
  cases hx:e fx<;>rw [hx] at h<;>simp only at h ⊢<;>try (cases h; done)
  rename_i CG cap
  split at h
  ·rename_i ha
   rw [if_pos ha]
   exact AD _ (fun y:AV × AHeap=>y.1) (fun y=>y.2) h (by simp only [hh hf.1]) hf.2 hf.1
  ·cases h
 ·cases h
end
end Go.R
namespace Go.R
open Go
def SteadyF (cf:CallF):Prop:=∀f args h r h',cf f args h=some (r,h')→Steady h h'
section
variable {P:Program}{cf:CallF}{aN ds:List Nat}{o:Oper}{s s':RS}
theorem u7 {h h':AHeap}{t t2:TypeId}{x y z:AV}(hh:fu P h t t2 x y=some (z,h')):Steady h h':=by
 unfold fu at hh
 rw [aaB] at hh
 obtain⟨d,_,hh⟩:=hh
 cases d<;>simp only at hh<;>try (cases hh; done)
 rw [aaB] at hh
 obtain⟨i,_,hh⟩:=hh
 rw [aaB] at hh
 obtain⟨⟨new,m⟩,_,hh⟩:=hh
 simp only at hh
 split at hh
 ·cases hh
 split at hh
 ·split at hh
  ·cases hh
  ·split at hh<;>cases hh
   ·exact Steady.refl _
   ·exact Steady.put _ _ _
 ·split at hh
  ·cases hh
  ·split at hh
   ·split at hh<;>cases hh<;>exact Steady.refl _
   ·cases hh; exact Steady.put _ _ _
 ·split at hh
  ·split at hh
   ·cases hh
   ·split at hh<;>cases hh
    ·exact Steady.refl _
    ·exact Steady.put _ _ _
  rw [aaB] at hh
  obtain⟨ob,_,hh⟩:=hh
  cases ob with
  | map es=>cases hh
  | row t cs=>cases hh
  | cells cs=>
   simp only at hh
   split at hh
   ·cases hh
   ·split at hh<;>cases hh
    ·exact Steady.refl _
    ·exact (Steady.kill _ _).trans (Steady.put _ _ _)
 ·cases hh
theorem yR {h h':AHeap}{t t2:TypeId}{x y z:AV}(hh:xt P h t t2 x y=some (z,h')):Steady h h':=by
 unfold xt at hh
 rw [aaB] at hh
 obtain⟨d,_,hh⟩:=hh
 cases d<;>simp only at hh<;>try (cases hh; done)
 rw [aaB] at hh
 obtain⟨i,_,hh⟩:=hh
 rw [aaB] at hh
 obtain⟨⟨new,m⟩,_,hh⟩:=hh
 simp only at hh
 split at hh
 ·cases hh
 split at hh
 ·split at hh
  ·split at hh<;>cases hh
   exact Steady.refl _
  rw [aaB] at hh
  obtain⟨ob,_,hh⟩:=hh
  cases ob with
  | map es=>cases hh
  | row t cs=>cases hh
  | cells cs=>
   simp only at hh
   split at hh<;>cases hh
   exact Steady.put _ _ _
 ·split at hh<;>cases hh
  exact Steady.refl _
 ·cases hh
theorem w6 {h h':AHeap}{t:TypeId}{x:AV}(hh:uL P h t x=some h'):Steady h h':=by
 unfold uL at hh
 rw [aaB] at hh
 obtain⟨d,_,hh⟩:=hh
 cases x<;>simp only at hh<;>try (cases hh; done)
 ·cases hh; exact Steady.refl _
 ·rw [aaB] at hh
  obtain⟨ob,_,hh⟩:=hh
  cases ob with
  | cells cs=>cases hh
  | row t cs=>cases hh
  | map es=>cases hh; exact Steady.put _ _ _
theorem nw {h h':AHeap}{t:TypeId}{x y z:AV}(hh:jq P h t x y z=some h'):Steady h h':=by
 unfold jq at hh
 rw [aaB] at hh
 obtain⟨d,_,hh⟩:=hh
 cases d<;>simp only at hh<;>try (cases hh; done)
 split at hh
 ·cases hh
 cases x<;>simp only at hh<;>try (cases hh; done)
 rw [aaB] at hh
 obtain⟨ob,_,hh⟩:=hh
 cases ob with
 | cells cs=>cases hh
 | row t cs=>cases hh
 | map es=>
  obtain⟨sR,_,rfl⟩:=Option.map_some' hh
  exact Steady.put _ _ _
theorem qe {h h':AHeap}{t:TypeId}{x y z:AV}(hh:ic P h t x y=some (z,h')):Steady h h':=by
 unfold ic at hh
 split at hh
 ·rw [aaB] at hh
  obtain⟨d,_,hh⟩:=hh
  cases d<;>simp only at hh<;>try (cases hh; done)
  rw [aaB] at hh
  obtain⟨i,_,hh⟩:=hh
  rw [aaB] at hh
  obtain⟨z,_,hh⟩:=hh
  split at hh<;>cases hh
  exact Steady.put _ _ _
 ·cases hh
theorem oU {cs:List AV}(h:iY s aN ds o cs=some s'):Steady s.h s'.h:=by
 unfold iY at h
 split at h
 rotate_left
 ·cases h
 split at h
 ·split at h
  ·split at h<;>cases h
   rw [jY]; exact Steady.refl _
  ·cases h
   rw [jY]; exact Steady.put _ _ _
 ·cases h
theorem u9 (hcf:SteadyF cf){e:Operand→AV}(h:Cp P cf aN ds e s o=some s'):Steady s.h s'.h:=by
 have ep:∀{x:Option AV},(x.map fun x=>s.set o.dst x)=some s'→Steady s.h s'.h:=by
  intro x hx
  obtain⟨z,rfl,rfl⟩:=Option.map_some' hx
  rw [jY]; exact Steady.refl _
 unfold Cp at h
 dsimp only at h
 split at h
 ·cases h; rw [jY]; exact Steady.refl _
 ·cases h; rw [jY]; exact Steady.refl _
 ·obtain⟨z,_,rfl⟩:=Option.map_some' h; rw [jY]; exact Steady.refl _
 ·rw [aaB] at h
  obtain⟨z,_,h⟩:=h
  exact oU h
 ·exact oU h
 ·exact ep h
 ·obtain⟨z,hz,rfl⟩:=Option.map_some' h
  unfold rL
  split
  ·rw [jY]; exact Steady.refl _
  ·rw [jY]; exact Steady.put _ _ _
 ·exact ep h
 ·split at h
  ·cases h
  split at h
  ·rw [aaB] at h
   obtain⟨cs,_,h⟩:=h
   obtain⟨z,_,rfl⟩:=Option.map_some' h
   exact Steady.refl _
  ·rw [aaB] at h
   obtain⟨ob,_,h⟩:=h
   cases ob with
   | map es=>cases h
   | row t cs=>cases h
   | cells cs=>
    obtain⟨z,_,rfl⟩:=Option.map_some' h
    exact Steady.put _ _ _
  ·cases h
 ·exact ep h
 ·exact ep h
 ·exact ep h
 ·exact ep h
 ·split at h
  ·exact ep h
  ·cases h
 ·cases h; rw [jY]; exact Steady.put _ _ _
 ·obtain⟨⟨z,h'⟩,hz,rfl⟩:=Option.map_some' h
  rw [jY]; exact qe hz
 ·exact ep h
 ·exact ep h
 ·exact ep h
 ·exact ep h
 ·exact ep h
 ·exact ep h
 ·split at h
  ·cases h
  obtain⟨h',hz,rfl⟩:=Option.map_some' h
  exact nw hz
 ·split at h
  ·cases h
  obtain⟨h',hz,rfl⟩:=Option.map_some' h
  exact nw hz
 ·exact ep h
 ·unfold ie at h
  split at h
  ·exact ep h
  ·obtain⟨⟨z,h'⟩,hz,rfl⟩:=Option.map_some' h
   rw [jY]; exact u7 hz
  ·obtain⟨⟨z,h'⟩,hz,rfl⟩:=Option.map_some' h
   rw [jY]; exact yR hz
  ·obtain⟨h',hz,rfl⟩:=Option.map_some' h
   rw [jY]; exact w6 hz
  ·rw [aaB] at h
   obtain⟨v,_,h⟩:=h
   rw [aaB] at h
   obtain⟨vs,_,h⟩:=h
   rw [aaB] at h
   obtain⟨u,_,h⟩:=h
   exact ep h
  ·rw [aaB] at h
   obtain⟨v,_,h⟩:=h
   rw [aaB] at h
   obtain⟨vs,_,h⟩:=h
   rw [aaB] at h
   obtain⟨u,_,h⟩:=h
   exact ep h
  ·cases h
 ·split at h
  ·split at h
   ·obtain⟨⟨z,h'⟩,hz,rfl⟩:=Option.map_some' h
    rw [jY]; exact hcf _ _ _ _ _ hz
   ·cases h
  ·cases h
 ·cases h
theorem qf (hcf:SteadyF cf){ops:List Oper}(h:nj P cf aN ops s o=some s'):Steady s.h s'.h:=by
 unfold nj at h
 rw [aaB] at h
 obtain⟨w,_,h⟩:=h
 cases w with
 | true=>exact u9 hcf (by simpa [yC] using h)
 | false=>
  simp only [aaS,if_false,aaD] at h
  subst h
  rw [jY]; exact Steady.refl _
theorem s6 (hcf:SteadyF cf){ops:List Oper}:∀{l:List Oper} {s s':RS},tA P cf aN ops s l=some s'→Steady s.h s'.h
 | [],s,s',h=>by simp only [tA,aaD] at h; subst h; exact Steady.refl _
 | o::l,s,s',h=>by
  simp only [tA,aaB] at h
  obtain⟨s1,h1,h2⟩:=h
  exact (qf hcf h1).trans (s6 hcf h2)
theorem s7 (hcf:SteadyF cf){ops:List Oper}:∀{l:List Oper} {s r:RS} {es:List uj},rO P cf aN ops s l=some (es,r)→Steady s.h r.h
 | [],s,r,es,h=>by simp only [rO,aaD,aaJ] at h; rw [h.2]; exact Steady.refl _
 | o::l,s,r,es,h=>by
  simp only [rO,aaB,aaC] at h
  obtain⟨w,hw,s1,h1,⟨sR,r'⟩,h2,h3⟩:=h
  simp only [aaJ] at h3
  obtain⟨_,rfl⟩:=h3
  have h4:nj P cf aN ops s o=some s1:=by unfold nj; rw [hw]; exact h1
  exact (qf hcf h4).trans (s7 hcf h2)
theorem w7 (hcf:SteadyF cf){ops:Array Oper}(h:mr P cf aN ops s=some s'):Steady s.h s'.h:=by
 unfold mr at h
 dsimp only at h
 split at h
 rotate_left
 ·cases h
 rw [aaB] at h
 obtain⟨⟨es,r⟩,CA,h⟩:=h
 simp only at h
 split at h
 ·cases h; exact s7 hcf CA
 ·cases h
theorem gC (hcf:SteadyF cf){A:b9}{m:Nat}:∀(c:Code) (st kx:St) (e:Ex),b4 P cf A m c st=some (e,kx)→Steady st.h kx.h
 | .skip,st,kx,e,h=>by simp only [b4,aaD,aaJ] at h; rw [h.2]; exact Steady.refl _
 | .label _,st,kx,e,h=>by simp only [b4,aaD,aaJ] at h; rw [h.2]; exact Steady.refl _
 | .ret,st,kx,e,h=>by simp only [b4,aaD,aaJ] at h; rw [h.2]; exact Steady.refl _
 | .exit _,st,kx,e,h=>by simp only [b4,aaD,aaJ] at h; rw [h.2]; exact Steady.refl _
 | .seq x y,st,kx,e,h=>by
  simp only [b4,aaB] at h
  obtain⟨⟨e1,s1⟩,h1,h2⟩:=h
  have:=gC hcf x st s1 e1 h1
  cases e1 with
  | norm=>exact this.trans (gC hcf y s1 kx e h2)
  | exit id=>simp only [aaD,aaJ] at h2; rw [←h2.2]; exact this
  | ret=>simp only [aaD,aaJ] at h2; rw [←h2.2]; exact this
 | .cond k x y,st,kx,e,h=>by
  simp only [b4,aaB] at h
  obtain⟨t,_,h⟩:=h
  cases t with
  | true=>exact gC hcf x st kx e (by simpa using h)
  | false=>exact gC hcf y st kx e (by simpa using h)
 | .block id x,st,kx,e,h=>by
  simp only [b4,aaC] at h
  obtain⟨⟨e1,s1⟩,h1,h2⟩:=h
  have:=gC hcf x st s1 e1 h1
  cases e1<;>(simp only [aaJ] at h2; rw [←h2.2]; exact this)
 | .loop x,st,kx,e,h=>by
  simp only [b4] at h
  have key:∀(j:Nat) (st:St),lK (b4 P cf A m x) j st=some (e,kx)→Steady st.h kx.h:=by
   intro j
   induction j with
   | zero=>intro st h; simp [lK] at h
   | succ j ih=>
    intro st h
    simp only [lK,aaB] at h
    obtain⟨⟨e1,s1⟩,h1,h2⟩:=h
    have:=gC hcf x st s1 e1 h1
    cases e1 with
    | norm=>exact this.trans (ih s1 h2)
    | exit id=>simp only [aaD,aaJ] at h2; rw [←h2.2]; exact this
    | ret=>simp only [aaD,aaJ] at h2; rw [←h2.2]; exact this
  exact key m st h
 | .region id ops draw,st,kx,e,h=>by
  simp only [b4,aaB,aaC,aaJ] at h
  obtain⟨s0,h0,s',h1,s2,h2,_,rfl⟩:=h
  rw [Kv]
  refine ((nu h0).trans ?_).trans (nu h2)
  cases draw with
  | true=>exact w7 (s:=s0) hcf (by simpa using h1)
  | false=>exact s6 (s:=s0) hcf (by simpa using h1)
 | .rangeFunc ..,st,kx,e,h=>by simp [b4] at h
 | .scope ..,st,kx,e,h=>by simp [b4] at h
 | .goto ..,st,kx,e,h=>by simp [b4] at h
 | .refuse ..,st,kx,e,h=>by simp [b4] at h
theorem yS (hcf:SteadyF cf){aV:FuncId→b9}{m:Nat}:SteadyF (bg P aV cf m):=by
 intro f args h r h' hc
 unfold bg at hc
 rw [aaB] at hc
 obtain⟨fn,hf,hc⟩:=hc
 rw [aaB] at hc
 obtain⟨c,hb,hc⟩:=hc
 split at hc
 rotate_left
 ·cases hc
 rw [aaB] at hc
 obtain⟨⟨e,st⟩,hex,hc⟩:=hc
 have:=gC hcf c _ _ _ hex
 cases e with
 | norm=>obtain⟨r',_,h2⟩:=Option.map_some' hc; cases h2; exact this
 | ret=>obtain⟨r',_,h2⟩:=Option.map_some' hc; cases h2; exact this
 | exit id=>cases hc
end
end Go.R
namespace Go.R
open Go
section
variable {P:Program}{cf:CallF}{aN ds:List Nat}{o:Oper}{s s':RS}
theorem FE {e e':Operand→AV}(h:∀x∈o.op.operands,e x=e' x):Cp P cf aN ds e s o=Cp P cf aN ds e' s o:=by
 have PM:∀(l:List Operand),(∀x∈l,e x=e' x)→l.map e=l.map e':=fun l hl=>abV hl
 have MS:∀(q:Option Operand),(∀x,q=some x→e x=e' x)→q.map e=q.map e':=by
  intro q hq; cases q with
  | none=>rfl
  | some x=>simp [hq x rfl]
 unfold Cp
 cases DV:o.op<;>rw [DV] at h
 case build t ps=>
  have:(ps.toList.map fun (i,x)=>(i,e x))=(ps.toList.map fun (i,x)=>(i,e' x)):=
   abV fun p hp=>by
    have:=h p.2 (by simp only [Op.operands,List.mem_toArray,aba]; exact⟨p,hp,rfl⟩)
    simp [this]
  simp only [this]
 case buildSlice t n ps=>
  have:(ps.toList.map fun (i,x)=>(i,e x))=(ps.toList.map fun (i,x)=>(i,e' x)):=
   abV fun p hp=>by
    have:=h p.2 (by simp only [Op.operands,List.mem_toArray,aba]; exact⟨p,hp,rfl⟩)
    simp [this]
  simp only [this]
 case makeFunc f first cap=>
  have:cap.toList.map e=cap.toList.map e':=PM _ fun x hx=>h x (by simp only [Op.operands,Array.mem_append]; right; exact abC.1 hx)
  cases f<;>first | rfl | simp only [this]
 case makeMap t r=>cases r<;>rfl
 case slice t x lo hi mx=>
  have h1:e x=e' x:=h x (by simp [Op.operands])
  have h2:=MS lo fun y hy=>h y (by simp [Op.operands,hy])
  have h3:=MS hi fun y hy=>h y (by simp [Op.operands,hy])
  have h4:=MS mx fun y hy=>h y (by simp [Op.operands,hy])
  simp only [h1,h2,h3,h4]
 case call c=>
  obtain⟨callee,args,DR⟩:=c
  have h1:args.toList.map e=args.toList.map e':=PM _ fun x hx=>h x (by
   simp only [Op.operands,Call.operands]
   cases callee<;>simp<;>first | exact abC.1 hx | (right; exact abC.1 hx) | (left; exact abC.1 hx))
  cases callee with
  | builtin b=>simp only [h1]
  | value f=>
   have h2:e f=e' f:=h f (by simp [Op.operands,Call.operands])
   simp only [h1,h2]
  | invoke r nm=>rfl
 all_goals first
  | rfl
  | (simp [Op.operands] at h; simp [h])
end
theorem qg (acc:List Nat)(i:Nat):∀(l:List Edge) (m:Nat),(l.foldl (fun m e=>bif Region.binds .any e then m ||| (2 ^ e.on ||| acc.getD e.on 0) else m) m).testBit i=true→
  m.testBit i=true∨∃e∈l,Region.binds .any e=true∧(e.on=i∨(acc.getD e.on 0).testBit i=true)
 | [],m,h=>.inl h
 | e::l,m,h=>by
  rcases qg acc i l _ h with h1 | ⟨e',he,h1⟩
  ·dsimp only at h1
   cases hb:Region.binds .any e with
   | false=>rw [hb] at h1; exact .inl h1
   | true=>
    rw [hb] at h1
    simp only [cond_true,Nat.testBit_or,abt,Nat.testBit_two_pow,decide_eq_true_eq] at h1
    rcases h1 with h1 | h1 | h1
    ·exact .inl h1
    ·exact .inr ⟨e,by simp,hb,.inl h1⟩
    ·exact .inr ⟨e,by simp,hb,.inr h1⟩
  ·exact .inr ⟨e',by simp [he],h1⟩
theorem s8:∀(l:List Oper) (acc:List Nat),(∀j,j<acc.length→(kD acc l).getD j 0=acc.getD j 0)∧
  ∀j i,((kD acc l).getD j 0).testBit i=true→acc.length≤j→∃o,l[j - acc.length]? = some o∧∃e∈o.after.toList,Region.binds .any e=true∧(e.on=i∨((kD acc l).getD e.on 0).testBit i=true)
 | [],acc=>⟨fun j hj=>rfl,fun j i h hj=>by simp [kD,List.getD,aa1 hj] at h⟩
 | o::l,acc=>by
  simp only [kD]
  generalize hm:(o.after.toList.foldl (fun m e=>bif Region.binds .any e then m ||| (2 ^ e.on ||| acc.getD e.on 0) else m) 0)=m
  obtain⟨h1,h2⟩:=s8 l (acc++[m])
  have hold:∀j,j<acc.length→(kD (acc++[m]) l).getD j 0=acc.getD j 0:=fun j hj=>by
   rw [h1 j (by simp; omega)]
   simp [List.getD,abf hj]
  refine⟨hold,fun j i h hj=>?_⟩
  by_cases Yk:j=acc.length
  ·subst Yk
   have:(kD (acc++[m]) l).getD acc.length 0=m:=by
    rw [h1 _ (by simp)]; simp [List.getD]
   rw [this,←hm] at h
   rcases qg acc i _ _ h with h3 | ⟨e,he,hb,h3⟩
   ·simp at h3
   ·refine⟨o,by simp,e,he,hb,h3.imp id fun h4=>?_⟩
    by_cases hl:e.on<acc.length
    ·rw [hold _ hl]; exact h4
    ·simp [List.getD,aa1 (Nat.not_lt.1 hl)] at h4
  ·obtain⟨o',OQ,h3⟩:=h2 j i h (by simp; omega)
   refine⟨o',?_,h3⟩
   rw [show j - acc.length=(j - (acc++[m]).length)+1 by simp; omega]
   simpa using OQ
theorem lB {α:Type}(p:Nat→α→Nat→α→Bool):∀(l:List α) (k:Nat),pS p k l=true→∀i j x y,i<j→l[i]? = some x→l[j]? = some y→p (k+i) x (k+j) y=true
 | [],k,_,i,j,x,y,_,hx,_=>by simp at hx
 | a::l,k,h,i,j,x,y,xM,hx,hy=>by
  simp only [pS,aaF,abd] at h
  obtain⟨h1,h2⟩:=h
  cases j with
  | zero=>omega
  | succ j=>
   cases i with
   | zero=>
    simp only [abk,aaD] at hx
    subst hx
    have:=h1 (y,k+1+j) (by rw [List.mk_add_mem_zipIdx_iff_getElem?]; simpa using hy)
    simpa [abl,Nat.add_comm 1 j] using this
   | succ i=>
    have:=lB p l (k+1) h2 i j x y (by omega) (by simpa using hx) (by simpa using hy)
    rw [show k+(i+1)=k+1+i by omega,show k+(j+1)=k+1+j by omega]
    exact this
theorem qh:∀(l:List Oper) (k:Nat),uk k l=true→∀i o,l[i]? = some o→∀e∈o.after.toList,Region.binds .any e=true→e.on<k+i
 | [],k,_,i,o,h,_,_,_=>by simp at h
 | a::l,k,h,i,o,ho,e,he,hb=>by
  simp only [uk,aaF,abd] at h
  obtain⟨h1,h2⟩:=h
  cases i with
  | zero=>
   simp only [abk,aaD] at ho
   subst ho
   have:=h1 e he
   simp only [hb,Bool.not_true,Bool.false_or] at this
   exact Nat.blt_eq.mp this
  | succ i=>
   have:=qh l (k+1) h2 i o (by simpa using ho) e he hb
   omega
theorem qi {V:Type}{n i:Nat}(hi:i≤n){W:Nat→Prop}{S:Nat→Bool}{m x:Nat→V}(h0:m 0=x 0)(PN:∀k,k<n→W k→S k=true→m (k+1)=x (k+1))(Cy:∀k,k<n→(¬W k∨S k=false)→m (k+1)=m k)
  (hx:∀k,k<n→¬W k→x (k+1)=x k) (hS:∀k,k<n→W k→(S k=true↔k<i)):m n=x i:=by
 have key:∀k,k≤n→m k=x (min k i):=by
  intro k
  induction k with
  | zero=>intro _; simpa using h0
  | succ k ih=>
   intro hk
   have ih:=ih (by omega)
   by_cases hw:W k
   ·have hs:=hS k (by omega) hw
    by_cases ur:k<i
    ·rw [PN k (by omega) hw (hs.2 ur),aco (by omega)]
    ·have:S k=false:=by
      cases h:S k with
      | false=>rfl
      | true=>exact absurd (hs.1 h) ur
     rw [Cy k (by omega) (.inr this),ih,Nat.min_eq_right (by omega),Nat.min_eq_right (by omega)]
   ·rw [Cy k (by omega) (.inl hw),ih]
    by_cases ur:k<i
    ·rw [aco (by omega),aco (by omega),hx k (by omega) hw]
    ·rw [Nat.min_eq_right (by omega),Nat.min_eq_right (by omega)]
 rw [key n (aaE n),Nat.min_eq_right hi]
open Classical in
theorem yT {V:Type}{n i:Nat}(hi:i<n){W:Nat→Prop}{S S':Nat→Bool}{m m' x:Nat→V}(h0:m' 0=m 0)(PN:∀k,k<n→W k→S k=true→m (k+1)=x (k+1))(Cy:∀k,k<n→(¬W k∨S k=false)→m (k+1)=m k)
  (RN:∀k,k<n→W k→S' k=true→m' (k+1)=x (k+1)) (PO:∀k,k<n→(¬W k∨S' k=false)→m' (k+1)=m' k)
  (FF:∀k,S' k=if k=i then true else S k) (PQ:S i=false) (hl:W i→∀j,j<n→i<j→W j→S j=false):m' n=if W i then x (i+1) else m n:=by
 have key:∀k,k≤n→m' k=if i<k∧W i then x (i+1) else m k:=by
  intro k
  induction k with
  | zero=>intro _; simpa using h0
  | succ k ih=>
   intro hk
   have ih:=ih (by omega)
   by_cases ur:k=i
   ·subst ur
    by_cases hw:W k
    ·rw [RN k (by omega) hw (by rw [FF]; simp),if_pos ⟨by omega,hw⟩]
    ·rw [PO k (by omega) (.inl hw),ih,if_neg (fun h=>hw h.2),if_neg (fun h=>hw h.2),Cy k (by omega) (.inl hw)]
   ·have hs:S' k=S k:=by rw [FF,if_neg ur]
    by_cases hw:W k
    ·cases rS:S k with
     | true=>
      rw [RN k (by omega) hw (hs.trans rS)]
      by_cases GO:i<k+1∧W i
      ·have:=hl GO.2 k (by omega) (by omega) hw
       rw [rS] at this; cases this
      ·rw [if_neg GO,PN k (by omega) hw rS]
     | false=>
      rw [PO k (by omega) (.inr (hs.trans rS)),ih,Cy k (by omega) (.inr rS)]
      by_cases GO:i<k∧W i
      ·rw [if_pos GO,if_pos ⟨by omega,GO.2⟩]
      ·rw [if_neg GO,if_neg (fun h=>GO ⟨by omega,h.2⟩)]
    ·rw [PO k (by omega) (.inl hw),ih,Cy k (by omega) (.inl hw)]
     by_cases GO:i<k∧W i
     ·rw [if_pos GO,if_pos ⟨by omega,GO.2⟩]
     ·rw [if_neg GO,if_neg (fun h=>GO ⟨by omega,h.2⟩)]
 rw [key n (aaE n)]
 by_cases hw:W i
 ·rw [if_pos ⟨hi,hw⟩,if_pos hw]
 ·rw [if_neg (fun h=>hw h.2),if_neg hw]
structure va (P:Program)(cf:CallF)(aN:List Nat)(ops:Array Oper)(tx:Nat→RS)(ft:Nat→lH)(ord:Nat→Nat→Prop):Prop where
 op:∀k o,ops[k]? = some o→∃w,iE ops.toList (tx k).ρ o=some w∧(if w then yC P cf aN (ops.toList.filterMap (·.dst)) (tx k) o=some (tx (k+1))∧ft k=bo aN (b8 (tx k).ρ) o else tx (k+1)=(tx k).set o.dst (.tup [])∧ft k={})
 MT:∀k i,ord k i→∃o,ops[i]? = some o∧∃e∈o.after,Region.binds .any e=true∧(e.on=k∨ord k e.on)
 back:∀i o,ops[i]? = some o→∀e∈o.after,Region.binds .any e=true→e.on<i
 LQ:∀i j x y,i≠j→ops[i]? = some x→ops[j]? = some y→ord i j∨ord j i∨∀d,x.dst=some d→d∉y.looksAt ops∧y.dst≠some d
 boxes:∀i j,i<ops.size→j<ops.size→i≠j→ord i j∨ord j i∨(∀k,(ft i).wb=some k→k∉(ft j).rb∧(ft j).wb≠some k)∧((ft i).wh=true→(ft j).wh=false∧∀id∈(ft j).rh,(tx i).h.get id=(tx (i+1)).h.get id)
 SZ:∀i o d,ops[i]? = some o→(ft i).al=true→o.dst=some d→(∀t∈ops.toList.filterMap (·.dst),t≠d→∀off,(tx 0).ρ t≠.lp d off)∧∀j y t,ops[j]? = some y→j≠i→ord i j∨(y.dst=some t→∀off,(tx (j+1)).ρ t≠.lp d off)
section
variable {P:Program}{cf:CallF}{aN:List Nat}{ops:Array Oper}{tx:Nat→RS}{ft:Nat→lH}{ord:Nat→Nat→Prop}
def jZ (ops:Array Oper)(k:Nat):Option Nat:=(ops[k]?).bind (·.dst)
def kT (ops:Array Oper)(tx:Nat→RS)(ft:Nat→lH)(S:Nat→Bool):Nat→RS
 | 0=>tx 0
 | k+1=>if S k then (kT ops tx ft S k).shift (ft k) (jZ ops k) (tx (k+1)) else kT ops tx ft S k
theorem va.shift (T:va P cf aN ops tx ft ord){k:Nat}(hk:k<ops.size):tx (k+1)=(tx k).shift (ft k) (jZ ops k) (tx (k+1)):=by
 have ho:ops[k]? = some ops[k]:=by simp [hk]
 obtain⟨w,hw,h⟩:=T.op k _ ho
 have hd:jZ ops k=ops[k].dst:=by simp [jZ,hk]
 rw [hd]
 cases w with
 | true=>
  simp only [if_true] at h
  obtain⟨h1,h2⟩:=h
  have:=xL (s2:=tx k) (e:=b8 (tx k).ρ) h1 (fun _ _=>rfl) (fun _ _=>rfl) (fun _=>rfl) (fun pO d Cd=>by
   unfold yC Cp at h1
   dsimp only at h1
   have LR:∀(cs:List AV) (s s':RS),iY s aN (ops.toList.filterMap (·.dst)) ops[k] cs=some s'→aN.contains d=true→uM d s.ρ ((ops.toList.filterMap (·.dst)).filter fun t=>!Nat.beq t d)=true:=by
    intro cs s s' hb hl
    unfold iY at hb
    simp only [Cd,hl,if_true] at hb
    by_cases hn:uM d s.ρ ((ops.toList.filterMap (·.dst)).filter fun t=>!Nat.beq t d)=true
    ·exact hn
    ·simp [hn] at hb
   unfold bo at pO
   split at pO
   ·rename_i t DV
    rw [Cd] at pO
    simp only at pO
    split at pO
    ·rename_i hl
     rw [DV] at h1
     simp only [aaB] at h1
     obtain⟨z,_,h1⟩:=h1
     exact LR _ _ _ h1 hl
    ·cases pO
   ·rename_i t x DV
    rw [Cd] at pO
    simp only at pO
    split at pO
    ·rename_i hl
     rw [DV] at h1
     exact LR _ _ _ h1 hl
    ·cases pO
   all_goals first
    | (split at pO<;>cases pO)
    | (split at pO<;>first | cases pO | (split at pO<;>cases pO))
    | cases pO)
  unfold yC at h1
  rw [h1] at this
  rw [h2]
  exact aa2 this
 | false=>
  simp only [aaS,if_false] at h
  rw [h.1,h.2]
  exact je (tx k) (tx k) {} _ _ rfl rfl
theorem uu (s2:RS)(f:lH)(d:Option Nat)(s':RS)(t:Nat):(s2.shift f d s').ρ t=if d=some t then s'.ρ t else s2.ρ t:=by
 cases d with
 | none=>simp [RS.shift]
 | some d=>
  simp only [RS.shift,aaD]
  by_cases h:t=d
  ·subst h; simp
  ·rw [if_neg h,if_neg (abZ h)]
theorem qm (s2:RS)(f:lH)(d:Option Nat)(s':RS)(b:Nat):(s2.shift f d s').bx b=if f.wb=some b then s'.bx b else s2.bx b:=by
 cases hf:f.wb with
 | none=>simp [RS.shift,hf]
 | some k=>
  simp only [RS.shift,hf,aaD]
  by_cases h:b=k
  ·subst h; simp
  ·rw [if_neg h,if_neg (abZ h)]
theorem va.lt (T:va P cf aN ops tx ft ord):∀{j k:Nat},ord k j→k<j:=by
 intro j
 induction j using Nat.strongRecOn with
 | _ j ih=>
  intro k h
  obtain⟨o,ho,e,he,hb,h1⟩:=T.MT k j h
  have h2:=T.back j o ho e he hb
  rcases h1 with h1 | h1
  ·omega
  ·have:=ih e.on h2 h1; omega
def rU (ops:Array Oper)(S:Nat→Bool):Prop:=∀j o,ops[j]? = some o→S j=true→∀e∈o.after,Region.binds .any e=true→S e.on=true
theorem va.down (T:va P cf aN ops tx ft ord){S:Nat→Bool}(hc:rU ops S):∀{j k:Nat},ord k j→S j=true→S k=true:=by
 intro j
 induction j using Nat.strongRecOn with
 | _ j ih=>
  intro k h hs
  obtain⟨o,ho,e,he,hb,h1⟩:=T.MT k j h
  have h2:=T.back j o ho e he hb
  have h3:=hc j o ho hs e he hb
  rcases h1 with h1 | h1
  ·rw [←h1]; exact h3
  ·exact ih e.on h2 h1 h3
variable {S:Nat→Bool}{i:Nat}{oi:Oper}
theorem va.before (T:va P cf aN ops tx ft ord)(hc:rU ops S)(ho:ops[i]? = some oi)(hr:∀e∈oi.after,Region.binds .any e=true→S e.on=true){k:Nat}(h:ord k i):S k=true:=by
 obtain⟨o,OQ,e,he,hb,h1⟩:=T.MT k i h
 rw [ho] at OQ
 cases OQ
 rcases h1 with h1 | h1
 ·rw [←h1]; exact hr e he hb
 ·exact T.down hc h1 (hr e he hb)
theorem va.iff (T:va P cf aN ops tx ft ord)(hc:rU ops S)(ho:ops[i]? = some oi)(hr:∀e∈oi.after,Region.binds .any e=true→S e.on=true)(hi:S i=false){k:Nat}(h:ord i k∨ord k i):S k=true↔k<i:=by
 rcases h with h | h
 ·have:=T.lt h
  refine⟨fun hk=>?_,fun _=>by omega⟩
  have:=T.down hc h hk
  rw [hi] at this; cases this
 ·exact⟨fun _=>T.lt h,fun _=>T.before hc ho hr h⟩
theorem yU (t:Nat)(k:Nat)(hd:jZ ops k=some t)(hs:S k=true):(kT ops tx ft S (k+1)).ρ t=(tx (k+1)).ρ t:=by
 simp only [kT,hs,if_true,uu,hd]
theorem yV (t:Nat)(k:Nat)(h:¬jZ ops k=some t∨S k=false):(kT ops tx ft S (k+1)).ρ t=(kT ops tx ft S k).ρ t:=by
 simp only [kT]
 split
 ·rename_i hs
  rcases h with h | h
  ·rw [uu,if_neg h]
  ·rw [h] at hs; cases hs
 ·rfl
theorem yW (b:Nat)(k:Nat)(hd:(ft k).wb=some b)(hs:S k=true):(kT ops tx ft S (k+1)).bx b=(tx (k+1)).bx b:=by
 simp only [kT,hs,if_true,qm,hd]
theorem yX (b:Nat)(k:Nat)(h:¬(ft k).wb=some b∨S k=false):(kT ops tx ft S (k+1)).bx b=(kT ops tx ft S k).bx b:=by
 simp only [kT]
 split
 ·rename_i hs
  rcases h with h | h
  ·rw [qm,if_neg h]
  ·rw [h] at hs; cases hs
 ·rfl
theorem yY (k:Nat)(hd:(ft k).wh=true)(hs:S k=true):(kT ops tx ft S (k+1)).h=(tx (k+1)).h:=by
 simp only [kT,hs,if_true,RS.shift,hd]
theorem yZ (k:Nat)(h:¬(ft k).wh=true∨S k=false):(kT ops tx ft S (k+1)).h=(kT ops tx ft S k).h:=by
 simp only [kT]
 split
 ·rename_i hs
  rcases h with h | h
  ·simp only [RS.shift]; rw [if_neg h]
  ·rw [h] at hs; cases hs
 ·rfl
theorem va.S4 (T:va P cf aN ops tx ft ord)(t:Nat)(k:Nat)(hk:k<ops.size)(h:¬jZ ops k=some t):(tx (k+1)).ρ t=(tx k).ρ t:=by
 rw [T.shift hk,uu,if_neg h]
theorem va.PR (T:va P cf aN ops tx ft ord)(b:Nat)(k:Nat)(hk:k<ops.size)(h:¬(ft k).wb=some b):(tx (k+1)).bx b=(tx k).bx b:=by
 rw [T.shift hk,qm,if_neg h]
theorem va.MU (T:va P cf aN ops tx ft ord)(k:Nat)(hk:k<ops.size)(h:¬(ft k).wh=true):(tx (k+1)).h=(tx k).h:=by
 rw [T.shift hk]; simp only [RS.shift]; rw [if_neg h]
theorem va.reads (T:va P cf aN ops tx ft ord)(hc:rU ops S)(ho:ops[i]? = some oi)(hr:∀e∈oi.after,Region.binds .any e=true→S e.on=true)(hi:S i=false) :
  (∀t∈oi.looksAt ops,(kT ops tx ft S ops.size).ρ t=(tx i).ρ t)∧(∀b∈(ft i).rb,(kT ops tx ft S ops.size).bx b=(tx i).bx b)∧
  (∀id∈(ft i).rh,(kT ops tx ft S ops.size).h.get id=(tx i).h.get id)∧((ft i).wh=true→(kT ops tx ft S ops.size).h=(tx i).h):=by
 have hin:i<ops.size:=(abc.1 ho).1
 have ME:∀k,k<ops.size→ops[k]? = some ops[k]!:=fun k hk=>by simp [hk]
 have oV:∀k,k=i→(S k=true↔k<i):=by
  rintro k rfl
  rw [hi]; simp
 refine⟨fun t ht=>?_,fun b hb=>?_,fun id hid=>?_,fun hw=>?_⟩
 ·refine qi (W:=fun k=>jZ ops k=some t) (m:=fun k=>(kT ops tx ft S k).ρ t) (x:=fun k=>(tx k).ρ t) (S:=S) (Nat.le_of_lt hin) rfl (fun k _ h hs=>yU t k h hs) (fun k _ h=>yV t k h) (fun k hk h=>T.S4 t k hk h) (fun k hk h=>?_)
  by_cases ur:k=i
  ·exact oV k ur
  ·obtain⟨y,hy,MV⟩:=aaB.1 h
   rcases T.LQ k i y oi ur hy ho with h1 | h1 | h1
   ·exact T.iff hc ho hr hi (.inr h1)
   ·exact T.iff hc ho hr hi (.inl h1)
   ·exact absurd ht (h1 t MV).1
 ·refine qi (W:=fun k=>(ft k).wb=some b) (m:=fun k=>(kT ops tx ft S k).bx b) (x:=fun k=>(tx k).bx b) (S:=S) (Nat.le_of_lt hin) rfl (fun k _ h hs=>yW b k h hs) (fun k _ h=>yX b k h) (fun k hk h=>T.PR b k hk h) (fun k hk h=>?_)
  by_cases ur:k=i
  ·exact oV k ur
  ·rcases T.boxes k i hk hin ur with h1 | h1 | h1
   ·exact T.iff hc ho hr hi (.inr h1)
   ·exact T.iff hc ho hr hi (.inl h1)
   ·exact absurd hb (h1.1 b h).1
 ·
  obtain⟨p,hp,PD⟩:∃p,p≤ops.size∧∀k,k<ops.size→(ft k).wh=true→(S k=true↔k<p):=by
   have key:∀m,m≤ops.size→(∀k,k<m→(ft k).wh=true→S k=true)∨∃p,p<m∧(ft p).wh=true∧S p=false∧∀k,k<p→(ft k).wh=true→S k=true:=by
    intro m
    induction m with
    | zero=>intro _; exact .inl fun k hk=>by omega
    | succ m ih=>
     intro hm
     rcases ih (by omega) with h | ⟨p,h1,h2⟩
     ·by_cases hw:(ft m).wh=true∧S m=false
      ·exact .inr ⟨m,by omega,hw.1,hw.2,h⟩
      ·refine .inl fun k hk V9=>?_
       by_cases Yl:k=m
       ·subst Yl
        cases hs:S k with
        | true=>rfl
        | false=>exact absurd ⟨V9,hs⟩ hw
       ·exact h k (by omega) V9
     ·exact .inr ⟨p,by omega,h2⟩
   rcases key ops.size (aaE _) with h | ⟨p,h1,h2,h3,h4⟩
   ·exact⟨ops.size,aaE _,fun k hk hw=>⟨fun _=>hk,fun _=>h k hk hw⟩⟩
   ·refine⟨p,by omega,fun k hk hw=>⟨fun hs=>?_,fun RP=>h4 k RP hw⟩⟩
    rcases Nat.lt_or_ge k p with h5 | h5
    ·exact h5
    ·by_cases RP:k=p
     ·subst RP; rw [h3] at hs; cases hs
     ·rcases T.boxes p k h1 hk (abZ RP) with h6 | h6 | h6
      ·have:=T.down hc h6 hs; rw [h3] at this; cases this
      ·have:=T.lt h6; omega
      ·have:=(h6.2 h2).1; rw [hw] at this; cases this
  have MW:(kT ops tx ft S ops.size).h=(tx p).h:=
   qi (W:=fun k=>(ft k).wh=true) (m:=fun k=>(kT ops tx ft S k).h) (x:=fun k=>(tx k).h) (S:=S) hp rfl (fun k _ h hs=>yY k h hs) (fun k _ h=>yZ k h) (fun k hk h=>T.MU k hk h) PD
  rw [MW]
  have LS:∀k,k<ops.size→(p≤k∧k<i)∨(i≤k∧k<p)→(tx (k+1)).h.get id=(tx k).h.get id:=by
   intro k hk hb
   by_cases hw:(ft k).wh=true
   ·have hs:=PD k hk hw
    have ur:k≠i:=by
     rintro rfl
     rcases hb with hb | hb
     ·omega
     ·have:=hs.2 hb.2; rw [hi] at this; cases this
    rcases T.boxes k i hk hin ur with h1 | h1 | h1
    ·have hlt:=T.lt h1
     have:=hs.1 (T.before hc ho hr h1)
     omega
    ·have hlt:=T.lt h1
     have:=T.down hc h1 (hs.2 (by omega))
     rw [hi] at this; cases this
    ·exact ((h1.2 hw).2 id hid).symm
   ·rw [T.MU k hk hw]
  have walk:∀a b,a≤b→b≤ops.size→(∀k,a≤k→k<b→(tx (k+1)).h.get id=(tx k).h.get id)→(tx b).h.get id=(tx a).h.get id:=by
   intro a b Ta
   induction b with
   | zero=>
     intro _ _; have:a=0:=by omega
     subst this; rfl
   | succ b ih=>
    intro hb hk
    by_cases Tb:a=b+1
    ·subst Tb; rfl
    ·rw [hk b (by omega) (by omega)]
     exact ih (by omega) (by omega) fun k h1 h2=>hk k h1 (by omega)
  rcases Nat.le_total p i with h | h
  ·exact (walk p i h (Nat.le_of_lt hin) fun k h1 h2=>LS k (by omega) (.inl ⟨h1,h2⟩)).symm
  ·exact walk i p h hp fun k h1 h2=>LS k (by omega) (.inr ⟨h1,h2⟩)
 ·refine qi (W:=fun k=>(ft k).wh=true) (m:=fun k=>(kT ops tx ft S k).h) (x:=fun k=>(tx k).h) (S:=S) (Nat.le_of_lt hin) rfl (fun k _ h hs=>yY k h hs) (fun k _ h=>yZ k h) (fun k hk h=>T.MU k hk h) (fun k hk h=>?_)
  by_cases ur:k=i
  ·exact oV k ur
  ·rcases T.boxes k i hk hin ur with h1 | h1 | h1
   ·exact T.iff hc ho hr hi (.inr h1)
   ·exact T.iff hc ho hr hi (.inl h1)
   ·have:=(h1.2 h).1; rw [hw] at this; cases this
theorem AE (t:Nat):∀k,(kT ops tx ft S k).ρ t=(tx 0).ρ t∨∃j,j<k∧S j=true∧jZ ops j=some t∧(kT ops tx ft S k).ρ t=(tx (j+1)).ρ t
 | 0=>.inl rfl
 | k+1=>by
  by_cases h:jZ ops k=some t∧S k=true
  ·exact .inr ⟨k,by omega,h.2,h.1,yU t k h.1 h.2⟩
  ·have h':¬jZ ops k=some t∨S k=false:=by
    by_cases h1:jZ ops k=some t
    ·right; cases hs:S k with
     | true=>exact absurd ⟨h1,hs⟩ h
     | false=>rfl
    ·exact .inl h1
   rw [yV t k h']
   rcases AE t k with h1 | ⟨j,h1,h2⟩
   ·exact .inl h1
   ·exact .inr ⟨j,by omega,h2⟩
theorem vb {k:Nat}{ρ:Nat→AV}:∀{l:List Nat},(∀t∈l,∀off,ρ t≠.lp k off)→uM k ρ l=true
 | [],_=>rfl
 | t::l,h=>by
  simp only [uM,aaF]
  refine⟨?_,vb fun u hu=>h u (by simp [hu])⟩
  have:=h t (by simp)
  split
  ·rename_i j off heq
   simp only [bne_iff_ne,ne_eq]
   rintro rfl
   exact this off heq
  ·rfl
open Classical in
theorem va.next (T:va P cf aN ops tx ft ord)(hc:rU ops S)(ho:ops[i]? = some oi)(hr:∀e∈oi.after,Region.binds .any e=true→S e.on=true)(hi:S i=false){S':Nat→Bool}(FF:∀k,S' k=if k=i then true else S k) :
  nj P cf aN ops.toList (kT ops tx ft S ops.size) oi=some (kT ops tx ft S' ops.size):=by
 have hin:i<ops.size:=(abc.1 ho).1
 obtain⟨h1,h2,h3,h4⟩:=T.reads hc ho hr hi
 obtain⟨w,hw,DV⟩:=T.op i oi ho
 have tD:jZ ops i=oi.dst:=by simp [jZ,ho]
 have xN:∀j,i<j→j<ops.size→(ord i j∨ord j i)→S j=false:=by
  intro j xM hj h
  cases hs:S j with
  | false=>rfl
  | true=>have:=(T.iff hc ho hr hi h).1 hs; omega
 have MW:kT ops tx ft S' ops.size=(kT ops tx ft S ops.size).shift (ft i) (jZ ops i) (tx (i+1)):=by
  refine RS.ext' (fun t=>?_) (fun b=>?_) ?_
  ·rw [uu]
   have:=yT (W:=fun k=>jZ ops k=some t) (m:=fun k=>(kT ops tx ft S k).ρ t) (m':=fun k=>(kT ops tx ft S' k).ρ t) (x:=fun k=>(tx k).ρ t) (S:=S) (S':=S') hin rfl
    (fun k _ h hs=>yU t k h hs) (fun k _ h=>yV t k h) (fun k _ h hs=>yU t k h hs) (fun k _ h=>yV t k h) FF hi (fun OR j hj xM PS=>by
     obtain⟨y,hy,MV⟩:=aaB.1 PS
     rw [tD] at OR
     rcases T.LQ i j oi y (by omega) ho hy with h | h | h
     ·exact xN j xM hj (.inl h)
     ·exact xN j xM hj (.inr h)
     ·exact absurd MV (h t OR).2)
   rw [this]
   by_cases hd:jZ ops i=some t
   ·rw [if_pos hd,if_pos hd]
   ·rw [if_neg hd,if_neg hd]
  ·rw [qm]
   have:=yT (W:=fun k=>(ft k).wb=some b) (m:=fun k=>(kT ops tx ft S k).bx b) (m':=fun k=>(kT ops tx ft S' k).bx b) (x:=fun k=>(tx k).bx b) (S:=S) (S':=S') hin rfl
    (fun k _ h hs=>yW b k h hs) (fun k _ h=>yX b k h) (fun k _ h hs=>yW b k h hs) (fun k _ h=>yX b k h) FF hi (fun OR j hj xM PS=>by
     rcases T.boxes i j hin hj (by omega) with h | h | h
     ·exact xN j xM hj (.inl h)
     ·exact xN j xM hj (.inr h)
     ·exact absurd PS (h.1 b OR).2)
   rw [this]
   by_cases hd:(ft i).wb=some b
   ·rw [if_pos hd,if_pos hd]
   ·rw [if_neg hd,if_neg hd]
  ·have:=yT (W:=fun k=>(ft k).wh=true) (m:=fun k=>(kT ops tx ft S k).h) (m':=fun k=>(kT ops tx ft S' k).h) (x:=fun k=>(tx k).h) (S:=S) (S':=S') hin rfl
    (fun k _ h hs=>yY k h hs) (fun k _ h=>yZ k h) (fun k _ h hs=>yY k h hs) (fun k _ h=>yZ k h) FF hi (fun OR j hj xM PS=>by
     rcases T.boxes i j hin hj (by omega) with h | h | h
     ·exact xN j xM hj (.inl h)
     ·exact xN j xM hj (.inr h)
     ·have:=(h.2 OR).1; rw [PS] at this; cases this)
   rw [this]
   simp only [RS.shift]
   by_cases hd:(ft i).wh=true
   ·rw [if_pos hd,if_pos hd]
   ·rw [if_neg hd,if_neg hd]
 have PT:∀x∈oi.op.operands,b8 (kT ops tx ft S ops.size).ρ x=b8 (tx i).ρ x:=by
  intro x hx
  cases x with
  | tmp t=>
   refine h1 t ?_
   unfold Oper.looksAt
   rw [aaQ]
   left
   rw [List.mem_filterMap]
   exact⟨.tmp t,abC.2 hx,rfl⟩
  | _=>rfl
 have PU:iE ops.toList (kT ops tx ft S ops.size).ρ oi=iE ops.toList (tx i).ρ oi:=by
  unfold iE
  cases hg:oi.guard with
  | none=>rfl
  | some g=>
   obtain⟨g,want⟩:=g
   simp only
   cases hq:(ops.toList[g]?).bind (·.dst) with
   | none=>rfl
   | some d=>
    simp only [aaA]
    rw [h1 d]
    unfold Oper.looksAt
    rw [aaQ]
    right
    rw [hg]
    simp only
    have:(ops[g]?).bind (·.dst)=some d:=by simpa using hq
    rw [this]
    simp
 unfold nj
 rw [PU,hw]
 simp only [aaA]
 rw [MW,tD]
 cases w with
 | false=>
  simp only [aaS,if_false] at DV ⊢
  rw [DV.1,DV.2]
  congr 1
  exact je (tx i) _ {} _ _ rfl rfl
 | true=>
  simp only [if_true] at DV ⊢
  obtain⟨DV,OS⟩:=DV
  unfold yC at DV ⊢
  rw [FE PT,OS]
  rw [OS] at h2 h3 h4
  refine xL DV h2 h3 h4 (fun pO d Cd=>vb fun t ht off he=>?_)
  rw [ace] at ht
  obtain⟨Ym,Yn⟩:=ht
  have LK:t≠d:=by simpa [beq_nat] using Yn
  obtain⟨l1,l2⟩:=T.SZ i oi d ho (by rw [OS]; exact pO) Cd
  rcases AE (ops:=ops) (tx:=tx) (ft:=ft) (S:=S) t ops.size with h | ⟨j,hj,hs,Yo,h⟩
  ·rw [h] at he
   exact l1 t Ym LK off he
  ·rw [h] at he
   obtain⟨y,hy,MV⟩:=aaB.1 Yo
   have hji:j≠i:=by rintro rfl; rw [hi] at hs; cases hs
   rcases l2 j y t hy hji with h5 | h5
   ·have:=T.down hc h5 hs; rw [hi] at this; cases this
   ·exact h5 MV off he
theorem DW (T:va P cf aN ops tx ft ord)(lT:∀k,k<ops.size→S k=true):∀k,k≤ops.size→kT ops tx ft S k=tx k
 | 0,_=>rfl
 | k+1,hk=>by
  simp only [kT,lT k (by omega),if_true]
  rw [DW T lT k (by omega)]
  exact (T.shift (by omega)).symm
def left (n:Nat)(S:Nat→Bool):Nat:=(List.range n).countP fun j=>!S j
theorem FG {n:Nat}{S:Nat→Bool}(h:left n S=0):∀k,k<n→S k=true:=by
 intro k hk
 unfold left at h
 rw [List.countP_eq_zero] at h
 simpa using h k (List.mem_range.2 hk)
theorem Hf {n i:Nat}(hi:i<n){S S':Nat→Bool}(PQ:S i=false)(FF:∀k,S' k=if k=i then true else S k):left n S'+1=left n S:=by
 unfold left
 have:∀m,(List.range m).countP (fun j=>!S' j)+(if i<m then 1 else 0)=(List.range m).countP fun j=>!S j:=by
  intro m
  induction m with
  | zero=>simp
  | succ m ih=>
   rw [List.range_succ,List.countP_append,List.countP_append]
   simp only [List.countP_cons,List.countP_nil]
   by_cases hm:m=i
   ·subst hm
    have h1:S' m=true:=by rw [FF]; simp
    rw [h1,PQ]
    simp at ih ⊢
    omega
   ·have h1:S' m=S m:=by rw [FF,if_neg hm]
    rw [h1]
    by_cases Wa:i<m
    ·have h3:i<m+1:=by omega
     simp only [Wa,h3,if_true] at ih ⊢
     omega
    ·have h3:¬i<m+1:=by omega
     simp only [Wa,h3,if_false] at ih ⊢
     omega
 have:=this n
 rw [if_pos hi] at this
 exact this
theorem MX (T:va P cf aN ops tx ft ord)(hcf:CallOK P cf){L0:Nat→Prop}{c0:Cx}{n:Nat}(hb0:c0.base≤c0.w.heap.size)(An:xK n ops.toList=true){Q:Exit→Act→World→Prop}
  (hQ:∀a' w',Inv L0 c0 n (ops.toList.filterMap (·.dst)) (tx ops.size) a' w'→Q .normal a' w') :
  ∀(fuel:Nat) (listed:Array Bool) (a:Act) (w:World),listed.size=ops.size→rU ops (fun j=>listed.getD j false)→left ops.size (fun j=>listed.getD j false)≤fuel→
   Inv L0 c0 n (ops.toList.filterMap (·.dst)) (kT ops tx ft (fun j=>listed.getD j false) ops.size) a w→wpAny P .any ops Q fuel listed a w:=by
 intro fuel
 have Hg:∀(listed:Array Bool) a w,listed.size=ops.size→Region.ready .any ops listed=[]→Inv L0 c0 n (ops.toList.filterMap (·.dst)) (kT ops tx ft (fun j=>listed.getD j false) ops.size) a w→Q .normal a w:=by
  intro listed a w hsz OU hi
  have lT:∀k,k<ops.size→listed.getD k false=true:=by
   intro k
   induction k using Nat.strongRecOn with
   | _ k ih=>
    intro hk
    cases hl:listed.getD k false with
    | true=>rfl
    | false=>
     have:k∈Region.ready .any ops listed:=mem_ready.2 ⟨getD_in (by omega) hl,ops[k],by simp [hk],fun e he hb=>by
      have:=T.back k ops[k] (by simp [hk]) e he hb
      exact ih e.on this (by omega)⟩
     rw [OU] at this
     cases this
  rw [DW (S:=fun j=>listed.getD j false) T lT _ (aaE _)] at hi
  exact hQ a w hi
 induction fuel with
 | zero=>
  intro listed a w hsz hc hl hi
  have lT:=FG (Nat.le_zero.1 hl)
  have OU:Region.ready .any ops listed=[]:=by
   rw [List.eq_nil_iff_forall_not_mem]
   intro j hj
   obtain⟨h1,o,ho,_⟩:=mem_ready.1 hj
   have PV:j<ops.size:=(abc.1 ho).1
   have h2:=lT j PV
   have Hh:j<listed.size:=by omega
   simp [Hh] at h1 h2
   rw [h1] at h2; cases h2
  exact⟨OU,Hg listed a w hsz OU hi⟩
 | succ fuel ih=>
  intro listed a w hsz hc hl hi
  refine⟨fun OU=>Hg listed a w hsz OU hi,fun i y4=>?_⟩
  obtain⟨h1,o,ho,PW⟩:=mem_ready.1 y4
  have hin:i<ops.size:=(abc.1 ho).1
  have CK:i<listed.size:=by omega
  have PQ:listed.getD i false=false:=by simp [CK] at h1 ⊢; exact h1
  have FF:∀k,(listed.setIfInBounds i true).getD k false=if k=i then true else listed.getD k false:=by
   intro k
   by_cases hk:k=i
   ·subst hk
    rw [if_pos rfl]
    simp [CK]
   ·rw [if_neg hk,getD_set_ne false (abZ hk)]
  have hst:=T.next (S:=fun j=>listed.getD j false) (S':=fun k=>(listed.setIfInBounds i true).getD k false) hc ho PW PQ FF
  unfold wpOp
  rw [ho]
  simp only
  have PX:o∈ops.toList:=abC.2 (Array.mem_of_getElem? ho)
  have:=Ay (Q:=Q) (K:=wpAny P .any ops Q fuel (listed.setIfInBounds i true)) hcf hb0 rfl (Az An PX) hst hi (fun a' w' mQ=>by
   refine ih _ a' w' (by simpa using hsz) ?_ ?_ mQ
   ·intro j oj Td hj e he hb
    dsimp only at hj ⊢
    rw [FF] at hj ⊢
    by_cases hji:j=i
    ·subst hji
     rw [ho] at Td
     cases Td
     have:=PW e he hb
     rw [this]; simp
    ·rw [if_neg hji] at hj
     have:=hc j oj Td hj e he hb
     simp only at this
     rw [this]; simp
   ·have:=Hf hin (S:=fun j=>listed.getD j false) PQ FF
    omega)
  split
  ·rename_i hw; rw [if_pos hw] at this; exact .inl this
  ·rename_i hw; rw [if_neg hw] at this; exact this
theorem xO {opsL:List Oper}:∀(l:List Oper) (s r:RS) (es:List uj),rO P cf aN opsL s l=some (es,r)→∃tx:Nat→RS,tx 0=s∧tx l.length=r∧
  ∀k o,l[k]? = some o→∃w,iE opsL (tx k).ρ o=some w∧(if w then yC P cf aN (opsL.filterMap (·.dst)) (tx k) o=some (tx (k+1)) else tx (k+1)=(tx k).set o.dst (.tup []))∧
   es[k]? = some {o,f:=if w then bo aN (b8 (tx k).ρ) o else {},s:=tx k,s':=tx (k+1)}
 | [],s,r,es,h=>by
  simp only [rO,aaD,aaJ] at h
  obtain⟨rfl,rfl⟩:=h
  exact⟨fun _=>s,rfl,rfl,fun k o ho=>by simp at ho⟩
 | o::l,s,r,es,h=>by
  simp only [rO,aaB,aaC] at h
  obtain⟨w,hw,s1,h1,⟨sR,r'⟩,h2,h3⟩:=h
  simp only [aaJ] at h3
  obtain⟨rfl,rfl⟩:=h3
  obtain⟨tx,t0,tn,ht⟩:=xO l s1 r' sR h2
  refine⟨fun | 0=>s | k+1=>tx k,rfl,tn,fun k o' ho=>?_⟩
  cases k with
  | zero=>
   simp only [abk,aaD] at ho
   subst ho
   refine⟨w,hw,?_,?_⟩
   ·cases w with
    | true=>simpa [t0] using h1
    | false=>
     simp only [aaS,if_false,aaD] at h1 ⊢
     rw [t0]; exact h1.symm
   ·simp [t0]
  | succ k=>
   obtain⟨w',h4,h5,h6⟩:=ht k o' (by simpa using ho)
   exact⟨w',h4,h5,by simpa using h6⟩
theorem Hi {e:Operand→AV}{o:Oper}(h:(bo aN e o).al=true):(bo aN e o).wb.isSome=true:=by
 unfold bo at h ⊢
 split at h<;>try (cases h; done)
 all_goals (split at h<;>try (cases h; done))
 all_goals (split at h<;>try (cases h; done))
 all_goals simp_all
theorem FH {k:Nat}{x:AV}(h:MD k x=false):∀off,x≠.lp k off:=by
 rintro off rfl
 simp [MD] at h
theorem Hj (hm:P.follows .mixedOrders=true)(hcf:CallOK P cf)(Yp:SteadyF cf):CJ P cf:=by
 intro L0 c0 n aN id ops s s' h hb0 An a w Q hi hQ
 unfold mr at h
 dsimp only at h
 split at h
 rotate_left
 ·cases h
 rename_i y5
 rw [aaB] at h
 obtain⟨⟨es,r⟩,CA,h⟩:=h
 simp only at h
 split at h
 rotate_left
 ·cases h
 rename_i AF
 cases h
 obtain⟨tx,t0,tn,ht⟩:=xO ops.toList s s' es CA
 generalize Pl:kD [] ops.toList=ms at y5 AF
 have Te:∀k i,(ms.getD i 0).testBit k=true→∃o,ops[i]? = some o∧∃e∈o.after,Region.binds .any e=true∧(e.on=k∨(ms.getD e.on 0).testBit k=true):=by
  intro k i hk
  obtain⟨o,ho,e,he,hb,h1⟩:=(s8 ops.toList []).2 i k (by rw [Pl]; exact hk) (by simp)
  refine⟨o,by simpa using ho,e,abC.1 he,hb,?_⟩
  rw [Pl] at h1
  exact h1
 unfold rN at y5
 simp only [aaF] at y5
 obtain⟨MY,Hk⟩:=y5
 let ft:Nat→lH:=fun k=>((es[k]?).map (·.f)).getD {}
 have uT:∀k o,ops[k]? = some o→∃w,iE ops.toList (tx k).ρ o=some w∧(if w then yC P cf aN (ops.toList.filterMap (·.dst)) (tx k) o=some (tx (k+1)) else tx (k+1)=(tx k).set o.dst (.tup []))∧
   es[k]? = some {o,f:=ft k,s:=tx k,s':=tx (k+1)}∧ft k=if w then bo aN (b8 (tx k).ρ) o else {}:=by
  intro k o ho
  obtain⟨w,h1,h2,h3⟩:=ht k o (by simpa using ho)
  have OS:ft k=if w then bo aN (b8 (tx k).ρ) o else {}:=by simp only [ft,h3,aaG,aby]
  exact⟨w,h1,h2,by rw [OS]; exact h3,OS⟩
 have y4:∀k o,ops[k]? = some o→((⟨o,ft k,tx k,tx (k+1)⟩:uj),k)∈es.zipIdx:=by
  intro k o ho
  obtain⟨w,_,_,h3,_⟩:=uT k o ho
  exact List.mk_mem_zipIdx_iff_getElem?.2 h3
 simp only [abd,ace,aaF] at AF
 have Ca:∀k o,ops[k]? = some o→(ft k).quiet=false→(((⟨o,ft k,tx k,tx (k+1)⟩:uj),k)∈es.zipIdx∧(!(ft k).quiet)=true):=fun k o ho hq=>⟨y4 k o ho,by rw [hq]; rfl⟩
 have ME:∀k,k<ops.size→ops[k]? = some ops[k]!:=fun k hk=>by simp [hk]
 have MZ:∀i j x y,ops[i]? = some x→ops[j]? = some y→i≠j→(ft i).quiet=false→(ft j).quiet=false→(ms.getD j 0).testBit i=true∨(ms.getD i 0).testBit j=true∨
   uj.rM ⟨x,ft i,tx i,tx (i+1)⟩ ⟨y,ft j,tx j,tx (j+1)⟩=true:=by
  intro i j x y hx hy xM J5 J6
  rcases Nat.lt_or_ge i j with hlt | hge
  ·have:=(AF _ (Ca i x hx J5)).2 _ (Ca j y hy J6)
   simp only [abt,aaF] at this
   rcases this with (h1 | h1) | h1
   ·have:=Nat.le_of_ble_eq_true h1; omega
   ·exact .inl h1
   ·exact .inr (.inr h1.1)
  ·have:=(AF _ (Ca j y hy J6)).2 _ (Ca i x hx J5)
   simp only [abt,aaF] at this
   rcases this with (h1 | h1) | h1
   ·have:=Nat.le_of_ble_eq_true h1; omega
   ·exact .inr (.inl h1)
   ·exact .inr (.inr h1.2)
 have Tf:∀id,(tx 0).h.ver id<(tx 0).h.next:=by
  obtain⟨_,c,Lo,lam,_,f,_⟩:=hi
  rw [t0,←f.h]; exact f.rel.ver
 have hst:∀k,k<ops.size→Steady (tx k).h (tx (k+1)).h:=by
  intro k hk
  obtain⟨w,h1,h2,_⟩:=uT k _ (ME k hk)
  cases w with
  | true=>exact u9 Yp (by simpa [yC] using h2)
  | false=>
   simp only [aaS,if_false] at h2
   rw [h2,jY]; exact Steady.refl _
 have RQ:∀k,k≤ops.size→∀id,(tx k).h.ver id<(tx k).h.next:=by
  intro k
  induction k with
  | zero=>intro _; exact Tf
  | succ k ih=>intro hk; exact (hst k (by omega)).wf (ih (by omega))
 have T:va P cf aN ops tx ft (fun k i=>(ms.getD i 0).testBit k=true):=by
  refine⟨fun k o ho=>?_,Te,fun i o ho e he hb=>?_,fun i j x y xM hx hy=>?_,fun i j hin PV xM=>?_,fun i o d ho pO hd=>?_⟩
  ·obtain⟨w,h1,h2,h3,h4⟩:=uT k o ho
   refine⟨w,h1,?_⟩
   cases w with
   | true=>exact⟨h2,h4⟩
   | false=>exact⟨h2,h4⟩
  ·have:=qh _ 0 MY i o (by simpa using ho) e (abC.2 he) hb
   omega
  ·have jf:∀x y:Oper,yD ops x y=true→∀d,x.dst=some d→d∉y.looksAt ops∧y.dst≠some d:=by
    intro x y h d hd
    unfold yD at h
    rw [hd] at h
    simpa using h
   rcases Nat.lt_or_ge i j with hlt | hge
   ·have:=lB _ _ 0 Hk i j x y hlt (by simpa using hx) (by simpa using hy)
    simp only [aaZ,abt,aaF] at this
    rcases this with h1 | h1
    ·exact .inl h1
    ·exact .inr (.inr (jf _ _ h1.1))
   ·have:=lB _ _ 0 Hk j i y x (by omega) (by simpa using hy) (by simpa using hx)
    simp only [aaZ,abt,aaF] at this
    rcases this with h1 | h1
    ·exact .inr (.inl h1)
    ·exact .inr (.inr (jf _ _ h1.2))
  ·cases J5:(ft i).quiet with
   | true=>
    unfold lH.quiet at J5
    simp only [aaF,Option.isNone_iff_eq_none,ab4] at J5
    exact .inr (.inr ⟨fun k hk=>(by rw [J5.1.1.2] at hk; cases hk),fun hk=>(by rw [J5.2] at hk; cases hk)⟩)
   | false=>
    cases J6:(ft j).quiet with
    | true=>
     unfold lH.quiet at J6
     simp only [aaF,Option.isNone_iff_eq_none,ab4,List.isEmpty_iff] at J6
     obtain⟨⟨⟨q1,q2⟩,q3⟩,q4⟩:=J6
     exact .inr (.inr ⟨fun k hk=>⟨by rw [q1]; simp,by rw [q2]; simp⟩,fun hk=>⟨q4,by rw [q3]; simp⟩⟩)
    | false=>
     rcases MZ i j _ _ (ME i hin) (ME j PV) xM J5 J6 with h1 | h1 | h1
     ·exact .inl h1
     ·exact .inr (.inl h1)
     ·refine .inr (.inr ?_)
      unfold uj.rM at h1
      simp only [aaF,abt,ab4,abd] at h1
      obtain⟨h2,h3⟩:=h1
      refine⟨fun k hk=>?_,fun hk=>?_⟩
      ·rw [hk] at h2
       simpa using h2
      ·rcases h3 with h3 | h3
       ·rw [hk] at h3; cases h3
       ·refine⟨h3.1,fun id hid=>?_⟩
        have hv:=abY (h3.2 id hid)
        rcases (hst i hin).keep id with⟨_,h5⟩| h5
        ·exact h5.symm
        ·have:=RQ i (by omega) id; omega
  ·obtain⟨w,h1,h2,h3,h4⟩:=uT i o ho
   have hq:(ft i).quiet=false:=by
    cases w with
    | false=>rw [h4] at pO; cases pO
    | true=>
     rw [h4] at pO ⊢
     have:=Hi pO
     unfold lH.quiet
     simp only [if_true] at this ⊢
     cases hwb:(bo aN (b8 (tx i).ρ) o).wb with
     | none=>rw [hwb] at this; cases this
     | some k=>simp
   have:=(AF _ (Ca i o ho hq)).1
   unfold yE at this
   simp only [pO,hd] at this
   simp only [aaF,abd,abt] at this
   obtain⟨k1,k2⟩:=this
   refine⟨fun t ht LK off=>?_,fun j y t hy hji=>?_⟩
   ·rw [t0]
    exact rQ k1 t (by rw [ace]; exact⟨ht,by simpa [beq_nat] using LK⟩) off
   ·have:=k2 _ (y4 j y hy)
    rcases this with (h5 | h5) | h5
    ·have:=abY h5; omega
    ·exact .inl h5
    ·right
     intro MV off
     simp only [uj.out,MV,ab4] at h5
     exact FH h5 off
 have hlen:tx ops.size=s':=by simpa using tn
 refine wp_region_any hm ?_
 refine MX T hcf hb0 An (fun a' w' mQ=>hQ a' w' (by rw [hlen] at mQ; exact mQ)) ops.size _ _ _ (by simp) ?_ ?_ ?_
 ·intro j o _ hj
  simp only [getD_replicate_false] at hj
  cases hj
 ·unfold left
  exact abj (List.countP_le_length) (by simp)
 ·have G4:∀k,kT ops tx ft (fun j=>(Array.replicate ops.size false).getD j false) k=tx 0:=by
   intro k
   induction k with
   | zero=>rfl
   | succ k ih=>
    rw [kT,getD_replicate_false,if_neg (by simp)]
    exact ih
  rw [G4,t0]
  exact hi.drew
end
end Go.R
namespace Go.R
open Go
section
variable {c d:Cx}{L L':Nat→Prop}
mutual
theorem DX (hw:d.w=c.w)(hbs:d.base≤c.base)(mC:∀b,RO c L b→RO d L' b):∀(x:AV) (v:Value),x.eY=true→VR c L x v→VR d L' x v
 | .any,_,h,_=>by simp [AV.eY] at h
 | .bool _,_,_,h=>h
 | .int _ _,_,_,h=>h
 | .str _,_,_,h=>h
 | .tz,_,_,h=>h
 | .ptr _ _,_,h,_=>by simp [AV.eY] at h
 | .lp _ _,_,h,_=>by simp [AV.eY] at h
 | .fp cs off,v,h,hv=>by
  simp only [AV.eY] at h
  simp only [VR] at hv ⊢
  obtain⟨b,o,rfl,hc⟩:=hv
  exact⟨b,o,rfl,hc.imp id fun ⟨hr,hc⟩=>⟨mC b hr,px hw hbs mC cs b o h hc⟩⟩
 | .nils,_,_,h=>h
 | .fz cs n ex,v,h,hv=>by
  simp only [AV.eY] at h
  simp only [VR] at hv ⊢
  obtain⟨a,cap,rfl,h1,h2,hs,hc⟩:=hv
  exact⟨a,cap,rfl,h1,h2,hs,hc.imp id fun ⟨b,o,ha,hr,hex,hc⟩=>⟨b,o,ha,mC b hr,fun h=>abj hbs (hex h),px hw hbs mC cs b o h hc⟩⟩
 | .rs _ _ _ _,_,h,_=>by simp [AV.eY] at h
 | .ph,_,_,h=>h
 | .mp _,_,h,_=>by simp [AV.eY] at h
 | .fn f cap,v,h,hv=>by
  simp only [AV.eY] at h
  simp only [VR] at hv ⊢
  obtain⟨vs,rfl,h1⟩:=hv
  exact⟨vs,rfl,qn hw hbs mC cap vs.toList h h1⟩
 | .uI,_,_,h=>h
 | .agg cs,v,h,hv=>by
  simp only [AV.eY] at h
  simp only [VR] at hv ⊢
  obtain⟨vs,rfl,h1⟩:=hv
  exact⟨vs,rfl,qn hw hbs mC cs vs.toList h h1⟩
 | .tup cs,v,h,hv=>by
  simp only [AV.eY] at h
  simp only [VR] at hv ⊢
  obtain⟨vs,rfl,h1⟩:=hv
  exact⟨vs,rfl,qn hw hbs mC cs vs.toList h h1⟩
theorem qn (hw:d.w=c.w)(hbs:d.base≤c.base)(mC:∀b,RO c L b→RO d L' b):∀(xs:List AV) (vs:List Value),ef xs=true→VRs c L xs vs→VRs d L' xs vs
 | [],[],_,_=>trivial
 | x::xs,v::vs,h,hv=>by
  simp only [ef,aaF] at h
  exact⟨DX hw hbs mC x v h.1 hv.1,qn hw hbs mC xs vs h.2 hv.2⟩
 | [],_::_,_,h=>h.elim
 | _::_,[],_,h=>h.elim
theorem px (hw:d.w=c.w)(hbs:d.base≤c.base)(mC:∀b,RO c L b→RO d L' b):∀(xs:List AV) (b o:Nat),ef xs=true→Cells c L xs b o→Cells d L' xs b o
 | [],_,_,_,_=>trivial
 | x::xs,b,o,h,hv=>by
  simp only [ef,aaF] at h
  obtain⟨⟨v,h1,h2,h3⟩,h4⟩:=hv
  exact⟨⟨v,by rw [hw]; exact h1,h2,DX hw hbs mC x v h.1 h3⟩,px hw hbs mC xs b (o+1) h.2 h4⟩
end
mutual
theorem y6 (hw:d.w=c.w)(mC:∀b,RO c L b→RO d L' b):∀(x:AV) (v:Value),x.eY=true→VR c L x v→VR d L' x.lu v
 | .any,_,h,_=>by simp [AV.eY] at h
 | .bool _,_,_,h=>h
 | .int _ _,_,_,h=>h
 | .str _,_,_,h=>h
 | .tz,_,_,h=>h
 | .ptr _ _,_,h,_=>by simp [AV.eY] at h
 | .lp _ _,_,h,_=>by simp [AV.eY] at h
 | .fp cs off,v,h,hv=>by
  simp only [AV.eY] at h
  simp only [VR,AV.lu] at hv ⊢
  obtain⟨b,o,rfl,hc⟩:=hv
  refine⟨b,o,rfl,?_⟩
  rcases hc with rfl | ⟨hr,hc⟩
  ·exact .inl rfl
  ·exact .inr ⟨mC b hr,rV hw mC cs b o h hc⟩
 | .nils,v,_,h=>by
  simp only [VR] at h
  simp only [AV.lu,VR]
  exact⟨none,0,h,aaE _,by simp,.inr ⟨trivial,rfl⟩,.inl trivial⟩
 | .fz cs n ex,v,h,hv=>by
  simp only [AV.eY] at h
  simp only [VR,AV.lu] at hv ⊢
  obtain⟨a,cap,rfl,h1,h2,hs,hc⟩:=hv
  refine⟨a,cap,rfl,h1,by simp,hs.imp id fun h=>⟨by rw [h.1]; rfl,h.2⟩,?_⟩
  rcases hc with rfl | ⟨b,o,ha,hr,hex,hc⟩
  ·exact .inl rfl
  ·exact .inr ⟨b,o,ha,mC b hr,by simp,rV hw mC cs b o h hc⟩
 | .rs _ _ _ _,_,h,_=>by simp [AV.eY] at h
 | .ph,_,_,h=>h
 | .mp _,_,h,_=>by simp [AV.eY] at h
 | .fn f cap,v,h,hv=>by
  simp only [AV.eY] at h
  simp only [VR,AV.lu] at hv ⊢
  obtain⟨vs,rfl,h1⟩:=hv
  exact⟨vs,rfl,qo hw mC cap vs.toList h h1⟩
 | .uI,_,_,h=>h
 | .agg cs,v,h,hv=>by
  simp only [AV.eY] at h
  simp only [VR,AV.lu] at hv ⊢
  obtain⟨vs,rfl,h1⟩:=hv
  exact⟨vs,rfl,qo hw mC cs vs.toList h h1⟩
 | .tup cs,v,h,hv=>by
  simp only [AV.eY] at h
  simp only [VR,AV.lu] at hv ⊢
  obtain⟨vs,rfl,h1⟩:=hv
  exact⟨vs,rfl,qo hw mC cs vs.toList h h1⟩
theorem qo (hw:d.w=c.w)(mC:∀b,RO c L b→RO d L' b):∀(xs:List AV) (vs:List Value),ef xs=true→VRs c L xs vs→VRs d L' (fE xs) vs
 | [],[],_,_=>trivial
 | x::xs,v::vs,h,hv=>by
  simp only [ef,aaF] at h
  exact⟨y6 hw mC x v h.1 hv.1,qo hw mC xs vs h.2 hv.2⟩
 | [],_::_,_,h=>h.elim
 | _::_,[],_,h=>h.elim
theorem rV (hw:d.w=c.w)(mC:∀b,RO c L b→RO d L' b):∀(xs:List AV) (b o:Nat),ef xs=true→Cells c L xs b o→Cells d L' (fE xs) b o
 | [],_,_,_,_=>trivial
 | x::xs,b,o,h,hv=>by
  simp only [ef,aaF] at h
  obtain⟨⟨v,h1,h2,h3⟩,h4⟩:=hv
  exact⟨⟨v,by rw [hw]; exact h1,h2,y6 hw mC x v h.1 h3⟩,rV hw mC xs b (o+1) h.2 h4⟩
end
mutual
theorem rW (hw:d.w=c.w)(mC:∀b,RO c L b→RO d L' b)(hrel:HRel c L)(hid:∀id,Live c.h id→RO d L' (c.β id).1):∀(n:Nat) (x y:AV) (v:Value),cW c.h n x=some y→VR c L x v→VR d L' y v
 | 0,x,y,v,h,_=>by simp [cW] at h
 | n+1,x,y,v,h,hv=>by
  have Tg:(if x.eY then some x.lu else none)=some y→VR d L' y v:=by
   intro h
   split at h
   ·rename_i hn; cases h; exact y6 hw mC x v hn hv
   ·cases h
  cases x with
  | ptr id off=>
   simp only [cW,aaB] at h
   obtain⟨ob,ho,h⟩:=h
   cases ob with
   | map es=>cases h
   | row t cs=>cases h
   | cells cs=>
    simp only [aaC] at h
    obtain⟨fU,hcs,rfl⟩:=h
    have hl:Live c.h id:=⟨hrel.lt _ _ ho,by simp [ho]⟩
    obtain⟨m,_,_,hc⟩:=hrel.obj _ _ ho
    simp only [VR] at hv ⊢
    obtain⟨_,a,rfl,ha⟩:=hv
    rw [ha hl]
    exact⟨_,_,rfl,.inr ⟨hid id hl,kK hw mC hrel hid n cs fU _ _ hcs hc⟩⟩
  | rs id off len jG=>
   simp only [cW] at h
   split at h
   ·rename_i hid
    split at h
    rotate_left
    ·cases h
    rename_i hl0
    cases h
    simp only [VR] at hv ⊢
    rcases hv with⟨_,_,_,a,rfl⟩| hv
    ·exact⟨a,0,rfl,aaE _,by simp,.inr ⟨trivial,rfl⟩,.inl trivial⟩
    ·exact absurd hid hv.1
   rename_i lP
   rw [aaB] at h
   obtain⟨ob,ho,h⟩:=h
   cases ob with
   | map es=>cases h
   | row t cs=>cases h
   | cells cs=>
    simp only at h
    split at h
    rotate_left
    ·cases h
    rename_i hle
    simp only [aaC] at h
    obtain⟨fU,hcs,rfl⟩:=h
    have hl:Live c.h id:=⟨hrel.lt _ _ ho,by simp [ho]⟩
    obtain⟨m,_,_,hc⟩:=hrel.obj _ _ ho
    simp only [VR] at hv ⊢
    rcases hv with hv | ⟨_,_,a,cap,rfl,h1,h2,h3⟩
    ·exact absurd hv.1 lP
    refine⟨a,cap,rfl,h1,by simp,.inl h2,?_⟩
    rcases h3 hl with⟨h4,_⟩| h4
    ·exact .inr ⟨_,_,h4,hid id hl,by simp,kK hw mC hrel hid n _ fU _ _ hcs ((hc.drop off).take (len*jG))⟩
    ·left
     have hz:len=0:=by omega
     subst hz
     rw [Nat.zero_mul,List.take_zero] at hcs
     cases n with
     | zero=>simp [b5] at hcs
     | succ n=>simp only [b5,aaD] at hcs; exact hcs.symm
  | agg cs=>
   simp only [cW,aaC] at h
   obtain⟨fU,hcs,rfl⟩:=h
   simp only [VR] at hv ⊢
   obtain⟨vs,rfl,h1⟩:=hv
   exact⟨vs,rfl,lf hw mC hrel hid n cs fU vs.toList hcs h1⟩
  | tup cs=>
   simp only [cW,aaC] at h
   obtain⟨fU,hcs,rfl⟩:=h
   simp only [VR] at hv ⊢
   obtain⟨vs,rfl,h1⟩:=hv
   exact⟨vs,rfl,lf hw mC hrel hid n cs fU vs.toList hcs h1⟩
  | _=>exact Tg (by simpa only [cW] using h)
theorem lf (hw:d.w=c.w)(mC:∀b,RO c L b→RO d L' b)(hrel:HRel c L)(hid:∀id,Live c.h id→RO d L' (c.β id).1):∀(n:Nat) (xs ys:List AV) (vs:List Value),b5 c.h n xs=some ys→VRs c L xs vs→VRs d L' ys vs
 | 0,xs,ys,vs,h,_=>by simp [b5] at h
 | n+1,[],ys,vs,h,hv=>by
  simp only [b5,aaD] at h
  subst h
  cases vs with
  | nil=>trivial
  | cons v vs=>exact hv.elim
 | n+1,x::xs,ys,vs,h,hv=>by
  simp only [b5,aaB,aaC] at h
  obtain⟨y,hy,zs,hz,rfl⟩:=h
  cases vs with
  | nil=>exact hv.elim
  | cons v vs=>exact⟨rW hw mC hrel hid n x y v hy hv.1,lf hw mC hrel hid n xs zs vs hz hv.2⟩
theorem kK (hw:d.w=c.w)(mC:∀b,RO c L b→RO d L' b)(hrel:HRel c L)(hid:∀id,Live c.h id→RO d L' (c.β id).1):∀(n:Nat) (xs ys:List AV) (b o:Nat),b5 c.h n xs=some ys→Cells c L xs b o→Cells d L' ys b o
 | 0,xs,ys,b,o,h,_=>by simp [b5] at h
 | n+1,[],ys,b,o,h,hv=>by
  simp only [b5,aaD] at h
  subst h
  trivial
 | n+1,x::xs,ys,b,o,h,hv=>by
  simp only [b5,aaB,aaC] at h
  obtain⟨y,hy,zs,hz,rfl⟩:=h
  obtain⟨⟨v,h1,h2,h3⟩,h4⟩:=hv
  exact⟨⟨v,by rw [hw]; exact h1,h2,rW hw mC hrel hid n x y v hy h3⟩,kK hw mC hrel hid n xs zs b (o+1) hz h4⟩
end
mutual
theorem py (hw:d.w=c.w)(hrel:HRel c L)(hid:∀id,Live c.h id→RO d L' (c.β id).1):∀(n:Nat) (x y:AV) (v:Value),gA c.h n x=some y→VR c L x v→VR d L' y v
 | 0,x,y,v,h,_=>by simp [gA] at h
 | n+1,x,y,v,h,hv=>by
  unfold gA at h
  split at h
  ·cases h; exact hv
  ·cases h; exact hv
  ·cases h; exact hv
  ·cases h; exact hv
  ·cases h; exact hv
  ·cases h; exact hv
  ·cases h
   simp only [VR] at hv ⊢
   exact⟨none,0,hv,aaE _,by simp,.inr ⟨trivial,rfl⟩,.inl trivial⟩
  ·cases h
   simp only [VR] at hv ⊢
   obtain⟨a,cap,rfl,h1,h2,hs,_⟩:=hv
   exact⟨a,cap,rfl,h1,by simp,hs,.inl trivial⟩
  ·rename_i id off len jG
   split at h
   ·rename_i lP
    split at h
    rotate_left
    ·cases h
    rename_i hl0
    cases h
    simp only [VR] at hv ⊢
    rcases hv with⟨_,_,_,a,rfl⟩| hv
    ·exact⟨a,0,rfl,aaE _,by simp,.inr ⟨trivial,rfl⟩,.inl trivial⟩
    ·exact absurd lP hv.1
   rename_i lP
   rw [aaB] at h
   obtain⟨ob,ho,h⟩:=h
   cases ob with
   | map es=>cases h
   | row t cs=>cases h
   | cells cs=>
    simp only at h
    split at h
    rotate_left
    ·cases h
    rename_i hle
    simp only [aaC] at h
    obtain⟨fU,hcs,rfl⟩:=h
    have hl:Live c.h id:=⟨hrel.lt _ _ ho,by simp [ho]⟩
    obtain⟨m,_,_,hc⟩:=hrel.obj _ _ ho
    simp only [VR] at hv ⊢
    rcases hv with hv | ⟨_,_,a,cap,rfl,h1,h2,h3⟩
    ·exact absurd hv.1 lP
    refine⟨a,cap,rfl,h1,by simp,.inl h2,?_⟩
    rcases h3 hl with⟨h4,_⟩| h4
    ·exact .inr ⟨_,_,h4,hid id hl,by simp,mR hw hrel hid n _ fU _ _ hcs ((hc.drop off).take (len*jG))⟩
    ·left
     have hz:len=0:=by omega
     subst hz
     rw [Nat.zero_mul,List.take_zero] at hcs
     cases n with
     | zero=>simp [dH] at hcs
     | succ n=>simp only [dH,aaD] at hcs; exact hcs.symm
  ·rename_i cs
   simp only [aaC] at h
   obtain⟨fU,hcs,rfl⟩:=h
   simp only [VR] at hv ⊢
   obtain⟨vs,rfl,h1⟩:=hv
   exact⟨vs,rfl,ny hw hrel hid n cs fU vs.toList hcs h1⟩
  ·rename_i cs
   simp only [aaC] at h
   obtain⟨fU,hcs,rfl⟩:=h
   simp only [VR] at hv ⊢
   obtain⟨vs,rfl,h1⟩:=hv
   exact⟨vs,rfl,ny hw hrel hid n cs fU vs.toList hcs h1⟩
  ·cases h
theorem ny (hw:d.w=c.w)(hrel:HRel c L)(hid:∀id,Live c.h id→RO d L' (c.β id).1):∀(n:Nat) (xs ys:List AV) (vs:List Value),dH c.h n xs=some ys→VRs c L xs vs→VRs d L' ys vs
 | 0,xs,ys,vs,h,_=>by simp [dH] at h
 | n+1,[],ys,vs,h,hv=>by
  simp only [dH,aaD] at h
  subst h
  cases vs with
  | nil=>trivial
  | cons v vs=>exact hv.elim
 | n+1,x::xs,ys,vs,h,hv=>by
  simp only [dH,aaB,aaC] at h
  obtain⟨y,hy,zs,hz,rfl⟩:=h
  cases vs with
  | nil=>exact hv.elim
  | cons v vs=>exact⟨py hw hrel hid n x y v hy hv.1,ny hw hrel hid n xs zs vs hz hv.2⟩
theorem mR (hw:d.w=c.w)(hrel:HRel c L)(hid:∀id,Live c.h id→RO d L' (c.β id).1):∀(n:Nat) (xs ys:List AV) (b o:Nat),dH c.h n xs=some ys→Cells c L xs b o→Cells d L' ys b o
 | 0,xs,ys,b,o,h,_=>by simp [dH] at h
 | n+1,[],ys,b,o,h,hv=>by
  simp only [dH,aaD] at h
  subst h
  trivial
 | n+1,x::xs,ys,b,o,h,hv=>by
  simp only [dH,aaB,aaC] at h
  obtain⟨y,hy,zs,hz,rfl⟩:=h
  obtain⟨⟨v,h1,h2,h3⟩,h4⟩:=hv
  exact⟨⟨v,by rw [hw]; exact h1,h2,py hw hrel hid n x y v hy h3⟩,mR hw hrel hid n xs zs b (o+1) hz h4⟩
end
end
section
variable {P:Program}
theorem Kw {cf:CallF}(hcf:CallOK P cf)(deep:Nat):CallOK P fun f args h=>if ef args then (cf f (fE args) bS).bind fun x=>(cW x.2 deep x.1).map fun r=>(r,h) else cf f args h:=by
 intro f args h r h' hc
 dsimp only at hc
 split at hc
 rotate_left
 ·exact hcf f args h r h' hc
 rename_i tE
 rw [aaB] at hc
 obtain⟨⟨x,h1⟩,hx,hc⟩:=hc
 rw [aaC] at hc
 obtain⟨r',hr,he⟩:=hc
 simp only [aaJ] at he
 obtain⟨rfl,rfl⟩:=he
 obtain⟨hin,hcall⟩:=hcf f (fE args) bS x h1 hx
 refine⟨hin,fun L0 c vs hh hb0 hrel hargs=>?_⟩
 let L1:Nat→Prop:=fun b=>L0 b∨∃id,Live c.h id∧(c.β id).1=b
 let c0:Cx:=⟨fun _=>(0,0),bS,c.w,c.w.heap.size⟩
 have hnl:∀id,¬Live c0.h id:=fun id hl=>by have:=hl.2; cases this
 have M0:∀b,RO c L0 b→RO c0 L1 b:=fun b hb=>⟨fun id hl=>absurd hl (hnl id),fun h=>by
  rcases h with h | ⟨id,h1,h2⟩
  ·exact hb.2 h
  ·exact hb.1 id h1 h2⟩
 have Hl:HRel c0 L1:=⟨fun id o ho=>(by cases ho),fun id o ho=>(by cases ho),fun id _ hl _ _=>absurd hl (hnl id),fun id hl=>absurd hl (hnl id),fun b hb=>by
  rcases hb with h | ⟨id,h1,h2⟩
  ·exact hrel.bd b h
  ·rw [←h2]; exact hrel.block h1,fun id hl=>absurd hl (hnl id),fun _=>Nat.zero_lt_one⟩
 refine (hcall L1 c0 vs rfl (aaE _) Hl (qo (c:=c) (d:=c0) rfl M0 _ _ tE hargs)).mono ?_
 rintro e w' ⟨c1,v,rfl,rfl,Th,hv,hrel1,e1⟩
 let d:Cx:=⟨c.β,c.h,c1.w,c.base⟩
 have hk:∀b,b<c.w.heap.size→c1.w.heap[b]? = c.w.heap[b]?:=fun b hb=>e1.exact b hb
 have ed:Ext c none0 d none0:=⟨aaE _,fun id _ hl=>⟨hl,rfl,jr.len (c:=c) (c':=d) (.inl (hk _ (hrel.block hl)))⟩,e1.size,fun b hb _ _=>.inl (hk b hb),fun b hb=>hk b (aa9 hb hb0),rfl,fun id hl=>.inr ⟨id,hl,rfl⟩,fun _ h=>h,fun _ h=>.inl h,e1.os,e1.tape,e1.output⟩
 have hb1:d.base≤c1.base:=by rw [e1.base]; exact hb0
 have Tk:∀b,RO c1 L1 b→RO d L0 b:=fun b hb=>⟨fun id hl he=>hb.2 (.inr ⟨id,hl,he⟩),fun h=>hb.2 (.inl h)⟩
 refine⟨d,v,rfl,rfl,hh,?_,⟨hrel.lt,fun id o ho=>?_,hrel.inj,hrel.out,fun b hb=>aa9 (hrel.bd b hb) e1.size,hrel.low,hrel.ver⟩,ed⟩
 ·refine rW (c:=c1) (d:=d) (L:=L1) rfl Tk hrel1 (fun id hl=>⟨fun pU xy he=>hrel1.out id hl (.inr ⟨pU,xy,he⟩),fun h=>hrel1.out id hl (.inl h)⟩) deep x r' v ?_ hv
  rw [Th]; exact hr
 ·have hl:Live c.h id:=⟨hrel.lt _ _ ho,by rw [ho]; rfl⟩
  have:=(hrel.obj id o ho)
  have h2:=tB.ext (L0:=L0) ed (b:=(c.β id).1) (base:=(c.β id).2) (o:=o) (by rw [lU]; exact this) (hk _ (hrel.block hl))
  rw [lU] at h2
  exact h2
theorem qp {c:Cx}{L:Nat→Prop}:∀{xs:List AV} {vs:List Value},VRs c L xs vs→VRs c L (xs.map aC) vs
 | [],[],_=>trivial
 | x::_,_::_,h=>⟨by
   unfold aC
   cases hn:x.eY with
   | false=>exact h.1
   | true=>exact y6 rfl (fun _ h=>h) x _ hn h.1,qp h.2⟩
 | [],_::_,h=>h.elim
 | _::_,[],h=>h.elim
theorem AG {cf:CallF}(hcf:CallOK P cf):CallOK P fun f args h=>cf f (args.map aC) h:=by
 intro f args h r h' hc
 obtain⟨h1,h2⟩:=hcf f _ h r h' hc
 exact⟨h1,fun L0 c vs hh hb0 hrel hargs=>h2 L0 c vs hh hb0 hrel (qp hargs)⟩
theorem Kx {cf:CallF}(hcf:CallOK P cf)(deep:Nat):CallOK P fun f args h=>(b5 h deep args).bind fun as=>(cf f as bS).bind fun x=>(gA x.2 deep x.1).map fun r=>(r,h):=by
 intro f args h r h' hc
 dsimp only at hc
 simp only [aaB,aaC,aaJ] at hc
 obtain⟨as,has,⟨x,h1⟩,hx,r',hr,rfl,rfl⟩:=hc
 obtain⟨hin,hcall⟩:=hcf f as bS x h1 hx
 refine⟨hin,fun L0 c vs hh hb0 hrel hargs=>?_⟩
 let c0:Cx:=⟨fun _=>(0,0),bS,c.w,c.w.heap.size⟩
 have hnl:∀id,¬Live c0.h id:=fun id hl=>by have:=hl.2; cases this
 have M0:∀b,RO c L0 b→RO c0 L0 b:=fun b hb=>⟨fun id hl=>absurd hl (hnl id),hb.2⟩
 have Hl:HRel c0 L0:=⟨fun id o ho=>(by cases ho),fun id o ho=>(by cases ho),fun id _ hl _ _=>absurd hl (hnl id),fun id hl=>absurd hl (hnl id),hrel.bd,fun id hl=>absurd hl (hnl id),fun _=>Nat.zero_lt_one⟩
 have M3:VRs c0 L0 as vs:=lf (c:=c) (d:=c0) rfl M0 hrel (fun id hl=>⟨fun pU xy=>absurd xy (hnl pU),hrel.out id hl⟩) deep args as vs (by rw [hh]; exact has) hargs
 refine (hcall L0 c0 vs rfl (aaE _) Hl M3).mono ?_
 rintro e w' ⟨c1,v,rfl,rfl,Th,hv,hrel1,e1⟩
 let d:Cx:=⟨c.β,c.h,c1.w,c.base⟩
 have hk:∀b,b<c.w.heap.size→c1.w.heap[b]? = c.w.heap[b]?:=fun b hb=>e1.exact b hb
 have ed:Ext c none0 d none0:=⟨aaE _,fun id _ hl=>⟨hl,rfl,jr.len (c:=c) (c':=d) (.inl (hk _ (hrel.block hl)))⟩,e1.size,fun b hb _ _=>.inl (hk b hb),fun b hb=>hk b (aa9 hb hb0),rfl,fun id hl=>.inr ⟨id,hl,rfl⟩,fun _ h=>h,fun _ h=>.inl h,e1.os,e1.tape,e1.output⟩
 refine⟨d,v,rfl,rfl,hh,?_,⟨hrel.lt,fun id o ho=>?_,hrel.inj,hrel.out,fun b hb=>aa9 (hrel.bd b hb) e1.size,hrel.low,hrel.ver⟩,ed⟩
 ·refine py (c:=c1) (d:=d) (L:=L0) rfl hrel1 (fun id hl=>⟨fun pU xy he=>?_,hrel1.out id hl⟩) deep x r' v ?_ hv
  ·rcases e1.LI id hl with h2 | ⟨sS,h2,_⟩
   ·have:=hrel.block xy
    have h3:(c.β pU).1=(c1.β id).1:=he
    have h4:c.w.heap.size≤(c1.β id).1:=h2
    omega
   ·exact absurd h2 (hnl sS)
  ·rw [Th]; exact hr
 ·have hl:Live c.h id:=⟨hrel.lt _ _ ho,by rw [ho]; rfl⟩
  have:=(hrel.obj id o ho)
  have h2:=tB.ext (L0:=L0) ed (b:=(c.β id).1) (base:=(c.β id).2) (o:=o) (by rw [lU]; exact this) (hk _ (hrel.block hl))
  rw [lU] at h2
  exact h2
theorem mD {T:pT}(s9:IntrOK P T.intr)(m:Nat):∀k,SteadyF (fM P T m k)
 | 0=>fun f args h r h' hc=>by simp [fM] at hc
 | k+1=>fun f args h r h' hc=>by
  have hb:=yS (P:=P) (aV:=T.aV) (m:=m) (mD s9 m k)
  simp only [fM] at hc
  split at hc
  ·rename_i g hg
   exact (s9 f g hg).2 _ _ _ _ hc
  ·split at hc
   ·split at hc
    ·rw [aaB] at hc
     obtain⟨x,_,hc⟩:=hc
     obtain⟨r',_,h2⟩:=Option.map_some' hc
     cases h2
     exact Steady.refl _
    ·split at hc
     ·rw [aaB] at hc
      obtain⟨x,_,hc⟩:=hc
      obtain⟨r',_,h2⟩:=Option.map_some' hc
      cases h2
      exact Steady.refl _
     ·exact hb _ _ _ _ _ hc
   ·exact hb _ _ _ _ _ hc
theorem vc (hP:Fit P){T:pT}(s9:IntrOK P T.intr)(m:Nat):∀k,CallOK P (fM P T m k)
 | 0=>fun f args h r h' hc=>by simp [fM] at hc
 | k+1=>fun f args h r h' hc=>by
  have ih:=vc hP s9 m k
  have hb:=Hc hP (aV:=T.aV) ih (Hj hP.mixed ih (mD s9 m k)) m
  simp only [fM] at hc
  split at hc
  ·rename_i g hg
   exact (s9 f g hg).1 f args h r h' (by simpa using hc)
  ·split at hc
   ·rename_i deep _
    by_cases tE:ef args=true
    ·exact Kw hb deep f args h r h' (by dsimp only; rw [if_pos tE] at hc ⊢; exact hc)
    ·rw [if_neg tE] at hc
     split at hc
     ·rename_i as has
      refine Kx hb deep f args h r h' ?_
      dsimp only
      rw [has]
      exact hc
     ·exact AG hb f args h r h' hc
   ·exact AG hb f args h r h' hc
def PY (P : Program) : Bool := P.funcs.toList.all fun fn => fn.name != "runtime.NumGoroutine" && match fn.body with | some c => la fn.ntmps c | none => true
theorem M4 (h1:P.follows .mixedOrders=true)(h2:PY P=true):Fit P:=by
 refine⟨h1,fun f fn c hf hb=>?_⟩
 unfold PY at h2
 rw [abd] at h2
 have:=h2 fn (abC.2 (Array.mem_of_getElem? hf))
 rw [hb] at this
 simp only [aaF,bne_iff_ne,ne_eq] at this
 exact⟨this.2,this.1⟩
theorem FI:IntrOK P fun _=>none:=fun f g h=>by cases h
end
end Go.R
