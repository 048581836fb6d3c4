/- Part of the proof: RLocal, RSteady, RDraw, RPure. -/
import Derived.Test.YtifafejidnjckaaK2
import Derived.StillTail
set_option linter.unusedVariables false
set_option linter.unusedSimpArgs false
set_option maxRecDepth 100000
open Array renaming getElem?_eq_some_iff → V4, mem_toList_iff → Wq
open Bool renaming and_eq_true → Vx, false_eq_true → VE, or_eq_true → Wf, not_true → Wy, not_eq_true' → WG
open List renaming getElem?_append_left → VJ, all_eq_true → VO, mem_append → VY, getElem?_eq_none → V7, mem_map → V8, getElem?_cons_zero → Wc, range → WD, map_congr_left → WH, mem_range → WJ
open Nat renaming le_refl → Vy, zero_add → VU, lt_of_lt_of_le → VW, le_of_not_lt → V1, le_trans → Wj, zero_le → Wk, add_assoc → Ws, eq_of_beq_eq_true → WB, min_eq_left → WM, zero_lt_one → WY, add_comm → W4
open Option renaming bind_eq_some_iff → Vt, bind_some → Vu, map_eq_some_iff → Vv, map_some → VA, getD_some → Wr
open Option.some renaming injEq → Vw, inj → Wg
open Prod.mk renaming injEq → VC
namespace Go.R
open Go
def RS.shift (s2:RS)(f:kD)(d:Option Nat)(s':RS):RS:=
 {ρ:=match d with | none=>s2.ρ | some d=>fun t=>if t=d then s'.ρ d else s2.ρ t
  bx:=match f.wb with | none=>s2.bx | some k=>fun t=>if t=k then s'.bx k else s2.bx t
  h:=if f.wh then s'.h else s2.h}
theorem RS.ext' {s t:RS}(h1:∀i,s.ρ i=t.ρ i)(h2:∀i,s.bx i=t.bx i)(h3:s.h=t.h):s=t:=by
 cases s; cases t
 congr
 ·exact funext h1
 ·exact funext h2
theorem iv (s s2:RS)(f:kD)(d:Option Nat)(z:AV)(hw:f.wb=none)(hh:f.wh=false):s2.set d z=s2.shift f d (s.set d z):=by
 refine RS.ext' (fun i=>?_) (fun i=>?_) ?_
 ·cases d with
  | none=>rfl
  | some d=>simp only [tR,RS.shift,if_true]
 ·simp only [RS.shift,hw]; cases d<;>rfl
 ·simp only [RS.shift,hh]; cases d<;>rfl
theorem jh (s:RS)(d:Option Nat)(z:AV):(s.set d z).h=s.h:=by cases d<;>rfl
theorem IK (s:RS)(d:Option Nat)(z:AV):(s.set d z).bx=s.bx:=by cases d<;>rfl
theorem DM (s:RS)(k i:Nat)(cs:List AV):(s.box k cs).bx i=if i=k then some cs else s.bx i:=by
 simp only [RS.box,beq_nat]
 by_cases h:i=k<;>simp [h]
theorem gG (s s2:RS)(f:kD)(d:Option Nat)(z:AV)(h':AHeap)(hw:f.wb=none)(hh:f.wh=true):({s2 with h:=h'}:RS).set d z=s2.shift f d (({s with h:=h'}:RS).set d z):=by
 refine RS.ext' (fun i=>?_) (fun i=>?_) ?_
 ·cases d with
  | none=>rfl
  | some d=>simp only [tR,RS.shift,if_true]
 ·simp only [RS.shift,hw]; cases d<;>rfl
 ·simp only [RS.shift,hh]; cases d<;>rfl
theorem B9 (s s2:RS)(f:kD)(k:Nat)(cs:List AV)(hw:f.wb=some k)(hh:f.wh=false):s2.box k cs=s2.shift f none (s.box k cs):=by
 refine RS.ext' (fun i=>rfl) (fun i=>?_) ?_
 ·simp only [DM,RS.shift,hw,if_true]
 ·simp only [RS.shift,hh]; rfl
section
variable {P:Program}{cf:CallF}{aE ds:List Nat}{o:Oper}{s s' s2:RS}
theorem oC {cs:List AV}{f:kD}(h:ie s aE ds o cs=some s')(hf:f=(match o.dst with
  | some d=>if aE.contains d then {wb:=some d,al:=true} else {wh:=true}
  | none=>{})) (hh:f.wh=true→s2.h=s.h) (oe:f.al=true→∀d,o.dst=some d→rK d s2.ρ (ds.filter fun t=>!Nat.beq t d)=true) :
  ie s2 aE ds o cs=some (s2.shift f o.dst s'):=by
 unfold ie at h ⊢
 split at h
 rotate_left
 ·cases h
 rename_i od
 rw [if_pos od]
 cases hd:o.dst with
 | none=>rw [hd] at h; cases h
 | some d=>
  rw [hd] at h hf
  simp only at h hf ⊢
  by_cases hl:aE.contains d=true
  ·rw [if_pos hl] at h hf ⊢
   subst hf
   split at h
   rotate_left
   ·cases h
   cases h
   rw [if_pos (oe rfl d hd)]
   congr 1
   refine RS.ext' (fun i=>?_) (fun i=>?_) ?_
   ·simp only [tR,RS.shift,if_true]; rfl
   ·simp only [IK,DM,RS.shift,if_true]
   ·simp only [jh,RS.shift]; rfl
  ·rw [if_neg hl] at h hf ⊢
   subst hf
   cases h
   rw [hh rfl]
   congr 1
   exact gG s s2 {wh:=true} (some d) _ _ rfl rfl
theorem ud {e:Operand→AV}(h:yJ P cf aE ds e s o=some s')(hb:∀k∈(bc aE e o).rb,s2.bx k=s.bx k)(hr:∀id∈(bc aE e o).rh,s2.h.get id=s.h.get id)
  (hh:(bc aE e o).wh=true→s2.h=s.h) (oe:(bc aE e o).al=true→∀d,o.dst=some d→rK d s2.ρ (ds.filter fun t=>!Nat.beq t d)=true) :
  yJ P cf aE ds e s2 o=some (s2.shift (bc aE e o) o.dst s'):=by
 have dO:∀{x x2:Option AV} (f:kD),(x.map fun x=>s.set o.dst x)=some s'→(x2=x)→f.wb=none→f.wh=false→(x2.map fun x=>s2.set o.dst x)=some (s2.shift f o.dst s'):=by
  intro x x2 f hx h2 h3 h4
  obtain⟨z,rfl,rfl⟩:=Option.map_some' hx
  subst h2
  simp only [VA]
  rw [←iv s s2 f o.dst z h3 h4]
 have wX:∀{α:Type} {x x2:Option α} (f:kD) (g:α→AV) (k:α→AHeap),(x.map fun y=>({s with h:=k y}:RS).set o.dst (g y))=some s'→(x2=x)→f.wb=none→f.wh=true→
   (x2.map fun y=>({s2 with h:=k y}:RS).set o.dst (g y))=some (s2.shift f o.dst s'):=by
  intro α x x2 f g k hx h2 h3 h4
  obtain⟨z,rfl,rfl⟩:=Option.map_some' hx
  subst h2
  simp only [VA]
  rw [←gG s s2 f o.dst (g z) (k z) h3 h4]
 unfold yJ at h ⊢
 dsimp only at h ⊢
 split at h
 ·rename_i x ho; cases h; simp only [Vw]; exact iv s s2 _ _ _ (by simp [bc,ho]) (by simp [bc,ho])
 ·rename_i x ho; cases h; simp only [Vw]; exact iv s s2 _ _ _ (by simp [bc,ho]) (by simp [bc,ho])
 ·rename_i k x y ho
  obtain⟨t,ht,rfl⟩:=Option.map_some' h
  simp only [ht,VA,Vw]
  exact iv s s2 _ _ _ (by simp [bc,ho]) (by simp [bc,ho])
 ·rename_i t ho
  rw [Vt] at h
  obtain⟨z,hz,h⟩:=h
  simp only [hz,Vu]
  exact oC h (by simp only [bc,ho]; rfl) hh oe
 ·rename_i t x ho
  exact oC h (by simp only [bc,ho]; rfl) hh oe
 ·rename_i t ps ho; exact dO _ h rfl (by simp [bc,ho]) (by simp [bc,ho])
 ·rename_i t k ps ho
  obtain⟨z,hz,rfl⟩:=Option.map_some' h
  simp only [hz,VA,Vw]
  have hf:bc aE e o=(match o.dst with | some d=>if aE.contains d then {wh:=true} else {} | none=>{}):=by simp only [bc,ho]; rfl
  unfold py
  cases IC:nM P aE o t z with
  | none=>
   simp only
   cases hd:o.dst with
   | none=>rw [hd] at hf; rw [hf]; exact iv s s2 _ none _ rfl rfl
   | some d=>
    rw [hd] at hf
    simp only at hf
    by_cases hl:aE.contains d=true
    ·rw [if_pos hl] at hf
     have h2:=hh (by rw [hf])
     rw [hf]
     have h3:=gG s s2 {wh:=true} (some d) z s2.h rfl rfl
     refine h3.trans ?_
     rw [h2]
    ·rw [if_neg hl] at hf
     rw [hf]; exact iv s s2 _ _ _ rfl rfl
  | some q=>
   obtain⟨d,hd,hl⟩:∃d,o.dst=some d∧aE.contains d=true:=by
    unfold nM at IC
    split at IC
    ·rename_i d _ _ _ hd
     refine⟨d,hd,?_⟩
     cases hc:aE.contains d with
     | false=>rw [hc] at IC; cases IC
     | true=>rfl
    ·cases IC
   rw [hd] at hf
   simp only [hl,if_true] at hf
   rw [hf] at hh ⊢
   simp only [hh rfl]
   exact gG s s2 _ _ _ _ rfl rfl
 ·
  rename_i t x ho
  have hf:bc aE e o=(match e x with | .lp k _=>{rb:=[k]} | .ptr id _=>{rh:=[id]} | _=>{}):=by simp only [bc,ho]; rfl
  refine dO _ h ?_ ?_ ?_
  ·rw [hf] at hb hr
   unfold jG
   cases hx:e x<;>rw [hx] at hb hr<;>try rfl
   ·simp only; rw [hr _ (by simp)]
   ·simp only; rw [hb _ (by simp)]
  ·rw [hf]; cases e x<;>rfl
  ·rw [hf]; cases e x<;>rfl
 ·
  rename_i t x y ho
  have hf:bc aE e o=(match e x with | .lp k _=>{rb:=[k],wb:=some k} | _=>{wh:=true}):=by simp only [bc,ho]; rfl
  try simp only at h ⊢
  split at h
  ·cases h
  rename_i hd
  rw [if_neg hd]
  have Gb:o.dst=none:=by simpa using hd
  cases hx:e x<;>rw [hx] at h hf<;>simp only at h hf ⊢<;>try (cases h; done)
  ·rename_i id off
   rw [hf] at hh ⊢
   rw [Vt] at h
   obtain⟨ob,hob,h⟩:=h
   rw [hh rfl,hob]
   cases ob with
   | map es=>cases h
   | row t cs=>cases h
   | cells cs=>
    obtain⟨eY,hcs,rfl⟩:=Option.map_some' h
    simp only [Vu,hcs,VA,Gb,Vw]
    exact gG s s2 {wh:=true} none .any _ rfl rfl
  ·rename_i k off
   rw [hf] at hb ⊢
   rw [Vt] at h
   obtain⟨cs,hcs,h⟩:=h
   rw [hb k (by simp),hcs]
   obtain⟨eY,NN,rfl⟩:=Option.map_some' h
   simp only [Vu,NN,VA,Gb,Vw]
   exact B9 s s2 _ k eY rfl rfl
 ·rename_i ho; exact dO _ h rfl (by simp [bc,ho]) (by simp [bc,ho])
 ·rename_i ho; exact dO _ h rfl (by simp [bc,ho]) (by simp [bc,ho])
 ·rename_i ho; exact dO _ h rfl (by simp [bc,ho]) (by simp [bc,ho])
 ·
  rename_i a b x ho
  have hf:bc aE e o=(match e x with | .rs id _ _ _=>{rh:=[id]} | _=>{}):=by simp only [bc,ho]; rfl
  refine dO _ h ?_ ?_ ?_
  ·have hc:dT s2.h 1 (e x)=dT s.h 1 (e x):=by
    rw [hf] at hr
    unfold dT
    cases hx:e x<;>rw [hx] at hr<;>try rfl
    simp only; rw [hr _ (by simp)]
   unfold mf
   rw [hc]
  ·rw [hf]; cases e x<;>rfl
  ·rw [hf]; cases e x<;>rfl
 ·rename_i yX first cap ho
  try simp only
  split at h
  ·rename_i hc
   rw [if_pos hc]
   exact dO _ h rfl (by simp [bc,ho]) (by simp [bc,ho])
  ·cases h
 ·rename_i ho
  have hf:(bc aE e o).wh=true:=by simp [bc,ho]
  cases h
  simp only [hh hf,Vw]
  exact gG s s2 _ _ _ _ (by simp [bc,ho]) hf
 ·rename_i t l c ho
  have hf:(bc aE e o).wh=true:=by simp [bc,ho]
  exact wX _ (fun y:AV × AHeap=>y.1) (fun y=>y.2) h (by simp only [hh hf]) (by simp [bc,ho]) hf
 ·rename_i ho; exact dO _ h rfl (by simp [bc,ho]) (by simp [bc,ho])
 ·rename_i ho; exact dO _ h rfl (by simp [bc,ho]) (by simp [bc,ho])
 ·rename_i ho; exact dO _ h rfl (by simp [bc,ho]) (by simp [bc,ho])
 ·rename_i ho; exact dO _ h rfl (by simp [bc,ho]) (by simp [bc,ho])
 ·rename_i ho; exact dO _ h rfl (by simp [bc,ho]) (by simp [bc,ho])
 ·
  rename_i t m k ok ho
  have hf:bc aE e o=(match e m with | .mp id=>{rh:=[id]} | _=>{}):=by simp only [bc,ho]; rfl
  refine dO _ h ?_ ?_ ?_
  ·rw [hf] at hr
   unfold fQ
   cases hx:e m<;>rw [hx] at hr<;>try rfl
   simp only; rw [hr _ (by simp)]
  ·rw [hf]; cases e m<;>rfl
  ·rw [hf]; cases e m<;>rfl
 ·rename_i t m k x ho
  have hf:(bc aE e o).wh=true:=by simp [bc,ho]
  try simp only at h ⊢
  split at h
  ·cases h
  rename_i hd
  rw [if_neg hd]
  have Gb:o.dst=none:=by simpa using hd
  obtain⟨h',hm,rfl⟩:=Option.map_some' h
  simp only [hh hf,hm,VA,Gb,Vw]
  exact gG s s2 _ none .any _ (by simp [bc,ho]) hf
 ·rename_i t m k x ho
  have hf:(bc aE e o).wh=true:=by simp [bc,ho]
  try simp only at h ⊢
  split at h
  ·cases h
  rename_i hd
  rw [if_neg hd]
  have Gb:o.dst=none:=by simpa using hd
  obtain⟨h',hm,rfl⟩:=Option.map_some' h
  simp only [hh hf,hm,VA,Gb,Vw]
  exact gG s s2 _ none .any _ (by simp [bc,ho]) hf
 ·rename_i ho; exact dO _ h rfl (by simp [bc,ho]) (by simp [bc,ho])
 ·
  rename_i b args Ae ho
  try simp only
  unfold fM at h ⊢
  generalize hargs:args.toList.map e=as at h ⊢
  generalize Ae.toList=ts at h ⊢
  split at h
  ·rename_i t x
   try simp only
   have hf:bc aE e o=(match x with | .mp id=>{rh:=[id]} | _=>{}):=by
    simp only [bc,ho,hargs]
    cases x<;>rfl
   refine dO _ h ?_ ?_ ?_
   ·rw [hf] at hr
    unfold rJ
    cases x<;>try rfl
    simp only; rw [hr _ (by simp)]
   ·rw [hf]; cases x<;>rfl
   ·rw [hf]; cases x<;>rfl
  ·try simp only
   have hf:(bc aE e o).wh=true∧(bc aE e o).wb=none:=by simp only [bc,ho,hargs]; simp
   exact wX _ (fun y:AV × AHeap=>y.1) (fun y=>y.2) h (by simp only [hh hf.1]) hf.2 hf.1
  ·try simp only
   have hf:(bc aE e o).wh=true∧(bc aE e o).wb=none:=by simp only [bc,ho,hargs]; simp
   exact wX _ (fun y:AV × AHeap=>y.1) (fun y=>y.2) h (by simp only [hh hf.1]) hf.2 hf.1
  ·try simp only
   have hf:(bc aE e o).wh=true∧(bc aE e o).wb=none:=by simp only [bc,ho,hargs]; simp
   exact wX _ (fun _:AHeap=>.tup []) (fun y=>y) h (by simp only [hh hf.1]) hf.2 hf.1
  ·try simp only
   rw [Vt] at h
   obtain⟨v,hv,h⟩:=h
   rw [Vt] at h
   obtain⟨vs,Da,h⟩:=h
   rw [Vt] at h
   obtain⟨u,hu,h⟩:=h
   simp only [hv,Da,hu,Vu]
   exact dO _ h rfl (by simp [bc,ho]) (by simp [bc,ho])
  ·try simp only
   rw [Vt] at h
   obtain⟨v,hv,h⟩:=h
   rw [Vt] at h
   obtain⟨vs,Da,h⟩:=h
   rw [Vt] at h
   obtain⟨u,hu,h⟩:=h
   simp only [hv,Da,hu,Vu]
   exact dO _ h rfl (by simp [bc,ho]) (by simp [bc,ho])
  ·cases h
 ·
  rename_i fx args Ae ho
  have hf:(bc aE e o).wh=true∧(bc aE e o).wb=none:=by simp [bc,ho]
  try simp only
  cases hx:e fx<;>rw [hx] at h<;>simp only at h ⊢<;>try (cases h; done)
  rename_i yX cap
  split at h
  ·rename_i ha
   rw [if_pos ha]
   exact wX _ (fun y:AV × AHeap=>y.1) (fun y=>y.2) h (by simp only [hh hf.1]) hf.2 hf.1
  ·cases h
 ·cases h
end
end Go.R
namespace Go.R
open Go
def SteadyF (cf:CallF):Prop:=∀f args h r h',cf f args h=some (r,h')→Steady h h'
section
variable {P:Program}{cf:CallF}{aE ds:List Nat}{o:Oper}{s s':RS}
theorem sa {h h':AHeap}{t t2:TypeId}{x y z:AV}(hh:dA P h t t2 x y=some (z,h')):Steady h h':=by
 unfold dA at hh
 rw [Vt] at hh
 obtain⟨d,_,hh⟩:=hh
 cases d<;>simp only at hh<;>try (cases hh; done)
 rw [Vt] at hh
 obtain⟨i,_,hh⟩:=hh
 rw [Vt] at hh
 obtain⟨⟨new,m⟩,_,hh⟩:=hh
 simp only at hh
 split at hh
 ·cases hh
 split at hh
 ·split at hh
  ·cases hh
  ·split at hh<;>cases hh
   ·exact Steady.refl _
   ·exact Steady.put _ _ _
 ·split at hh
  ·cases hh
  ·split at hh
   ·split at hh<;>cases hh<;>exact Steady.refl _
   ·cases hh; exact Steady.put _ _ _
 ·split at hh
  ·split at hh
   ·cases hh
   ·split at hh<;>cases hh
    ·exact Steady.refl _
    ·exact Steady.put _ _ _
  rw [Vt] at hh
  obtain⟨ob,_,hh⟩:=hh
  cases ob with
  | map es=>cases hh
  | row t cs=>cases hh
  | cells cs=>
   simp only at hh
   split at hh
   ·cases hh
   ·split at hh<;>cases hh
    ·exact Steady.refl _
    ·exact (Steady.kill _ _).trans (Steady.put _ _ _)
 ·cases hh
theorem vd {h h':AHeap}{t t2:TypeId}{x y z:AV}(hh:qd P h t t2 x y=some (z,h')):Steady h h':=by
 unfold qd at hh
 rw [Vt] at hh
 obtain⟨d,_,hh⟩:=hh
 cases d<;>simp only at hh<;>try (cases hh; done)
 rw [Vt] at hh
 obtain⟨i,_,hh⟩:=hh
 rw [Vt] at hh
 obtain⟨⟨new,m⟩,_,hh⟩:=hh
 simp only at hh
 split at hh
 ·cases hh
 split at hh
 ·split at hh
  ·split at hh<;>cases hh
   exact Steady.refl _
  rw [Vt] at hh
  obtain⟨ob,_,hh⟩:=hh
  cases ob with
  | map es=>cases hh
  | row t cs=>cases hh
  | cells cs=>
   simp only at hh
   split at hh<;>cases hh
   exact Steady.put _ _ _
 ·split at hh<;>cases hh
  exact Steady.refl _
 ·cases hh
theorem tF {h h':AHeap}{t:TypeId}{x:AV}(hh:lf P h t x=some h'):Steady h h':=by
 unfold lf at hh
 rw [Vt] at hh
 obtain⟨d,_,hh⟩:=hh
 cases x<;>simp only at hh<;>try (cases hh; done)
 ·split at hh
  ·cases hh; exact Steady.refl _
  split at hh
  ·cases hh
  cases d<;>simp only at hh<;>try (cases hh; done)
  simp only [Vt] at hh
  obtain⟨i,_,z,_,ob,_,hh⟩:=hh
  cases ob with
  | map es=>cases hh
  | row t cs=>cases hh
  | cells cs=>
   simp only at hh
   split at hh
   ·cases hh; exact Steady.put _ _ _
   ·cases hh
 ·cases hh; exact Steady.refl _
 ·rw [Vt] at hh
  obtain⟨ob,_,hh⟩:=hh
  cases ob with
  | cells cs=>cases hh
  | row t cs=>cases hh
  | map es=>cases hh; exact Steady.put _ _ _
theorem wY {aE:List Nat}{d:Option Nat}{x y:AV × AHeap}(hz:uP aE d x=some y):Steady x.2 y.2:=by
 unfold uP at hz
 cases hm:KF aE d with
 | true=>rw [hm,cond_true] at hz; exact mo hz
 | false=>rw [hm,cond_false] at hz; cases hz; exact Steady.refl _
theorem mw {h h':AHeap}{t:TypeId}{x y z:AV}(hh:iF P h t x y z=some h'):Steady h h':=by
 unfold iF at hh
 rw [Vt] at hh
 obtain⟨d,_,hh⟩:=hh
 cases d<;>simp only at hh<;>try (cases hh; done)
 split at hh
 ·cases hh
 cases x<;>simp only at hh<;>try (cases hh; done)
 rw [Vt] at hh
 obtain⟨ob,_,hh⟩:=hh
 cases ob with
 | cells cs=>cases hh
 | row t cs=>cases hh
 | map es=>
  obtain⟨qa,_,rfl⟩:=Option.map_some' hh
  exact Steady.put _ _ _
theorem oD {h h':AHeap}{t:TypeId}{x y z:AV}(hh:gF P h t x y=some (z,h')):Steady h h':=by
 unfold gF at hh
 split at hh
 ·rw [Vt] at hh
  obtain⟨d,_,hh⟩:=hh
  cases d<;>simp only at hh<;>try (cases hh; done)
  rw [Vt] at hh
  obtain⟨i,_,hh⟩:=hh
  rw [Vt] at hh
  obtain⟨z,_,hh⟩:=hh
  split at hh<;>cases hh
  exact Steady.put _ _ _
 ·cases hh
theorem nD {cs:List AV}(h:ie s aE ds o cs=some s'):Steady s.h s'.h:=by
 unfold ie at h
 split at h
 rotate_left
 ·cases h
 split at h
 ·split at h
  ·split at h<;>cases h
   rw [jh]; exact Steady.refl _
  ·cases h
   rw [jh]; exact Steady.put _ _ _
 ·cases h
theorem sb (hcf:SteadyF cf){e:Operand→AV}(h:yJ P cf aE ds e s o=some s'):Steady s.h s'.h:=by
 have dO:∀{x:Option AV},(x.map fun x=>s.set o.dst x)=some s'→Steady s.h s'.h:=by
  intro x hx
  obtain⟨z,rfl,rfl⟩:=Option.map_some' hx
  rw [jh]; exact Steady.refl _
 unfold yJ at h
 dsimp only at h
 split at h
 ·cases h; rw [jh]; exact Steady.refl _
 ·cases h; rw [jh]; exact Steady.refl _
 ·obtain⟨z,_,rfl⟩:=Option.map_some' h; rw [jh]; exact Steady.refl _
 ·rw [Vt] at h
  obtain⟨z,_,h⟩:=h
  exact nD h
 ·exact nD h
 ·exact dO h
 ·obtain⟨z,hz,rfl⟩:=Option.map_some' h
  unfold py
  split
  ·rw [jh]; exact Steady.refl _
  ·rw [jh]; exact Steady.put _ _ _
 ·exact dO h
 ·split at h
  ·cases h
  split at h
  ·rw [Vt] at h
   obtain⟨cs,_,h⟩:=h
   obtain⟨z,_,rfl⟩:=Option.map_some' h
   exact Steady.refl _
  ·rw [Vt] at h
   obtain⟨ob,_,h⟩:=h
   cases ob with
   | map es=>cases h
   | row t cs=>cases h
   | cells cs=>
    obtain⟨z,_,rfl⟩:=Option.map_some' h
    exact Steady.put _ _ _
  ·cases h
 ·exact dO h
 ·exact dO h
 ·exact dO h
 ·exact dO h
 ·split at h
  ·exact dO h
  ·cases h
 ·cases h; rw [jh]; exact Steady.put _ _ _
 ·obtain⟨⟨z,h'⟩,hz,rfl⟩:=Option.map_some' h
  rw [jh]; exact oD hz
 ·exact dO h
 ·exact dO h
 ·exact dO h
 ·exact dO h
 ·exact dO h
 ·exact dO h
 ·split at h
  ·cases h
  obtain⟨h',hz,rfl⟩:=Option.map_some' h
  exact mw hz
 ·split at h
  ·cases h
  obtain⟨h',hz,rfl⟩:=Option.map_some' h
  exact mw hz
 ·exact dO h
 ·unfold fM at h
  split at h
  ·exact dO h
  ·obtain⟨⟨z,h'⟩,hz,rfl⟩:=Option.map_some' h
   rw [jh]; exact sa hz
  ·obtain⟨⟨z,h'⟩,hz,rfl⟩:=Option.map_some' h
   rw [jh]; exact vd hz
  ·obtain⟨h',hz,rfl⟩:=Option.map_some' h
   rw [jh]; exact tF hz
  ·rw [Vt] at h
   obtain⟨v,_,h⟩:=h
   rw [Vt] at h
   obtain⟨vs,_,h⟩:=h
   rw [Vt] at h
   obtain⟨u,_,h⟩:=h
   exact dO h
  ·rw [Vt] at h
   obtain⟨v,_,h⟩:=h
   rw [Vt] at h
   obtain⟨vs,_,h⟩:=h
   rw [Vt] at h
   obtain⟨u,_,h⟩:=h
   exact dO h
  ·cases h
 ·split at h
  ·split at h
   ·obtain⟨⟨z,h'⟩,hz,rfl⟩:=Option.map_some' h
    rw [Vt] at hz
    obtain⟨⟨z0,h0⟩,hz,hm⟩:=hz
    rw [jh]; exact (hcf _ _ _ _ _ hz).trans (wY hm)
   ·cases h
  ·cases h
 ·cases h
theorem oE (hcf:SteadyF cf){ops:List Oper}(h:mg P cf aE ops s o=some s'):Steady s.h s'.h:=by
 unfold mg at h
 rw [Vt] at h
 obtain⟨w,_,h⟩:=h
 cases w with
 | true=>exact sb hcf (by simpa [uQ] using h)
 | false=>
  simp only [VE,if_false,Vw] at h
  subst h
  rw [jh]; exact Steady.refl _
theorem qw (hcf:SteadyF cf){ops:List Oper}:∀{l:List Oper} {s s':RS},qI P cf aE ops s l=some s'→Steady s.h s'.h
 | [],s,s',h=>by simp only [qI,Vw] at h; subst h; exact Steady.refl _
 | o::l,s,s',h=>by
  simp only [qI,Vt] at h
  obtain⟨s1,h1,h2⟩:=h
  exact (oE hcf h1).trans (qw hcf h2)
theorem qy (hcf:SteadyF cf){ops:List Oper}:∀{l:List Oper} {s r:RS} {es:List lU},ov P cf aE ops s l=some (es,r)→Steady s.h r.h
 | [],s,r,es,h=>by simp only [ov,Vw,VC] at h; rw [h.2]; exact Steady.refl _
 | o::l,s,r,es,h=>by
  simp only [ov,Vt,Vv] at h
  obtain⟨w,hw,s1,h1,⟨qa,r'⟩,h2,h3⟩:=h
  simp only [VC] at h3
  obtain⟨_,rfl⟩:=h3
  have h4:mg P cf aE ops s o=some s1:=by unfold mg; rw [hw]; exact h1
  exact (oE hcf h4).trans (qy hcf h2)
theorem tG (hcf:SteadyF cf){ops:Array Oper}(h:jH P cf aE ops s=some s'):Steady s.h s'.h:=by
 unfold jH at h
 dsimp only at h
 split at h
 rotate_left
 ·cases h
 rw [Vt] at h
 obtain⟨⟨es,r⟩,yT,h⟩:=h
 simp only at h
 split at h
 ·cases h; exact qy hcf yT
 ·cases h
theorem fT (hcf:SteadyF cf){A:b5}{m:Nat}:∀(c:Code) (st jg:St) (e:Ex),bJ P cf A m c st=some (e,jg)→Steady st.h jg.h
 | .skip,st,jg,e,h=>by simp only [bJ,Vw,VC] at h; rw [h.2]; exact Steady.refl _
 | .label _,st,jg,e,h=>by simp only [bJ,Vw,VC] at h; rw [h.2]; exact Steady.refl _
 | .ret,st,jg,e,h=>by simp only [bJ,Vw,VC] at h; rw [h.2]; exact Steady.refl _
 | .exit _,st,jg,e,h=>by simp only [bJ,Vw,VC] at h; rw [h.2]; exact Steady.refl _
 | .seq x y,st,jg,e,h=>by
  simp only [bJ,Vt] at h
  obtain⟨⟨e1,s1⟩,h1,h2⟩:=h
  have:=fT hcf x st s1 e1 h1
  cases e1 with
  | norm=>exact this.trans (fT hcf y s1 jg e h2)
  | exit id=>simp only [Vw,VC] at h2; rw [←h2.2]; exact this
  | ret=>simp only [Vw,VC] at h2; rw [←h2.2]; exact this
 | .cond k x y,st,jg,e,h=>by
  simp only [bJ,Vt] at h
  obtain⟨t,_,h⟩:=h
  cases t with
  | true=>exact fT hcf x st jg e (by simpa using h)
  | false=>exact fT hcf y st jg e (by simpa using h)
 | .block id x,st,jg,e,h=>by
  simp only [bJ,Vv] at h
  obtain⟨⟨e1,s1⟩,h1,h2⟩:=h
  have:=fT hcf x st s1 e1 h1
  cases e1<;>(simp only [VC] at h2; rw [←h2.2]; exact this)
 | .loop x,st,jg,e,h=>by
  simp only [bJ] at h
  have key:∀(j:Nat) (st:St),kF (bJ P cf A m x) j st=some (e,jg)→Steady st.h jg.h:=by
   intro j
   induction j with
   | zero=>intro st h; simp [kF] at h
   | succ j ih=>
    intro st h
    simp only [kF,Vt] at h
    obtain⟨⟨e1,s1⟩,h1,h2⟩:=h
    have:=fT hcf x st s1 e1 h1
    cases e1 with
    | norm=>exact this.trans (ih s1 h2)
    | exit id=>simp only [Vw,VC] at h2; rw [←h2.2]; exact this
    | ret=>simp only [Vw,VC] at h2; rw [←h2.2]; exact this
  exact key m st h
 | .region id ops draw,st,jg,e,h=>by
  simp only [bJ,Vt,Vv,VC] at h
  obtain⟨s0,h0,s',h1,s2,h2,_,rfl⟩:=h
  rw [GG]
  refine ((mq h0).trans ?_).trans (mq h2)
  cases draw with
  | true=>exact tG (s:=s0) hcf (by simpa using h1)
  | false=>exact qw (s:=s0) hcf (by simpa using h1)
 | .rangeFunc ..,st,jg,e,h=>by simp [bJ] at h
 | .scope ..,st,jg,e,h=>by simp [bJ] at h
 | .goto ..,st,jg,e,h=>by simp [bJ] at h
 | .refuse ..,st,jg,e,h=>by simp [bJ] at h
theorem ve (hcf:SteadyF cf){aV:FuncId→b5}{m:Nat}:SteadyF (aZ P aV cf m):=by
 intro f args h r h' hc
 unfold aZ at hc
 rw [Vt] at hc
 obtain⟨fn,hf,hc⟩:=hc
 rw [Vt] at hc
 obtain⟨c,hb,hc⟩:=hc
 split at hc
 rotate_left
 ·cases hc
 rw [Vt] at hc
 obtain⟨⟨e,st⟩,hex,hc⟩:=hc
 have:=fT hcf c _ _ _ hex
 cases e with
 | norm=>obtain⟨r',_,h2⟩:=Option.map_some' hc; cases h2; exact this
 | ret=>obtain⟨r',_,h2⟩:=Option.map_some' hc; cases h2; exact this
 | exit id=>cases hc
end
end Go.R
namespace Go.R
open Go
section
variable {P:Program}{cf:CallF}{aE ds:List Nat}{o:Oper}{s s':RS}
theorem Ca {e e':Operand→AV}(h:∀x∈o.op.operands,e x=e' x):yJ P cf aE ds e s o=yJ P cf aE ds e' s o:=by
 have Lg:∀(l:List Operand),(∀x∈l,e x=e' x)→l.map e=l.map e':=fun l hl=>WH hl
 have IL:∀(q:Option Operand),(∀x,q=some x→e x=e' x)→q.map e=q.map e':=by
  intro q hq; cases q with
  | none=>rfl
  | some x=>simp [hq x rfl]
 unfold yJ
 cases Ah:o.op<;>rw [Ah] at h
 case build t ps=>
  have:(ps.toList.map fun (i,x)=>(i,e x))=(ps.toList.map fun (i,x)=>(i,e' x)):=
   WH fun p hp=>by
    have:=h p.2 (by simp only [Op.operands,List.mem_toArray,V8]; exact⟨p,hp,rfl⟩)
    simp [this]
  simp only [this]
 case buildSlice t n ps=>
  have:(ps.toList.map fun (i,x)=>(i,e x))=(ps.toList.map fun (i,x)=>(i,e' x)):=
   WH fun p hp=>by
    have:=h p.2 (by simp only [Op.operands,List.mem_toArray,V8]; exact⟨p,hp,rfl⟩)
    simp [this]
  simp only [this]
 case makeFunc f first cap=>
  have:cap.toList.map e=cap.toList.map e':=Lg _ fun x hx=>h x (by simp only [Op.operands,Array.mem_append]; right; exact Wq.1 hx)
  cases f<;>first | rfl | simp only [this]
 case makeMap t r=>cases r<;>rfl
 case slice t x lo hi mx=>
  have h1:e x=e' x:=h x (by simp [Op.operands])
  have h2:=IL lo fun y hy=>h y (by simp [Op.operands,hy])
  have h3:=IL hi fun y hy=>h y (by simp [Op.operands,hy])
  have h4:=IL mx fun y hy=>h y (by simp [Op.operands,hy])
  simp only [h1,h2,h3,h4]
 case call c=>
  obtain⟨callee,args,Ae⟩:=c
  have h1:args.toList.map e=args.toList.map e':=Lg _ fun x hx=>h x (by
   simp only [Op.operands,Call.operands]
   cases callee<;>simp<;>first | exact Wq.1 hx | (right; exact Wq.1 hx) | (left; exact Wq.1 hx))
  cases callee with
  | builtin b=>simp only [h1]
  | value f=>
   have h2:e f=e' f:=h f (by simp [Op.operands,Call.operands])
   simp only [h1,h2]
  | invoke r nm=>rfl
 all_goals first
  | rfl
  | (simp [Op.operands] at h; simp [h])
end
theorem oF (acc:List Nat)(i:Nat):∀(l:List Edge) (m:Nat),(l.foldl (fun m e=>bif Region.binds .any e then m ||| (2 ^ e.on ||| acc.getD e.on 0) else m) m).testBit i=true→
  m.testBit i=true∨∃e∈l,Region.binds .any e=true∧(e.on=i∨(acc.getD e.on 0).testBit i=true)
 | [],m,h=>.inl h
 | e::l,m,h=>by
  rcases oF acc i l _ h with h1 | ⟨e',he,h1⟩
  ·dsimp only at h1
   cases hb:Region.binds .any e with
   | false=>rw [hb] at h1; exact .inl h1
   | true=>
    rw [hb] at h1
    simp only [cond_true,Nat.testBit_or,Wf,Nat.testBit_two_pow,decide_eq_true_eq] at h1
    rcases h1 with h1 | h1 | h1
    ·exact .inl h1
    ·exact .inr ⟨e,by simp,hb,.inl h1⟩
    ·exact .inr ⟨e,by simp,hb,.inr h1⟩
  ·exact .inr ⟨e',by simp [he],h1⟩
theorem qz:∀(l:List Oper) (acc:List Nat),(∀j,j<acc.length→(js acc l).getD j 0=acc.getD j 0)∧
  ∀j i,((js acc l).getD j 0).testBit i=true→acc.length≤j→∃o,l[j - acc.length]? = some o∧∃e∈o.after.toList,Region.binds .any e=true∧(e.on=i∨((js acc l).getD e.on 0).testBit i=true)
 | [],acc=>⟨fun j hj=>rfl,fun j i h hj=>by simp [js,List.getD,V7 hj] at h⟩
 | o::l,acc=>by
  simp only [js]
  generalize hm:(o.after.toList.foldl (fun m e=>bif Region.binds .any e then m ||| (2 ^ e.on ||| acc.getD e.on 0) else m) 0)=m
  obtain⟨h1,h2⟩:=qz l (acc++[m])
  have hold:∀j,j<acc.length→(js (acc++[m]) l).getD j 0=acc.getD j 0:=fun j hj=>by
   rw [h1 j (by simp; omega)]
   simp [List.getD,VJ hj]
  refine⟨hold,fun j i h hj=>?_⟩
  by_cases SS:j=acc.length
  ·subst SS
   have:(js (acc++[m]) l).getD acc.length 0=m:=by
    rw [h1 _ (by simp)]; simp [List.getD]
   rw [this,←hm] at h
   rcases oF acc i _ _ h with h3 | ⟨e,he,hb,h3⟩
   ·simp at h3
   ·refine⟨o,by simp,e,he,hb,h3.imp id fun h4=>?_⟩
    by_cases hl:e.on<acc.length
    ·rw [hold _ hl]; exact h4
    ·simp [List.getD,V7 (Nat.not_lt.1 hl)] at h4
  ·obtain⟨o',Kl,h3⟩:=h2 j i h (by simp; omega)
   refine⟨o',?_,h3⟩
   rw [show j - acc.length=(j - (acc++[m]).length)+1 by simp; omega]
   simpa using Kl
theorem km {α:Type}(p:Nat→α→Nat→α→Bool):∀(l:List α) (k:Nat),ou p k l=true→∀i j x y,i<j→l[i]? = some x→l[j]? = some y→p (k+i) x (k+j) y=true
 | [],k,_,i,j,x,y,_,hx,_=>by simp at hx
 | a::l,k,h,i,j,x,y,yv,hx,hy=>by
  simp only [ou,Vx,VO] at h
  obtain⟨h1,h2⟩:=h
  cases j with
  | zero=>omega
  | succ j=>
   cases i with
   | zero=>
    simp only [Wc,Vw] at hx
    subst hx
    have:=h1 (y,k+1+j) (by rw [List.mk_add_mem_zipIdx_iff_getElem?]; simpa using hy)
    simpa [Ws,W4 1 j] using this
   | succ i=>
    have:=km p l (k+1) h2 i j x y (by omega) (by simpa using hx) (by simpa using hy)
    rw [show k+(i+1)=k+1+i by omega,show k+(j+1)=k+1+j by omega]
    exact this
theorem oG:∀(l:List Oper) (k:Nat),rm k l=true→∀i o,l[i]? = some o→∀e∈o.after.toList,Region.binds .any e=true→e.on<k+i
 | [],k,_,i,o,h,_,_,_=>by simp at h
 | a::l,k,h,i,o,ho,e,he,hb=>by
  simp only [rm,Vx,VO] at h
  obtain⟨h1,h2⟩:=h
  cases i with
  | zero=>
   simp only [Wc,Vw] at ho
   subst ho
   have:=h1 e he
   simp only [hb,Wy,Bool.false_or] at this
   exact Nat.blt_eq.mp this
  | succ i=>
   have:=oG l (k+1) h2 i o (by simpa using ho) e he hb
   omega
theorem oH {V:Type}{n i:Nat}(hi:i≤n){W:Nat→Prop}{S:Nat→Bool}{m x:Nat→V}(h0:m 0=x 0)(Lh:∀k,k<n→W k→S k=true→m (k+1)=x (k+1))(ru:∀k,k<n→(¬W k∨S k=false)→m (k+1)=m k)
  (hx:∀k,k<n→¬W k→x (k+1)=x k) (hS:∀k,k<n→W k→(S k=true↔k<i)):m n=x i:=by
 have key:∀k,k≤n→m k=x (min k i):=by
  intro k
  induction k with
  | zero=>intro _; simpa using h0
  | succ k ih=>
   intro hk
   have ih:=ih (by omega)
   by_cases hw:W k
   ·have hs:=hS k (by omega) hw
    by_cases wZ:k<i
    ·rw [Lh k (by omega) hw (hs.2 wZ),WM (by omega)]
    ·have:S k=false:=by
      cases h:S k with
      | false=>rfl
      | true=>exact absurd (hs.1 h) wZ
     rw [ru k (by omega) (.inr this),ih,Nat.min_eq_right (by omega),Nat.min_eq_right (by omega)]
   ·rw [ru k (by omega) (.inl hw),ih]
    by_cases wZ:k<i
    ·rw [WM (by omega),WM (by omega),hx k (by omega) hw]
    ·rw [Nat.min_eq_right (by omega),Nat.min_eq_right (by omega)]
 rw [key n (Vy n),Nat.min_eq_right hi]
open Classical in
theorem vf {V:Type}{n i:Nat}(hi:i<n){W:Nat→Prop}{S S':Nat→Bool}{m m' x:Nat→V}(h0:m' 0=m 0)(Lh:∀k,k<n→W k→S k=true→m (k+1)=x (k+1))(ru:∀k,k<n→(¬W k∨S k=false)→m (k+1)=m k)
  (QC:∀k,k<n→W k→S' k=true→m' (k+1)=x (k+1)) (IM:∀k,k<n→(¬W k∨S' k=false)→m' (k+1)=m' k)
  (Cb:∀k,S' k=if k=i then true else S k) (Li:S i=false) (hl:W i→∀j,j<n→i<j→W j→S j=false):m' n=if W i then x (i+1) else m n:=by
 have key:∀k,k≤n→m' k=if i<k∧W i then x (i+1) else m k:=by
  intro k
  induction k with
  | zero=>intro _; simpa using h0
  | succ k ih=>
   intro hk
   have ih:=ih (by omega)
   by_cases wZ:k=i
   ·subst wZ
    by_cases hw:W k
    ·rw [QC k (by omega) hw (by rw [Cb]; simp),if_pos ⟨by omega,hw⟩]
    ·rw [IM k (by omega) (.inl hw),ih,if_neg (fun h=>hw h.2),if_neg (fun h=>hw h.2),ru k (by omega) (.inl hw)]
   ·have hs:S' k=S k:=by rw [Cb,if_neg wZ]
    by_cases hw:W k
    ·cases r9:S k with
     | true=>
      rw [QC k (by omega) hw (hs.trans r9)]
      by_cases Dd:i<k+1∧W i
      ·have:=hl Dd.2 k (by omega) (by omega) hw
       rw [r9] at this; cases this
      ·rw [if_neg Dd,Lh k (by omega) hw r9]
     | false=>
      rw [IM k (by omega) (.inr (hs.trans r9)),ih,ru k (by omega) (.inr r9)]
      by_cases Dd:i<k∧W i
      ·rw [if_pos Dd,if_pos ⟨by omega,Dd.2⟩]
      ·rw [if_neg Dd,if_neg (fun h=>Dd ⟨by omega,h.2⟩)]
    ·rw [IM k (by omega) (.inl hw),ih,ru k (by omega) (.inl hw)]
     by_cases Dd:i<k∧W i
     ·rw [if_pos Dd,if_pos ⟨by omega,Dd.2⟩]
     ·rw [if_neg Dd,if_neg (fun h=>Dd ⟨by omega,h.2⟩)]
 rw [key n (Vy n)]
 by_cases hw:W i
 ·rw [if_pos ⟨hi,hw⟩,if_pos hw]
 ·rw [if_neg (fun h=>hw h.2),if_neg hw]
structure sc (P:Program)(cf:CallF)(aE:List Nat)(ops:Array Oper)(tx:Nat→RS)(ft:Nat→kD)(ord:Nat→Nat→Prop):Prop where
 op:∀k o,ops[k]? = some o→∃w,gR ops.toList (tx k).ρ o=some w∧(if w then uQ P cf aE (ops.toList.filterMap (·.dst)) (tx k) o=some (tx (k+1))∧ft k=bc aE (bK (tx k).ρ) o else tx (k+1)=(tx k).set o.dst (.tup [])∧ft k={})
 IN:∀k i,ord k i→∃o,ops[i]? = some o∧∃e∈o.after,Region.binds .any e=true∧(e.on=k∨ord k e.on)
 back:∀i o,ops[i]? = some o→∀e∈o.after,Region.binds .any e=true→e.on<i
 HY:∀i j x y,i≠j→ops[i]? = some x→ops[j]? = some y→ord i j∨ord j i∨∀d,x.dst=some d→d∉y.looksAt ops∧y.dst≠some d
 boxes:∀i j,i<ops.size→j<ops.size→i≠j→ord i j∨ord j i∨(∀k,(ft i).wb=some k→k∉(ft j).rb∧(ft j).wb≠some k)∧((ft i).wh=true→(ft j).wh=false∧∀id∈(ft j).rh,(tx i).h.get id=(tx (i+1)).h.get id)
 NO:∀i o d,ops[i]? = some o→(ft i).al=true→o.dst=some d→(∀t∈ops.toList.filterMap (·.dst),t≠d→∀off,(tx 0).ρ t≠.lp d off)∧∀j y t,ops[j]? = some y→j≠i→ord i j∨(y.dst=some t→∀off,(tx (j+1)).ρ t≠.lp d off)
section
variable {P:Program}{cf:CallF}{aE:List Nat}{ops:Array Oper}{tx:Nat→RS}{ft:Nat→kD}{ord:Nat→Nat→Prop}
def ji (ops:Array Oper)(k:Nat):Option Nat:=(ops[k]?).bind (·.dst)
def jX (ops:Array Oper)(tx:Nat→RS)(ft:Nat→kD)(S:Nat→Bool):Nat→RS
 | 0=>tx 0
 | k+1=>if S k then (jX ops tx ft S k).shift (ft k) (ji ops k) (tx (k+1)) else jX ops tx ft S k
theorem sc.shift (T:sc P cf aE ops tx ft ord){k:Nat}(hk:k<ops.size):tx (k+1)=(tx k).shift (ft k) (ji ops k) (tx (k+1)):=by
 have ho:ops[k]? = some ops[k]:=by simp [hk]
 obtain⟨w,hw,h⟩:=T.op k _ ho
 have hd:ji ops k=ops[k].dst:=by simp [ji,hk]
 rw [hd]
 cases w with
 | true=>
  simp only [if_true] at h
  obtain⟨h1,h2⟩:=h
  have:=ud (s2:=tx k) (e:=bK (tx k).ρ) h1 (fun _ _=>rfl) (fun _ _=>rfl) (fun _=>rfl) (fun oe d yr=>by
   unfold uQ yJ at h1
   dsimp only at h1
   have HZ:∀(cs:List AV) (s s':RS),ie s aE (ops.toList.filterMap (·.dst)) ops[k] cs=some s'→aE.contains d=true→rK d s.ρ ((ops.toList.filterMap (·.dst)).filter fun t=>!Nat.beq t d)=true:=by
    intro cs s s' hb hl
    unfold ie at hb
    simp only [yr,hl,if_true] at hb
    by_cases hn:rK d s.ρ ((ops.toList.filterMap (·.dst)).filter fun t=>!Nat.beq t d)=true
    ·exact hn
    ·simp [hn] at hb
   unfold bc at oe
   split at oe
   ·rename_i t Ah
    rw [yr] at oe
    simp only at oe
    split at oe
    ·rename_i hl
     rw [Ah] at h1
     simp only [Vt] at h1
     obtain⟨z,_,h1⟩:=h1
     exact HZ _ _ _ h1 hl
    ·cases oe
   ·rename_i t x Ah
    rw [yr] at oe
    simp only at oe
    split at oe
    ·rename_i hl
     rw [Ah] at h1
     exact HZ _ _ _ h1 hl
    ·cases oe
   all_goals first
    | (split at oe<;>cases oe)
    | (split at oe<;>first | cases oe | (split at oe<;>cases oe))
    | cases oe)
  unfold uQ at h1
  rw [h1] at this
  rw [h2]
  exact Wg this
 | false=>
  simp only [VE,if_false] at h
  rw [h.1,h.2]
  exact iv (tx k) (tx k) {} _ _ rfl rfl
theorem rv (s2:RS)(f:kD)(d:Option Nat)(s':RS)(t:Nat):(s2.shift f d s').ρ t=if d=some t then s'.ρ t else s2.ρ t:=by
 cases d with
 | none=>simp [RS.shift]
 | some d=>
  simp only [RS.shift,Vw]
  by_cases h:t=d
  ·subst h; simp
  ·rw [if_neg h,if_neg (Ne.symm h)]
theorem oI (s2:RS)(f:kD)(d:Option Nat)(s':RS)(b:Nat):(s2.shift f d s').bx b=if f.wb=some b then s'.bx b else s2.bx b:=by
 cases hf:f.wb with
 | none=>simp [RS.shift,hf]
 | some k=>
  simp only [RS.shift,hf,Vw]
  by_cases h:b=k
  ·subst h; simp
  ·rw [if_neg h,if_neg (Ne.symm h)]
theorem sc.lt (T:sc P cf aE ops tx ft ord):∀{j k:Nat},ord k j→k<j:=by
 intro j
 induction j using Nat.strongRecOn with
 | _ j ih=>
  intro k h
  obtain⟨o,ho,e,he,hb,h1⟩:=T.IN k j h
  have h2:=T.back j o ho e he hb
  rcases h1 with h1 | h1
  ·omega
  ·have:=ih e.on h2 h1; omega
def pF (ops:Array Oper)(S:Nat→Bool):Prop:=∀j o,ops[j]? = some o→S j=true→∀e∈o.after,Region.binds .any e=true→S e.on=true
theorem sc.down (T:sc P cf aE ops tx ft ord){S:Nat→Bool}(hc:pF ops S):∀{j k:Nat},ord k j→S j=true→S k=true:=by
 intro j
 induction j using Nat.strongRecOn with
 | _ j ih=>
  intro k h hs
  obtain⟨o,ho,e,he,hb,h1⟩:=T.IN k j h
  have h2:=T.back j o ho e he hb
  have h3:=hc j o ho hs e he hb
  rcases h1 with h1 | h1
  ·rw [←h1]; exact h3
  ·exact ih e.on h2 h1 h3
variable {S:Nat→Bool}{i:Nat}{oi:Oper}
theorem sc.before (T:sc P cf aE ops tx ft ord)(hc:pF ops S)(ho:ops[i]? = some oi)(hr:∀e∈oi.after,Region.binds .any e=true→S e.on=true){k:Nat}(h:ord k i):S k=true:=by
 obtain⟨o,Kl,e,he,hb,h1⟩:=T.IN k i h
 rw [ho] at Kl
 cases Kl
 rcases h1 with h1 | h1
 ·rw [←h1]; exact hr e he hb
 ·exact T.down hc h1 (hr e he hb)
theorem sc.iff (T:sc P cf aE ops tx ft ord)(hc:pF ops S)(ho:ops[i]? = some oi)(hr:∀e∈oi.after,Region.binds .any e=true→S e.on=true)(hi:S i=false){k:Nat}(h:ord i k∨ord k i):S k=true↔k<i:=by
 rcases h with h | h
 ·have:=T.lt h
  refine⟨fun hk=>?_,fun _=>by omega⟩
  have:=T.down hc h hk
  rw [hi] at this; cases this
 ·exact⟨fun _=>T.lt h,fun _=>T.before hc ho hr h⟩
theorem vg (t:Nat)(k:Nat)(hd:ji ops k=some t)(hs:S k=true):(jX ops tx ft S (k+1)).ρ t=(tx (k+1)).ρ t:=by
 simp only [jX,hs,if_true,rv,hd]
theorem vh (t:Nat)(k:Nat)(h:¬ji ops k=some t∨S k=false):(jX ops tx ft S (k+1)).ρ t=(jX ops tx ft S k).ρ t:=by
 simp only [jX]
 split
 ·rename_i hs
  rcases h with h | h
  ·rw [rv,if_neg h]
  ·rw [h] at hs; cases hs
 ·rfl
theorem vi (b:Nat)(k:Nat)(hd:(ft k).wb=some b)(hs:S k=true):(jX ops tx ft S (k+1)).bx b=(tx (k+1)).bx b:=by
 simp only [jX,hs,if_true,oI,hd]
theorem vj (b:Nat)(k:Nat)(h:¬(ft k).wb=some b∨S k=false):(jX ops tx ft S (k+1)).bx b=(jX ops tx ft S k).bx b:=by
 simp only [jX]
 split
 ·rename_i hs
  rcases h with h | h
  ·rw [oI,if_neg h]
  ·rw [h] at hs; cases hs
 ·rfl
theorem vk (k:Nat)(hd:(ft k).wh=true)(hs:S k=true):(jX ops tx ft S (k+1)).h=(tx (k+1)).h:=by
 simp only [jX,hs,if_true,RS.shift,hd]
theorem vl (k:Nat)(h:¬(ft k).wh=true∨S k=false):(jX ops tx ft S (k+1)).h=(jX ops tx ft S k).h:=by
 simp only [jX]
 split
 ·rename_i hs
  rcases h with h | h
  ·simp only [RS.shift]; rw [if_neg h]
  ·rw [h] at hs; cases hs
 ·rfl
theorem sc.NP (T:sc P cf aE ops tx ft ord)(t:Nat)(k:Nat)(hk:k<ops.size)(h:¬ji ops k=some t):(tx (k+1)).ρ t=(tx k).ρ t:=by
 rw [T.shift hk,rv,if_neg h]
theorem sc.Lj (T:sc P cf aE ops tx ft ord)(b:Nat)(k:Nat)(hk:k<ops.size)(h:¬(ft k).wb=some b):(tx (k+1)).bx b=(tx k).bx b:=by
 rw [T.shift hk,oI,if_neg h]
theorem sc.IP (T:sc P cf aE ops tx ft ord)(k:Nat)(hk:k<ops.size)(h:¬(ft k).wh=true):(tx (k+1)).h=(tx k).h:=by
 rw [T.shift hk]; simp only [RS.shift]; rw [if_neg h]
theorem sc.reads (T:sc P cf aE ops tx ft ord)(hc:pF ops S)(ho:ops[i]? = some oi)(hr:∀e∈oi.after,Region.binds .any e=true→S e.on=true)(hi:S i=false) :
  (∀t∈oi.looksAt ops,(jX ops tx ft S ops.size).ρ t=(tx i).ρ t)∧(∀b∈(ft i).rb,(jX ops tx ft S ops.size).bx b=(tx i).bx b)∧
  (∀id∈(ft i).rh,(jX ops tx ft S ops.size).h.get id=(tx i).h.get id)∧((ft i).wh=true→(jX ops tx ft S ops.size).h=(tx i).h):=by
 have hin:i<ops.size:=(V4.1 ho).1
 have BY:∀k,k<ops.size→ops[k]? = some ops[k]!:=fun k hk=>by simp [hk]
 have DN:∀k,k=i→(S k=true↔k<i):=by
  rintro k rfl
  rw [hi]; simp
 refine⟨fun t ht=>?_,fun b hb=>?_,fun id hid=>?_,fun hw=>?_⟩
 ·refine oH (W:=fun k=>ji ops k=some t) (m:=fun k=>(jX ops tx ft S k).ρ t) (x:=fun k=>(tx k).ρ t) (S:=S) (Nat.le_of_lt hin) rfl (fun k _ h hs=>vg t k h hs) (fun k _ h=>vh t k h) (fun k hk h=>T.NP t k hk h) (fun k hk h=>?_)
  by_cases wZ:k=i
  ·exact DN k wZ
  ·obtain⟨y,hy,IQ⟩:=Vt.1 h
   rcases T.HY k i y oi wZ hy ho with h1 | h1 | h1
   ·exact T.iff hc ho hr hi (.inr h1)
   ·exact T.iff hc ho hr hi (.inl h1)
   ·exact absurd ht (h1 t IQ).1
 ·refine oH (W:=fun k=>(ft k).wb=some b) (m:=fun k=>(jX ops tx ft S k).bx b) (x:=fun k=>(tx k).bx b) (S:=S) (Nat.le_of_lt hin) rfl (fun k _ h hs=>vi b k h hs) (fun k _ h=>vj b k h) (fun k hk h=>T.Lj b k hk h) (fun k hk h=>?_)
  by_cases wZ:k=i
  ·exact DN k wZ
  ·rcases T.boxes k i hk hin wZ with h1 | h1 | h1
   ·exact T.iff hc ho hr hi (.inr h1)
   ·exact T.iff hc ho hr hi (.inl h1)
   ·exact absurd hb (h1.1 b h).1
 ·
  obtain⟨p,hp,La⟩:∃p,p≤ops.size∧∀k,k<ops.size→(ft k).wh=true→(S k=true↔k<p):=by
   have key:∀m,m≤ops.size→(∀k,k<m→(ft k).wh=true→S k=true)∨∃p,p<m∧(ft p).wh=true∧S p=false∧∀k,k<p→(ft k).wh=true→S k=true:=by
    intro m
    induction m with
    | zero=>intro _; exact .inl fun k hk=>by omega
    | succ m ih=>
     intro hm
     rcases ih (by omega) with h | ⟨p,h1,h2⟩
     ·by_cases hw:(ft m).wh=true∧S m=false
      ·exact .inr ⟨m,by omega,hw.1,hw.2,h⟩
      ·refine .inl fun k hk QD=>?_
       by_cases SU:k=m
       ·subst SU
        cases hs:S k with
        | true=>rfl
        | false=>exact absurd ⟨QD,hs⟩ hw
       ·exact h k (by omega) QD
     ·exact .inr ⟨p,by omega,h2⟩
   rcases key ops.size (Vy _) with h | ⟨p,h1,h2,h3,h4⟩
   ·exact⟨ops.size,Vy _,fun k hk hw=>⟨fun _=>hk,fun _=>h k hk hw⟩⟩
   ·refine⟨p,by omega,fun k hk hw=>⟨fun hs=>?_,fun MP=>h4 k MP hw⟩⟩
    rcases Nat.lt_or_ge k p with h5 | h5
    ·exact h5
    ·by_cases MP:k=p
     ·subst MP; rw [h3] at hs; cases hs
     ·rcases T.boxes p k h1 hk (Ne.symm MP) with h6 | h6 | h6
      ·have:=T.down hc h6 hs; rw [h3] at this; cases this
      ·have:=T.lt h6; omega
      ·have:=(h6.2 h2).1; rw [hw] at this; cases this
  have IS:(jX ops tx ft S ops.size).h=(tx p).h:=
   oH (W:=fun k=>(ft k).wh=true) (m:=fun k=>(jX ops tx ft S k).h) (x:=fun k=>(tx k).h) (S:=S) hp rfl (fun k _ h hs=>vk k h hs) (fun k _ h=>vl k h) (fun k hk h=>T.IP k hk h) La
  rw [IS]
  have H0:∀k,k<ops.size→(p≤k∧k<i)∨(i≤k∧k<p)→(tx (k+1)).h.get id=(tx k).h.get id:=by
   intro k hk hb
   by_cases hw:(ft k).wh=true
   ·have hs:=La k hk hw
    have wZ:k≠i:=by
     rintro rfl
     rcases hb with hb | hb
     ·omega
     ·have:=hs.2 hb.2; rw [hi] at this; cases this
    rcases T.boxes k i hk hin wZ with h1 | h1 | h1
    ·have hlt:=T.lt h1
     have:=hs.1 (T.before hc ho hr h1)
     omega
    ·have hlt:=T.lt h1
     have:=T.down hc h1 (hs.2 (by omega))
     rw [hi] at this; cases this
    ·exact ((h1.2 hw).2 id hid).symm
   ·rw [T.IP k hk hw]
  have walk:∀a b,a≤b→b≤ops.size→(∀k,a≤k→k<b→(tx (k+1)).h.get id=(tx k).h.get id)→(tx b).h.get id=(tx a).h.get id:=by
   intro a b Lk
   induction b with
   | zero=>
     intro _ _; have:a=0:=by omega
     subst this; rfl
   | succ b ih=>
    intro hb hk
    by_cases NQ:a=b+1
    ·subst NQ; rfl
    ·rw [hk b (by omega) (by omega)]
     exact ih (by omega) (by omega) fun k h1 h2=>hk k h1 (by omega)
  rcases Nat.le_total p i with h | h
  ·exact (walk p i h (Nat.le_of_lt hin) fun k h1 h2=>H0 k (by omega) (.inl ⟨h1,h2⟩)).symm
  ·exact walk i p h hp fun k h1 h2=>H0 k (by omega) (.inr ⟨h1,h2⟩)
 ·refine oH (W:=fun k=>(ft k).wh=true) (m:=fun k=>(jX ops tx ft S k).h) (x:=fun k=>(tx k).h) (S:=S) (Nat.le_of_lt hin) rfl (fun k _ h hs=>vk k h hs) (fun k _ h=>vl k h) (fun k hk h=>T.IP k hk h) (fun k hk h=>?_)
  by_cases wZ:k=i
  ·exact DN k wZ
  ·rcases T.boxes k i hk hin wZ with h1 | h1 | h1
   ·exact T.iff hc ho hr hi (.inr h1)
   ·exact T.iff hc ho hr hi (.inl h1)
   ·have:=(h1.2 h).1; rw [hw] at this; cases this
theorem w0 (t:Nat):∀k,(jX ops tx ft S k).ρ t=(tx 0).ρ t∨∃j,j<k∧S j=true∧ji ops j=some t∧(jX ops tx ft S k).ρ t=(tx (j+1)).ρ t
 | 0=>.inl rfl
 | k+1=>by
  by_cases h:ji ops k=some t∧S k=true
  ·exact .inr ⟨k,by omega,h.2,h.1,vg t k h.1 h.2⟩
  ·have h':¬ji ops k=some t∨S k=false:=by
    by_cases h1:ji ops k=some t
    ·right; cases hs:S k with
     | true=>exact absurd ⟨h1,hs⟩ h
     | false=>rfl
    ·exact .inl h1
   rw [vh t k h']
   rcases w0 t k with h1 | ⟨j,h1,h2⟩
   ·exact .inl h1
   ·exact .inr ⟨j,by omega,h2⟩
theorem sd {k:Nat}{ρ:Nat→AV}:∀{l:List Nat},(∀t∈l,∀off,ρ t≠.lp k off)→rK k ρ l=true
 | [],_=>rfl
 | t::l,h=>by
  simp only [rK,Vx]
  refine⟨?_,sd fun u hu=>h u (by simp [hu])⟩
  have:=h t (by simp)
  split
  ·rename_i j off heq
   simp only [bne_iff_ne,ne_eq]
   rintro rfl
   exact this off heq
  ·rfl
open Classical in
theorem sc.next (T:sc P cf aE ops tx ft ord)(hc:pF ops S)(ho:ops[i]? = some oi)(hr:∀e∈oi.after,Region.binds .any e=true→S e.on=true)(hi:S i=false){S':Nat→Bool}(Cb:∀k,S' k=if k=i then true else S k) :
  mg P cf aE ops.toList (jX ops tx ft S ops.size) oi=some (jX ops tx ft S' ops.size):=by
 have hin:i<ops.size:=(V4.1 ho).1
 obtain⟨h1,h2,h3,h4⟩:=T.reads hc ho hr hi
 obtain⟨w,hw,Ah⟩:=T.op i oi ho
 have qK:ji ops i=oi.dst:=by simp [ji,ho]
 have uf:∀j,i<j→j<ops.size→(ord i j∨ord j i)→S j=false:=by
  intro j yv hj h
  cases hs:S j with
  | false=>rfl
  | true=>have:=(T.iff hc ho hr hi h).1 hs; omega
 have IS:jX ops tx ft S' ops.size=(jX ops tx ft S ops.size).shift (ft i) (ji ops i) (tx (i+1)):=by
  refine RS.ext' (fun t=>?_) (fun b=>?_) ?_
  ·rw [rv]
   have:=vf (W:=fun k=>ji ops k=some t) (m:=fun k=>(jX ops tx ft S k).ρ t) (m':=fun k=>(jX ops tx ft S' k).ρ t) (x:=fun k=>(tx k).ρ t) (S:=S) (S':=S') hin rfl
    (fun k _ h hs=>vg t k h hs) (fun k _ h=>vh t k h) (fun k _ h hs=>vg t k h hs) (fun k _ h=>vh t k h) Cb hi (fun Kn j hj yv Ll=>by
     obtain⟨y,hy,IQ⟩:=Vt.1 Ll
     rw [qK] at Kn
     rcases T.HY i j oi y (by omega) ho hy with h | h | h
     ·exact uf j yv hj (.inl h)
     ·exact uf j yv hj (.inr h)
     ·exact absurd IQ (h t Kn).2)
   rw [this]
   by_cases hd:ji ops i=some t
   ·rw [if_pos hd,if_pos hd]
   ·rw [if_neg hd,if_neg hd]
  ·rw [oI]
   have:=vf (W:=fun k=>(ft k).wb=some b) (m:=fun k=>(jX ops tx ft S k).bx b) (m':=fun k=>(jX ops tx ft S' k).bx b) (x:=fun k=>(tx k).bx b) (S:=S) (S':=S') hin rfl
    (fun k _ h hs=>vi b k h hs) (fun k _ h=>vj b k h) (fun k _ h hs=>vi b k h hs) (fun k _ h=>vj b k h) Cb hi (fun Kn j hj yv Ll=>by
     rcases T.boxes i j hin hj (by omega) with h | h | h
     ·exact uf j yv hj (.inl h)
     ·exact uf j yv hj (.inr h)
     ·exact absurd Ll (h.1 b Kn).2)
   rw [this]
   by_cases hd:(ft i).wb=some b
   ·rw [if_pos hd,if_pos hd]
   ·rw [if_neg hd,if_neg hd]
  ·have:=vf (W:=fun k=>(ft k).wh=true) (m:=fun k=>(jX ops tx ft S k).h) (m':=fun k=>(jX ops tx ft S' k).h) (x:=fun k=>(tx k).h) (S:=S) (S':=S') hin rfl
    (fun k _ h hs=>vk k h hs) (fun k _ h=>vl k h) (fun k _ h hs=>vk k h hs) (fun k _ h=>vl k h) Cb hi (fun Kn j hj yv Ll=>by
     rcases T.boxes i j hin hj (by omega) with h | h | h
     ·exact uf j yv hj (.inl h)
     ·exact uf j yv hj (.inr h)
     ·have:=(h.2 Kn).1; rw [Ll] at this; cases this)
   rw [this]
   simp only [RS.shift]
   by_cases hd:(ft i).wh=true
   ·rw [if_pos hd,if_pos hd]
   ·rw [if_neg hd,if_neg hd]
 have Lm:∀x∈oi.op.operands,bK (jX ops tx ft S ops.size).ρ x=bK (tx i).ρ x:=by
  intro x hx
  cases x with
  | tmp t=>
   refine h1 t ?_
   unfold Oper.looksAt
   rw [VY]
   left
   rw [List.mem_filterMap]
   exact⟨.tmp t,Wq.2 hx,rfl⟩
  | _=>rfl
 have Ln:gR ops.toList (jX ops tx ft S ops.size).ρ oi=gR ops.toList (tx i).ρ oi:=by
  unfold gR
  cases hg:oi.guard with
  | none=>rfl
  | some g=>
   obtain⟨g,want⟩:=g
   simp only
   cases hq:(ops.toList[g]?).bind (·.dst) with
   | none=>rfl
   | some d=>
    simp only [Vu]
    rw [h1 d]
    unfold Oper.looksAt
    rw [VY]
    right
    rw [hg]
    simp only
    have:(ops[g]?).bind (·.dst)=some d:=by simpa using hq
    rw [this]
    simp
 unfold mg
 rw [Ln,hw]
 simp only [Vu]
 rw [IS,qK]
 cases w with
 | false=>
  simp only [VE,if_false] at Ah ⊢
  rw [Ah.1,Ah.2]
  congr 1
  exact iv (tx i) _ {} _ _ rfl rfl
 | true=>
  simp only [if_true] at Ah ⊢
  obtain⟨Ah,Ko⟩:=Ah
  unfold uQ at Ah ⊢
  rw [Ca Lm,Ko]
  rw [Ko] at h2 h3 h4
  refine ud Ah h2 h3 h4 (fun oe d yr=>sd fun t ht off he=>?_)
  rw [List.mem_filter] at ht
  obtain⟨SV,SW⟩:=ht
  have HS:t≠d:=by simpa [beq_nat] using SW
  obtain⟨l1,l2⟩:=T.NO i oi d ho (by rw [Ko]; exact oe) yr
  rcases w0 (ops:=ops) (tx:=tx) (ft:=ft) (S:=S) t ops.size with h | ⟨j,hj,hs,SX,h⟩
  ·rw [h] at he
   exact l1 t SV HS off he
  ·rw [h] at he
   obtain⟨y,hy,IQ⟩:=Vt.1 SX
   have hji:j≠i:=by rintro rfl; rw [hi] at hs; cases hs
   rcases l2 j y t hy hji with h5 | h5
   ·have:=T.down hc h5 hs; rw [hi] at this; cases this
   ·exact h5 IQ off he
theorem Ai (T:sc P cf aE ops tx ft ord)(kN:∀k,k<ops.size→S k=true):∀k,k≤ops.size→jX ops tx ft S k=tx k
 | 0,_=>rfl
 | k+1,hk=>by
  simp only [jX,kN k (by omega),if_true]
  rw [Ai T kN k (by omega)]
  exact (T.shift (by omega)).symm
def left (n:Nat)(S:Nat→Bool):Nat:=(WD n).countP fun j=>!S j
theorem Cc {n:Nat}{S:Nat→Bool}(h:left n S=0):∀k,k<n→S k=true:=by
 intro k hk
 unfold left at h
 rw [List.countP_eq_zero] at h
 simpa using h k (WJ.2 hk)
theorem DO {n i:Nat}(hi:i<n){S S':Nat→Bool}(Li:S i=false)(Cb:∀k,S' k=if k=i then true else S k):left n S'+1=left n S:=by
 unfold left
 have:∀m,(WD m).countP (fun j=>!S' j)+(if i<m then 1 else 0)=(WD m).countP fun j=>!S j:=by
  intro m
  induction m with
  | zero=>simp
  | succ m ih=>
   rw [List.range_succ,List.countP_append,List.countP_append]
   simp only [List.countP_cons,List.countP_nil]
   by_cases hm:m=i
   ·subst hm
    have h1:S' m=true:=by rw [Cb]; simp
    rw [h1,Li]
    simp at ih ⊢
    omega
   ·have h1:S' m=S m:=by rw [Cb,if_neg hm]
    rw [h1]
    by_cases QE:i<m
    ·have h3:i<m+1:=by omega
     simp only [QE,h3,if_true] at ih ⊢
     omega
    ·have h3:¬i<m+1:=by omega
     simp only [QE,h3,if_false] at ih ⊢
     omega
 have:=this n
 rw [if_pos hi] at this
 exact this
theorem IT (T:sc P cf aE ops tx ft ord)(hcf:CallOK P cf){L0:Nat→Prop}{c0:Cx}{n:Nat}(hb0:c0.base≤c0.w.heap.size)(F8:uc n ops.toList=true){Q:Exit→Act→World→Prop}
  (hQ:∀a' w',Inv L0 c0 n (ops.toList.filterMap (·.dst)) (tx ops.size) a' w'→Q .normal a' w') :
  ∀(fuel:Nat) (dP:Array Bool) (a:Act) (w:World),dP.size=ops.size→pF ops (fun j=>dP.getD j false)→left ops.size (fun j=>dP.getD j false)≤fuel→
   Inv L0 c0 n (ops.toList.filterMap (·.dst)) (jX ops tx ft (fun j=>dP.getD j false) ops.size) a w→wpAny P .any ops Q fuel dP a w:=by
 intro fuel
 have DP:∀(dP:Array Bool) a w,dP.size=ops.size→Region.ready .any ops dP=[]→Inv L0 c0 n (ops.toList.filterMap (·.dst)) (jX ops tx ft (fun j=>dP.getD j false) ops.size) a w→Q .normal a w:=by
  intro dP a w hsz Kp hi
  have kN:∀k,k<ops.size→dP.getD k false=true:=by
   intro k
   induction k using Nat.strongRecOn with
   | _ k ih=>
    intro hk
    cases hl:dP.getD k false with
    | true=>rfl
    | false=>
     have:k∈Region.ready .any ops dP:=mem_ready.2 ⟨getD_in (by omega) hl,ops[k],by simp [hk],fun e he hb=>by
      have:=T.back k ops[k] (by simp [hk]) e he hb
      exact ih e.on this (by omega)⟩
     rw [Kp] at this
     cases this
  rw [Ai (S:=fun j=>dP.getD j false) T kN _ (Vy _)] at hi
  exact hQ a w hi
 induction fuel with
 | zero=>
  intro dP a w hsz hc hl hi
  have kN:=Cc (Nat.le_zero.1 hl)
  have Kp:Region.ready .any ops dP=[]:=by
   rw [List.eq_nil_iff_forall_not_mem]
   intro j hj
   obtain⟨h1,o,ho,_⟩:=mem_ready.1 hj
   have NR:j<ops.size:=(V4.1 ho).1
   have h2:=kN j NR
   have Cd:j<dP.size:=by omega
   simp [Cd] at h1 h2
   rw [h1] at h2; cases h2
  exact⟨Kp,DP dP a w hsz Kp hi⟩
 | succ fuel ih=>
  intro dP a w hsz hc hl hi
  refine⟨fun Kp=>DP dP a w hsz Kp hi,fun i w6=>?_⟩
  obtain⟨h1,o,ho,Lp⟩:=mem_ready.1 w6
  have hin:i<ops.size:=(V4.1 ho).1
  have QF:i<dP.size:=by omega
  have Li:dP.getD i false=false:=by simp [QF] at h1 ⊢; exact h1
  have Cb:∀k,(dP.setIfInBounds i true).getD k false=if k=i then true else dP.getD k false:=by
   intro k
   by_cases hk:k=i
   ·subst hk
    rw [if_pos rfl]
    simp [QF]
   ·rw [if_neg hk,getD_set_ne false (Ne.symm hk)]
  have hst:=T.next (S:=fun j=>dP.getD j false) (S':=fun k=>(dP.setIfInBounds i true).getD k false) hc ho Lp Li Cb
  unfold wpOp
  rw [ho]
  simp only
  have Lq:o∈ops.toList:=Wq.2 (Array.mem_of_getElem? ho)
  have:=wT (Q:=Q) (K:=wpAny P .any ops Q fuel (dP.setIfInBounds i true)) hcf hb0 rfl (wU F8 Lq) hst hi (fun a' w' jI=>by
   refine ih _ a' w' (by simpa using hsz) ?_ ?_ jI
   ·intro j oj NS hj e he hb
    dsimp only at hj ⊢
    rw [Cb] at hj ⊢
    by_cases hji:j=i
    ·subst hji
     rw [ho] at NS
     cases NS
     have:=Lp e he hb
     rw [this]; simp
    ·rw [if_neg hji] at hj
     have:=hc j oj NS hj e he hb
     simp only at this
     rw [this]; simp
   ·have:=DO hin (S:=fun j=>dP.getD j false) Li Cb
    omega)
  split
  ·rename_i hw; rw [if_pos hw] at this; exact .inl this
  ·rename_i hw; rw [if_neg hw] at this; exact this
theorem ug {opsL:List Oper}:∀(l:List Oper) (s r:RS) (es:List lU),ov P cf aE opsL s l=some (es,r)→∃tx:Nat→RS,tx 0=s∧tx l.length=r∧
  ∀k o,l[k]? = some o→∃w,gR opsL (tx k).ρ o=some w∧(if w then uQ P cf aE (opsL.filterMap (·.dst)) (tx k) o=some (tx (k+1)) else tx (k+1)=(tx k).set o.dst (.tup []))∧
   es[k]? = some {o,f:=if w then bc aE (bK (tx k).ρ) o else {},s:=tx k,s':=tx (k+1)}
 | [],s,r,es,h=>by
  simp only [ov,Vw,VC] at h
  obtain⟨rfl,rfl⟩:=h
  exact⟨fun _=>s,rfl,rfl,fun k o ho=>by simp at ho⟩
 | o::l,s,r,es,h=>by
  simp only [ov,Vt,Vv] at h
  obtain⟨w,hw,s1,h1,⟨qa,r'⟩,h2,h3⟩:=h
  simp only [VC] at h3
  obtain⟨rfl,rfl⟩:=h3
  obtain⟨tx,t0,tn,ht⟩:=ug l s1 r' qa h2
  refine⟨fun | 0=>s | k+1=>tx k,rfl,tn,fun k o' ho=>?_⟩
  cases k with
  | zero=>
   simp only [Wc,Vw] at ho
   subst ho
   refine⟨w,hw,?_,?_⟩
   ·cases w with
    | true=>simpa [t0] using h1
    | false=>
     simp only [VE,if_false,Vw] at h1 ⊢
     rw [t0]; exact h1.symm
   ·simp [t0]
  | succ k=>
   obtain⟨w',h4,h5,h6⟩:=ht k o' (by simpa using ho)
   exact⟨w',h4,h5,by simpa using h6⟩
theorem DQ {e:Operand→AV}{o:Oper}(h:(bc aE e o).al=true):(bc aE e o).wb.isSome=true:=by
 unfold bc at h ⊢
 split at h<;>try (cases h; done)
 all_goals (split at h<;>try (cases h; done))
 all_goals (split at h<;>try (cases h; done))
 all_goals simp_all
theorem Ce {k:Nat}{x:AV}(h:Iu k x=false):∀off,x≠.lp k off:=by
 rintro off rfl
 simp [Iu] at h
theorem w7 (hm:P.follows .mixedOrders=true)(hcf:CallOK P cf)(SY:SteadyF cf):y4 P cf:=by
 intro L0 c0 n aE id ops s s' h hb0 F8 a w Q hi hQ
 unfold jH at h
 dsimp only at h
 split at h
 rotate_left
 ·cases h
 rename_i vm
 rw [Vt] at h
 obtain⟨⟨es,r⟩,yT,h⟩:=h
 simp only at h
 split at h
 rotate_left
 ·cases h
 rename_i w8
 cases h
 obtain⟨tx,t0,tn,ht⟩:=ug ops.toList s s' es yT
 generalize KJ:js [] ops.toList=ms at vm w8
 have NT:∀k i,(ms.getD i 0).testBit k=true→∃o,ops[i]? = some o∧∃e∈o.after,Region.binds .any e=true∧(e.on=k∨(ms.getD e.on 0).testBit k=true):=by
  intro k i hk
  obtain⟨o,ho,e,he,hb,h1⟩:=(qz ops.toList []).2 i k (by rw [KJ]; exact hk) (by simp)
  refine⟨o,by simpa using ho,e,Wq.1 he,hb,?_⟩
  rw [KJ] at h1
  exact h1
 unfold mY at vm
 simp only [Vx] at vm
 obtain⟨IU,DR⟩:=vm
 let ft:Nat→kD:=fun k=>((es[k]?).map (·.f)).getD {}
 have rS:∀k o,ops[k]? = some o→∃w,gR ops.toList (tx k).ρ o=some w∧(if w then uQ P cf aE (ops.toList.filterMap (·.dst)) (tx k) o=some (tx (k+1)) else tx (k+1)=(tx k).set o.dst (.tup []))∧
   es[k]? = some {o,f:=ft k,s:=tx k,s':=tx (k+1)}∧ft k=if w then bc aE (bK (tx k).ρ) o else {}:=by
  intro k o ho
  obtain⟨w,h1,h2,h3⟩:=ht k o (by simpa using ho)
  have Ko:ft k=if w then bc aE (bK (tx k).ρ) o else {}:=by simp only [ft,h3,VA,Wr]
  exact⟨w,h1,h2,by rw [Ko]; exact h3,Ko⟩
 have w6:∀k o,ops[k]? = some o→((⟨o,ft k,tx k,tx (k+1)⟩:lU),k)∈es.zipIdx:=by
  intro k o ho
  obtain⟨w,_,_,h3,_⟩:=rS k o ho
  exact List.mk_mem_zipIdx_iff_getElem?.2 h3
 simp only [VO,List.mem_filter,Vx] at w8
 have qe:∀k o,ops[k]? = some o→(ft k).quiet=false→(((⟨o,ft k,tx k,tx (k+1)⟩:lU),k)∈es.zipIdx∧(!(ft k).quiet)=true):=fun k o ho hq=>⟨w6 k o ho,by rw [hq]; rfl⟩
 have BY:∀k,k<ops.size→ops[k]? = some ops[k]!:=fun k hk=>by simp [hk]
 have IV:∀i j x y,ops[i]? = some x→ops[j]? = some y→i≠j→(ft i).quiet=false→(ft j).quiet=false→(ms.getD j 0).testBit i=true∨(ms.getD i 0).testBit j=true∨
   lU.jq ⟨x,ft i,tx i,tx (i+1)⟩ ⟨y,ft j,tx j,tx (j+1)⟩=true:=by
  intro i j x y hx hy yv H2 Gc
  rcases Nat.lt_or_ge i j with hlt | hge
  ·have:=(w8 _ (qe i x hx H2)).2 _ (qe j y hy Gc)
   simp only [Wf,Vx] at this
   rcases this with (h1 | h1) | h1
   ·have:=Nat.le_of_ble_eq_true h1; omega
   ·exact .inl h1
   ·exact .inr (.inr h1.1)
  ·have:=(w8 _ (qe j y hy Gc)).2 _ (qe i x hx H2)
   simp only [Wf,Vx] at this
   rcases this with (h1 | h1) | h1
   ·have:=Nat.le_of_ble_eq_true h1; omega
   ·exact .inr (.inl h1)
   ·exact .inr (.inr h1.2)
 have NU:∀id,(tx 0).h.ver id<(tx 0).h.next:=by
  obtain⟨_,c,Lo,lam,_,f,_⟩:=hi
  rw [t0,←f.h]; exact f.rel.ver
 have hst:∀k,k<ops.size→Steady (tx k).h (tx (k+1)).h:=by
  intro k hk
  obtain⟨w,h1,h2,_⟩:=rS k _ (BY k hk)
  cases w with
  | true=>exact sb SY (by simpa [uQ] using h2)
  | false=>
   simp only [VE,if_false] at h2
   rw [h2,jh]; exact Steady.refl _
 have MQ:∀k,k≤ops.size→∀id,(tx k).h.ver id<(tx k).h.next:=by
  intro k
  induction k with
  | zero=>intro _; exact NU
  | succ k ih=>intro hk; exact (hst k (by omega)).wf (ih (by omega))
 have T:sc P cf aE ops tx ft (fun k i=>(ms.getD i 0).testBit k=true):=by
  refine⟨fun k o ho=>?_,NT,fun i o ho e he hb=>?_,fun i j x y yv hx hy=>?_,fun i j hin NR yv=>?_,fun i o d ho oe hd=>?_⟩
  ·obtain⟨w,h1,h2,h3,h4⟩:=rS k o ho
   refine⟨w,h1,?_⟩
   cases w with
   | true=>exact⟨h2,h4⟩
   | false=>exact⟨h2,h4⟩
  ·have:=oG _ 0 IU i o (by simpa using ho) e (Wq.2 he) hb
   omega
  ·have Kq:∀x y:Oper,uR ops x y=true→∀d,x.dst=some d→d∉y.looksAt ops∧y.dst≠some d:=by
    intro x y h d hd
    unfold uR at h
    rw [hd] at h
    simpa using h
   rcases Nat.lt_or_ge i j with hlt | hge
   ·have:=km _ _ 0 DR i j x y hlt (by simpa using hx) (by simpa using hy)
    simp only [VU,Wf,Vx] at this
    rcases this with h1 | h1
    ·exact .inl h1
    ·exact .inr (.inr (Kq _ _ h1.1))
   ·have:=km _ _ 0 DR j i y x (by omega) (by simpa using hy) (by simpa using hx)
    simp only [VU,Wf,Vx] at this
    rcases this with h1 | h1
    ·exact .inr (.inl h1)
    ·exact .inr (.inr (Kq _ _ h1.2))
  ·cases H2:(ft i).quiet with
   | true=>
    unfold kD.quiet at H2
    simp only [Vx,Option.isNone_iff_eq_none,WG] at H2
    exact .inr (.inr ⟨fun k hk=>(by rw [H2.1.1.2] at hk; cases hk),fun hk=>(by rw [H2.2] at hk; cases hk)⟩)
   | false=>
    cases Gc:(ft j).quiet with
    | true=>
     unfold kD.quiet at Gc
     simp only [Vx,Option.isNone_iff_eq_none,WG,List.isEmpty_iff] at Gc
     obtain⟨⟨⟨q1,q2⟩,q3⟩,q4⟩:=Gc
     exact .inr (.inr ⟨fun k hk=>⟨by rw [q1]; simp,by rw [q2]; simp⟩,fun hk=>⟨q4,by rw [q3]; simp⟩⟩)
    | false=>
     rcases IV i j _ _ (BY i hin) (BY j NR) yv H2 Gc with h1 | h1 | h1
     ·exact .inl h1
     ·exact .inr (.inl h1)
     ·refine .inr (.inr ?_)
      unfold lU.jq at h1
      simp only [Vx,Wf,WG,VO] at h1
      obtain⟨h2,h3⟩:=h1
      refine⟨fun k hk=>?_,fun hk=>?_⟩
      ·rw [hk] at h2
       simpa using h2
      ·rcases h3 with h3 | h3
       ·rw [hk] at h3; cases h3
       ·refine⟨h3.1,fun id hid=>?_⟩
        have hv:=WB (h3.2 id hid)
        rcases (hst i hin).keep id with⟨_,h5⟩| h5
        ·exact h5.symm
        ·have:=MQ i (by omega) id; omega
  ·obtain⟨w,h1,h2,h3,h4⟩:=rS i o ho
   have hq:(ft i).quiet=false:=by
    cases w with
    | false=>rw [h4] at oe; cases oe
    | true=>
     rw [h4] at oe ⊢
     have:=DQ oe
     unfold kD.quiet
     simp only [if_true] at this ⊢
     cases hwb:(bc aE (bK (tx i).ρ) o).wb with
     | none=>rw [hwb] at this; cases this
     | some k=>simp
   have:=(w8 _ (qe i o ho hq)).1
   unfold rq at this
   simp only [oe,hd] at this
   simp only [Vx,VO,Wf] at this
   obtain⟨k1,k2⟩:=this
   refine⟨fun t ht HS off=>?_,fun j y t hy hji=>?_⟩
   ·rw [t0]
    exact pA k1 t (by rw [List.mem_filter]; exact⟨ht,by simpa [beq_nat] using HS⟩) off
   ·have:=k2 _ (w6 j y hy)
    rcases this with (h5 | h5) | h5
    ·have:=WB h5; omega
    ·exact .inl h5
    ·right
     intro IQ off
     simp only [lU.out,IQ,WG] at h5
     exact Ce h5 off
 have hlen:tx ops.size=s':=by simpa using tn
 refine wp_region_any hm ?_
 refine IT T hcf hb0 F8 (fun a' w' jI=>hQ a' w' (by rw [hlen] at jI; exact jI)) ops.size _ _ _ (by simp) ?_ ?_ ?_
 ·intro j o _ hj
  simp only [getD_replicate_false] at hj
  cases hj
 ·unfold left
  exact Wj (List.countP_le_length) (by simp)
 ·have DC:∀k,jX ops tx ft (fun j=>(Array.replicate ops.size false).getD j false) k=tx 0:=by
   intro k
   induction k with
   | zero=>rfl
   | succ k ih=>
    rw [jX,getD_replicate_false,if_neg (by simp)]
    exact ih
  rw [DC,t0]
  exact hi.drew
end
end Go.R
namespace Go.R
open Go
section
variable {c d:Cx}{L L':Nat→Prop}
mutual
theorem Aj (hw:d.w=c.w)(hbs:d.base≤c.base)(k9:∀b,RO c L b→RO d L' b):∀(x:AV) (v:Value),x.dS=true→VR c L x v→VR d L' x v
 | .any,_,h,_=>by simp [AV.dS] at h
 | .bool _,_,_,h=>h
 | .int _ _,_,_,h=>h
 | .str _,_,_,h=>h
 | .nK,_,_,h=>h
 | .ptr _ _,_,h,_=>by simp [AV.dS] at h
 | .lp _ _,_,h,_=>by simp [AV.dS] at h
 | .fp cs off,v,h,hv=>by
  simp only [AV.dS] at h
  simp only [VR] at hv ⊢
  obtain⟨b,o,rfl,hc⟩:=hv
  exact⟨b,o,rfl,hc.imp id fun ⟨hr,hc⟩=>⟨k9 b hr,nT hw hbs k9 cs b o h hc⟩⟩
 | .nils,_,_,h=>h
 | .fz cs n ex,v,h,hv=>by
  simp only [AV.dS] at h
  simp only [VR] at hv ⊢
  obtain⟨a,cap,rfl,h1,h2,hs,hc⟩:=hv
  exact⟨a,cap,rfl,h1,h2,hs,hc.imp id fun ⟨b,o,ha,hr,hex,hc⟩=>⟨b,o,ha,k9 b hr,fun h=>Wj hbs (hex h),nT hw hbs k9 cs b o h hc⟩⟩
 | .rs _ _ _ _,_,h,_=>by simp [AV.dS] at h
 | .lT,_,_,h=>h
 | .mp _,_,h,_=>by simp [AV.dS] at h
 | .fn f cap,v,h,hv=>by
  simp only [AV.dS] at h
  simp only [VR] at hv ⊢
  obtain⟨vs,rfl,h1⟩:=hv
  exact⟨vs,rfl,oJ hw hbs k9 cap vs.toList h h1⟩
 | .oo,_,_,h=>h
 | .agg cs,v,h,hv=>by
  simp only [AV.dS] at h
  simp only [VR] at hv ⊢
  obtain⟨vs,rfl,h1⟩:=hv
  exact⟨vs,rfl,oJ hw hbs k9 cs vs.toList h h1⟩
 | .tup cs,v,h,hv=>by
  simp only [AV.dS] at h
  simp only [VR] at hv ⊢
  obtain⟨vs,rfl,h1⟩:=hv
  exact⟨vs,rfl,oJ hw hbs k9 cs vs.toList h h1⟩
theorem oJ (hw:d.w=c.w)(hbs:d.base≤c.base)(k9:∀b,RO c L b→RO d L' b):∀(xs:List AV) (vs:List Value),cH xs=true→VRs c L xs vs→VRs d L' xs vs
 | [],[],_,_=>trivial
 | x::xs,v::vs,h,hv=>by
  simp only [cH,Vx] at h
  exact⟨Aj hw hbs k9 x v h.1 hv.1,oJ hw hbs k9 xs vs h.2 hv.2⟩
 | [],_::_,_,h=>h.elim
 | _::_,[],_,h=>h.elim
theorem nT (hw:d.w=c.w)(hbs:d.base≤c.base)(k9:∀b,RO c L b→RO d L' b):∀(xs:List AV) (b o:Nat),cH xs=true→Cells c L xs b o→Cells d L' xs b o
 | [],_,_,_,_=>trivial
 | x::xs,b,o,h,hv=>by
  simp only [cH,Vx] at h
  obtain⟨⟨v,h1,h2,h3⟩,h4⟩:=hv
  exact⟨⟨v,by rw [hw]; exact h1,h2,Aj hw hbs k9 x v h.1 h3⟩,nT hw hbs k9 xs b (o+1) h.2 h4⟩
end
mutual
theorem vn (hw:d.w=c.w)(k9:∀b,RO c L b→RO d L' b):∀(x:AV) (v:Value),x.dS=true→VR c L x v→VR d L' x.jm v
 | .any,_,h,_=>by simp [AV.dS] at h
 | .bool _,_,_,h=>h
 | .int _ _,_,_,h=>h
 | .str _,_,_,h=>h
 | .nK,_,_,h=>h
 | .ptr _ _,_,h,_=>by simp [AV.dS] at h
 | .lp _ _,_,h,_=>by simp [AV.dS] at h
 | .fp cs off,v,h,hv=>by
  simp only [AV.dS] at h
  simp only [VR,AV.jm] at hv ⊢
  obtain⟨b,o,rfl,hc⟩:=hv
  refine⟨b,o,rfl,?_⟩
  rcases hc with rfl | ⟨hr,hc⟩
  ·exact .inl rfl
  ·exact .inr ⟨k9 b hr,pG hw k9 cs b o h hc⟩
 | .nils,v,_,h=>by
  simp only [VR] at h
  simp only [AV.jm,VR]
  exact⟨none,0,h,Vy _,by simp,.inr ⟨trivial,rfl⟩,.inl trivial⟩
 | .fz cs n ex,v,h,hv=>by
  simp only [AV.dS] at h
  simp only [VR,AV.jm] at hv ⊢
  obtain⟨a,cap,rfl,h1,h2,hs,hc⟩:=hv
  refine⟨a,cap,rfl,h1,by simp,hs.imp id fun h=>⟨by rw [h.1]; rfl,h.2⟩,?_⟩
  rcases hc with rfl | ⟨b,o,ha,hr,hex,hc⟩
  ·exact .inl rfl
  ·exact .inr ⟨b,o,ha,k9 b hr,by simp,pG hw k9 cs b o h hc⟩
 | .rs _ _ _ _,_,h,_=>by simp [AV.dS] at h
 | .lT,_,_,h=>h
 | .mp _,_,h,_=>by simp [AV.dS] at h
 | .fn f cap,v,h,hv=>by
  simp only [AV.dS] at h
  simp only [VR,AV.jm] at hv ⊢
  obtain⟨vs,rfl,h1⟩:=hv
  exact⟨vs,rfl,oK hw k9 cap vs.toList h h1⟩
 | .oo,_,_,h=>h
 | .agg cs,v,h,hv=>by
  simp only [AV.dS] at h
  simp only [VR,AV.jm] at hv ⊢
  obtain⟨vs,rfl,h1⟩:=hv
  exact⟨vs,rfl,oK hw k9 cs vs.toList h h1⟩
 | .tup cs,v,h,hv=>by
  simp only [AV.dS] at h
  simp only [VR,AV.jm] at hv ⊢
  obtain⟨vs,rfl,h1⟩:=hv
  exact⟨vs,rfl,oK hw k9 cs vs.toList h h1⟩
theorem oK (hw:d.w=c.w)(k9:∀b,RO c L b→RO d L' b):∀(xs:List AV) (vs:List Value),cH xs=true→VRs c L xs vs→VRs d L' (dn xs) vs
 | [],[],_,_=>trivial
 | x::xs,v::vs,h,hv=>by
  simp only [cH,Vx] at h
  exact⟨vn hw k9 x v h.1 hv.1,oK hw k9 xs vs h.2 hv.2⟩
 | [],_::_,_,h=>h.elim
 | _::_,[],_,h=>h.elim
theorem pG (hw:d.w=c.w)(k9:∀b,RO c L b→RO d L' b):∀(xs:List AV) (b o:Nat),cH xs=true→Cells c L xs b o→Cells d L' (dn xs) b o
 | [],_,_,_,_=>trivial
 | x::xs,b,o,h,hv=>by
  simp only [cH,Vx] at h
  obtain⟨⟨v,h1,h2,h3⟩,h4⟩:=hv
  exact⟨⟨v,by rw [hw]; exact h1,h2,vn hw k9 x v h.1 h3⟩,pG hw k9 xs b (o+1) h.2 h4⟩
end
mutual
theorem pH (hw:d.w=c.w)(k9:∀b,RO c L b→RO d L' b)(hrel:HRel c L)(hid:∀id,Live c.h id→RO d L' (c.β id).1):∀(n:Nat) (x y:AV) (v:Value),cb c.h n x=some y→VR c L x v→VR d L' y v
 | 0,x,y,v,h,_=>by simp [cb] at h
 | n+1,x,y,v,h,hv=>by
  have NV:(if x.dS then some x.jm else none)=some y→VR d L' y v:=by
   intro h
   split at h
   ·rename_i hn; cases h; exact vn hw k9 x v hn hv
   ·cases h
  cases x with
  | ptr id off=>
   simp only [cb,Vt] at h
   obtain⟨ob,ho,h⟩:=h
   cases ob with
   | map es=>cases h
   | row t cs=>cases h
   | cells cs=>
    simp only [Vv] at h
    obtain⟨eY,hcs,rfl⟩:=h
    have hl:Live c.h id:=⟨hrel.lt _ _ ho,by simp [ho]⟩
    obtain⟨m,_,_,hc⟩:=hrel.obj _ _ ho
    simp only [VR] at hv ⊢
    obtain⟨_,a,rfl,ha⟩:=hv
    rw [ha hl]
    exact⟨_,_,rfl,.inr ⟨hid id hl,jP hw k9 hrel hid n cs eY _ _ hcs hc⟩⟩
  | rs id off len iq=>
   simp only [cb] at h
   split at h
   ·rename_i hid
    split at h
    rotate_left
    ·cases h
    rename_i hl0
    cases h
    simp only [VR] at hv ⊢
    rcases hv with⟨_,_,_,a,rfl⟩| hv
    ·exact⟨a,0,rfl,Vy _,by simp,.inr ⟨trivial,rfl⟩,.inl trivial⟩
    ·exact absurd hid hv.1
   rename_i jY
   rw [Vt] at h
   obtain⟨ob,ho,h⟩:=h
   cases ob with
   | map es=>cases h
   | row t cs=>cases h
   | cells cs=>
    simp only at h
    split at h
    rotate_left
    ·cases h
    rename_i hle
    simp only [Vv] at h
    obtain⟨eY,hcs,rfl⟩:=h
    have hl:Live c.h id:=⟨hrel.lt _ _ ho,by simp [ho]⟩
    obtain⟨m,_,_,hc⟩:=hrel.obj _ _ ho
    simp only [VR] at hv ⊢
    rcases hv with hv | ⟨_,_,a,cap,rfl,h1,h2,h3⟩
    ·exact absurd hv.1 jY
    refine⟨a,cap,rfl,h1,by simp,.inl h2,?_⟩
    rcases h3 hl with⟨h4,_⟩| h4
    ·exact .inr ⟨_,_,h4,hid id hl,by simp,jP hw k9 hrel hid n _ eY _ _ hcs ((hc.drop off).take (len*iq))⟩
    ·left
     have hz:len=0:=by omega
     subst hz
     rw [Nat.zero_mul,List.take_zero] at hcs
     cases n with
     | zero=>simp [bq] at hcs
     | succ n=>simp only [bq,Vw] at hcs; exact hcs.symm
  | agg cs=>
   simp only [cb,Vv] at h
   obtain⟨eY,hcs,rfl⟩:=h
   simp only [VR] at hv ⊢
   obtain⟨vs,rfl,h1⟩:=hv
   exact⟨vs,rfl,iw hw k9 hrel hid n cs eY vs.toList hcs h1⟩
  | tup cs=>
   simp only [cb,Vv] at h
   obtain⟨eY,hcs,rfl⟩:=h
   simp only [VR] at hv ⊢
   obtain⟨vs,rfl,h1⟩:=hv
   exact⟨vs,rfl,iw hw k9 hrel hid n cs eY vs.toList hcs h1⟩
  | fn f cs=>
   simp only [cb,Vv] at h
   obtain⟨eY,hcs,rfl⟩:=h
   simp only [VR] at hv ⊢
   obtain⟨vs,rfl,h1⟩:=hv
   exact⟨vs,rfl,iw hw k9 hrel hid n cs eY vs.toList hcs h1⟩
  | _=>exact NV (by simpa only [cb] using h)
theorem iw (hw:d.w=c.w)(k9:∀b,RO c L b→RO d L' b)(hrel:HRel c L)(hid:∀id,Live c.h id→RO d L' (c.β id).1):∀(n:Nat) (xs ys:List AV) (vs:List Value),bq c.h n xs=some ys→VRs c L xs vs→VRs d L' ys vs
 | 0,xs,ys,vs,h,_=>by simp [bq] at h
 | n+1,[],ys,vs,h,hv=>by
  simp only [bq,Vw] at h
  subst h
  cases vs with
  | nil=>trivial
  | cons v vs=>exact hv.elim
 | n+1,x::xs,ys,vs,h,hv=>by
  simp only [bq,Vt,Vv] at h
  obtain⟨y,hy,zs,hz,rfl⟩:=h
  cases vs with
  | nil=>exact hv.elim
  | cons v vs=>exact⟨pH hw k9 hrel hid n x y v hy hv.1,iw hw k9 hrel hid n xs zs vs hz hv.2⟩
theorem jP (hw:d.w=c.w)(k9:∀b,RO c L b→RO d L' b)(hrel:HRel c L)(hid:∀id,Live c.h id→RO d L' (c.β id).1):∀(n:Nat) (xs ys:List AV) (b o:Nat),bq c.h n xs=some ys→Cells c L xs b o→Cells d L' ys b o
 | 0,xs,ys,b,o,h,_=>by simp [bq] at h
 | n+1,[],ys,b,o,h,hv=>by
  simp only [bq,Vw] at h
  subst h
  trivial
 | n+1,x::xs,ys,b,o,h,hv=>by
  simp only [bq,Vt,Vv] at h
  obtain⟨y,hy,zs,hz,rfl⟩:=h
  obtain⟨⟨v,h1,h2,h3⟩,h4⟩:=hv
  exact⟨⟨v,by rw [hw]; exact h1,h2,pH hw k9 hrel hid n x y v hy h3⟩,jP hw k9 hrel hid n xs zs b (o+1) hz h4⟩
end
mutual
theorem nU (hw:d.w=c.w)(hrel:HRel c L)(hid:∀id,Live c.h id→RO d L' (c.β id).1):∀(n:Nat) (x y:AV) (v:Value),fS c.h n x=some y→VR c L x v→VR d L' y v
 | 0,x,y,v,h,_=>by simp [fS] at h
 | n+1,x,y,v,h,hv=>by
  unfold fS at h
  split at h
  ·cases h; exact hv
  ·cases h; exact hv
  ·cases h; exact hv
  ·cases h; exact hv
  ·cases h; exact hv
  ·cases h; exact hv
  ·cases h
   simp only [VR] at hv ⊢
   exact⟨none,0,hv,Vy _,by simp,.inr ⟨trivial,rfl⟩,.inl trivial⟩
  ·cases h
   simp only [VR] at hv ⊢
   obtain⟨a,cap,rfl,h1,h2,hs,_⟩:=hv
   exact⟨a,cap,rfl,h1,by simp,hs,.inl trivial⟩
  ·rename_i id off len iq
   split at h
   ·rename_i jY
    split at h
    rotate_left
    ·cases h
    rename_i hl0
    cases h
    simp only [VR] at hv ⊢
    rcases hv with⟨_,_,_,a,rfl⟩| hv
    ·exact⟨a,0,rfl,Vy _,by simp,.inr ⟨trivial,rfl⟩,.inl trivial⟩
    ·exact absurd jY hv.1
   rename_i jY
   rw [Vt] at h
   obtain⟨ob,ho,h⟩:=h
   cases ob with
   | map es=>cases h
   | row t cs=>cases h
   | cells cs=>
    simp only at h
    split at h
    rotate_left
    ·cases h
    rename_i hle
    simp only [Vv] at h
    obtain⟨eY,hcs,rfl⟩:=h
    have hl:Live c.h id:=⟨hrel.lt _ _ ho,by simp [ho]⟩
    obtain⟨m,_,_,hc⟩:=hrel.obj _ _ ho
    simp only [VR] at hv ⊢
    rcases hv with hv | ⟨_,_,a,cap,rfl,h1,h2,h3⟩
    ·exact absurd hv.1 jY
    refine⟨a,cap,rfl,h1,by simp,.inl h2,?_⟩
    rcases h3 hl with⟨h4,_⟩| h4
    ·exact .inr ⟨_,_,h4,hid id hl,by simp,lO hw hrel hid n _ eY _ _ hcs ((hc.drop off).take (len*iq))⟩
    ·left
     have hz:len=0:=by omega
     subst hz
     rw [Nat.zero_mul,List.take_zero] at hcs
     cases n with
     | zero=>simp [de] at hcs
     | succ n=>simp only [de,Vw] at hcs; exact hcs.symm
  ·rename_i cs
   simp only [Vv] at h
   obtain⟨eY,hcs,rfl⟩:=h
   simp only [VR] at hv ⊢
   obtain⟨vs,rfl,h1⟩:=hv
   exact⟨vs,rfl,my hw hrel hid n cs eY vs.toList hcs h1⟩
  ·rename_i cs
   simp only [Vv] at h
   obtain⟨eY,hcs,rfl⟩:=h
   simp only [VR] at hv ⊢
   obtain⟨vs,rfl,h1⟩:=hv
   exact⟨vs,rfl,my hw hrel hid n cs eY vs.toList hcs h1⟩
  ·cases h
theorem my (hw:d.w=c.w)(hrel:HRel c L)(hid:∀id,Live c.h id→RO d L' (c.β id).1):∀(n:Nat) (xs ys:List AV) (vs:List Value),de c.h n xs=some ys→VRs c L xs vs→VRs d L' ys vs
 | 0,xs,ys,vs,h,_=>by simp [de] at h
 | n+1,[],ys,vs,h,hv=>by
  simp only [de,Vw] at h
  subst h
  cases vs with
  | nil=>trivial
  | cons v vs=>exact hv.elim
 | n+1,x::xs,ys,vs,h,hv=>by
  simp only [de,Vt,Vv] at h
  obtain⟨y,hy,zs,hz,rfl⟩:=h
  cases vs with
  | nil=>exact hv.elim
  | cons v vs=>exact⟨nU hw hrel hid n x y v hy hv.1,my hw hrel hid n xs zs vs hz hv.2⟩
theorem lO (hw:d.w=c.w)(hrel:HRel c L)(hid:∀id,Live c.h id→RO d L' (c.β id).1):∀(n:Nat) (xs ys:List AV) (b o:Nat),de c.h n xs=some ys→Cells c L xs b o→Cells d L' ys b o
 | 0,xs,ys,b,o,h,_=>by simp [de] at h
 | n+1,[],ys,b,o,h,hv=>by
  simp only [de,Vw] at h
  subst h
  trivial
 | n+1,x::xs,ys,b,o,h,hv=>by
  simp only [de,Vt,Vv] at h
  obtain⟨y,hy,zs,hz,rfl⟩:=h
  obtain⟨⟨v,h1,h2,h3⟩,h4⟩:=hv
  exact⟨⟨v,by rw [hw]; exact h1,h2,nU hw hrel hid n x y v hy h3⟩,lO hw hrel hid n xs zs b (o+1) hz h4⟩
end
end
section
variable {P:Program}
theorem GH {cf:CallF}(hcf:CallOK P cf)(deep:Nat):CallOK P fun f args h=>if cH args then (cf f (dn args) bu).bind fun x=>(cb x.2 deep x.1).map fun r=>(r,h) else cf f args h:=by
 intro f args h r h' hc
 dsimp only at hc
 split at hc
 rotate_left
 ·exact hcf f args h r h' hc
 rename_i qh
 rw [Vt] at hc
 obtain⟨⟨x,h1⟩,hx,hc⟩:=hc
 rw [Vv] at hc
 obtain⟨r',hr,he⟩:=hc
 simp only [VC] at he
 obtain⟨rfl,rfl⟩:=he
 obtain⟨hin,hcall⟩:=hcf f (dn args) bu x h1 hx
 refine⟨hin,fun L0 c vs hh hb0 hrel hargs=>?_⟩
 let L1:Nat→Prop:=fun b=>L0 b∨∃id,Live c.h id∧(c.β id).1=b
 let c0:Cx:=⟨fun _=>(0,0),bu,c.w,c.w.heap.size⟩
 have hnl:∀id,¬Live c0.h id:=fun id hl=>by have:=hl.2; cases this
 have DS:∀b,RO c L0 b→RO c0 L1 b:=fun b hb=>⟨fun id hl=>absurd hl (hnl id),fun h=>by
  rcases h with h | ⟨id,h1,h2⟩
  ·exact hb.2 h
  ·exact hb.1 id h1 h2⟩
 have se:HRel c0 L1:=⟨fun id o ho=>(by cases ho),fun id o ho=>(by cases ho),fun id _ hl _ _=>absurd hl (hnl id),fun id hl=>absurd hl (hnl id),fun b hb=>by
  rcases hb with h | ⟨id,h1,h2⟩
  ·exact hrel.bd b h
  ·rw [←h2]; exact hrel.block h1,fun id hl=>absurd hl (hnl id),fun _=>WY⟩
 refine (hcall L1 c0 vs rfl (Vy _) se (oK (c:=c) (d:=c0) rfl DS _ _ qh hargs)).mono ?_
 rintro e w' ⟨c1,v,rfl,rfl,Kr,hv,hrel1,e1⟩
 let d:Cx:=⟨c.β,c.h,c1.w,c.base⟩
 have hk:∀b,b<c.w.heap.size→c1.w.heap[b]? = c.w.heap[b]?:=fun b hb=>e1.exact b hb
 have ed:Ext c none0 d none0:=⟨Vy _,fun id _ hl=>⟨hl,rfl,gY.len (c:=c) (c':=d) (.inl (hk _ (hrel.block hl)))⟩,e1.size,fun b hb _ _=>.inl (hk b hb),fun b hb=>hk b (VW hb hb0),rfl,fun id hl=>.inr ⟨id,hl,rfl⟩,fun _ h=>h,fun _ h=>.inl h,e1.os,e1.tape,e1.output⟩
 have hb1:d.base≤c1.base:=by rw [e1.base]; exact hb0
 have NW:∀b,RO c1 L1 b→RO d L0 b:=fun b hb=>⟨fun id hl he=>hb.2 (.inr ⟨id,hl,he⟩),fun h=>hb.2 (.inl h)⟩
 refine⟨d,v,rfl,rfl,hh,?_,⟨hrel.lt,fun id o ho=>?_,hrel.inj,hrel.out,fun b hb=>VW (hrel.bd b hb) e1.size,hrel.low,hrel.ver⟩,ed⟩
 ·refine pH (c:=c1) (d:=d) (L:=L1) rfl NW hrel1 (fun id hl=>⟨fun kj nz he=>hrel1.out id hl (.inr ⟨kj,nz,he⟩),fun h=>hrel1.out id hl (.inl h)⟩) deep x r' v ?_ hv
  rw [Kr]; exact hr
 ·have hl:Live c.h id:=⟨hrel.lt _ _ ho,by rw [ho]; rfl⟩
  have:=(hrel.obj id o ho)
  have h2:=ow.ext (L0:=L0) ed (b:=(c.β id).1) (base:=(c.β id).2) (o:=o) (by rw [hJ]; exact this) (hk _ (hrel.block hl))
  rw [hJ] at h2
  exact h2
theorem oL {c:Cx}{L:Nat→Prop}:∀{xs:List AV} {vs:List Value},VRs c L xs vs→VRs c L (xs.map aK) vs
 | [],[],_=>trivial
 | x::_,_::_,h=>⟨by
   unfold aK
   cases hn:x.dS with
   | false=>exact h.1
   | true=>exact vn rfl (fun _ h=>h) x _ hn h.1,oL h.2⟩
 | [],_::_,h=>h.elim
 | _::_,[],h=>h.elim
theorem w9 {cf:CallF}(hcf:CallOK P cf):CallOK P fun f args h=>cf f (args.map aK) h:=by
 intro f args h r h' hc
 obtain⟨h1,h2⟩:=hcf f _ h r h' hc
 exact⟨h1,fun L0 c vs hh hb0 hrel hargs=>h2 L0 c vs hh hb0 hrel (oL hargs)⟩
theorem GI {cf:CallF}(hcf:CallOK P cf)(deep:Nat):CallOK P fun f args h=>(bq h deep args).bind fun as=>(cf f as bu).bind fun x=>(fS x.2 deep x.1).map fun r=>(r,h):=by
 intro f args h r h' hc
 dsimp only at hc
 simp only [Vt,Vv,VC] at hc
 obtain⟨as,has,⟨x,h1⟩,hx,r',hr,rfl,rfl⟩:=hc
 obtain⟨hin,hcall⟩:=hcf f as bu x h1 hx
 refine⟨hin,fun L0 c vs hh hb0 hrel hargs=>?_⟩
 let c0:Cx:=⟨fun _=>(0,0),bu,c.w,c.w.heap.size⟩
 have hnl:∀id,¬Live c0.h id:=fun id hl=>by have:=hl.2; cases this
 have DS:∀b,RO c L0 b→RO c0 L0 b:=fun b hb=>⟨fun id hl=>absurd hl (hnl id),hb.2⟩
 have se:HRel c0 L0:=⟨fun id o ho=>(by cases ho),fun id o ho=>(by cases ho),fun id _ hl _ _=>absurd hl (hnl id),fun id hl=>absurd hl (hnl id),hrel.bd,fun id hl=>absurd hl (hnl id),fun _=>WY⟩
 have sf:VRs c0 L0 as vs:=iw (c:=c) (d:=c0) rfl DS hrel (fun id hl=>⟨fun kj nz=>absurd nz (hnl kj),hrel.out id hl⟩) deep args as vs (by rw [hh]; exact has) hargs
 refine (hcall L0 c0 vs rfl (Vy _) se sf).mono ?_
 rintro e w' ⟨c1,v,rfl,rfl,Kr,hv,hrel1,e1⟩
 let d:Cx:=⟨c.β,c.h,c1.w,c.base⟩
 have hk:∀b,b<c.w.heap.size→c1.w.heap[b]? = c.w.heap[b]?:=fun b hb=>e1.exact b hb
 have ed:Ext c none0 d none0:=⟨Vy _,fun id _ hl=>⟨hl,rfl,gY.len (c:=c) (c':=d) (.inl (hk _ (hrel.block hl)))⟩,e1.size,fun b hb _ _=>.inl (hk b hb),fun b hb=>hk b (VW hb hb0),rfl,fun id hl=>.inr ⟨id,hl,rfl⟩,fun _ h=>h,fun _ h=>.inl h,e1.os,e1.tape,e1.output⟩
 refine⟨d,v,rfl,rfl,hh,?_,⟨hrel.lt,fun id o ho=>?_,hrel.inj,hrel.out,fun b hb=>VW (hrel.bd b hb) e1.size,hrel.low,hrel.ver⟩,ed⟩
 ·refine nU (c:=c1) (d:=d) (L:=L0) rfl hrel1 (fun id hl=>⟨fun kj nz he=>?_,hrel1.out id hl⟩) deep x r' v ?_ hv
  ·rcases e1.Gq id hl with h2 | ⟨pt,h2,_⟩
   ·have:=hrel.block nz
    have h3:(c.β kj).1=(c1.β id).1:=he
    have h4:c.w.heap.size≤(c1.β id).1:=h2
    omega
   ·exact absurd h2 (hnl pt)
  ·rw [Kr]; exact hr
 ·have hl:Live c.h id:=⟨hrel.lt _ _ ho,by rw [ho]; rfl⟩
  have:=(hrel.obj id o ho)
  have h2:=ow.ext (L0:=L0) ed (b:=(c.β id).1) (base:=(c.β id).2) (o:=o) (by rw [hJ]; exact this) (hk _ (hrel.block hl))
  rw [hJ] at h2
  exact h2
section
variable {c1 d:Cx}{L1:Nat→Prop}{k:Nat}
mutual
theorem sg (hw:d.w=c1.w)(hn:∀id,id<c1.h.next→id+k<d.h.next)(hl:∀id,Live d.h (id+k)→Live c1.h id∧d.β (id+k)=c1.β id):∀(x y:AV) (v:Value),cR k x=some y→VR c1 L1 x v→VR d L1 y v
 | .any,_,_,h,_=>by simp [cR] at h
 | .bool _,_,_,h,hv=>by simp only [cR,Vw] at h; subst h; exact hv
 | .int _ _,_,_,h,hv=>by simp only [cR,Vw] at h; subst h; exact hv
 | .str _,_,_,h,hv=>by simp only [cR,Vw] at h; subst h; exact hv
 | .nK,_,_,h,hv=>by simp only [cR,Vw] at h; subst h; exact hv
 | .lT,_,_,h,hv=>by simp only [cR,Vw] at h; subst h; exact hv
 | .oo,_,_,h,hv=>by simp only [cR,Vw] at h; subst h; exact hv
 | .nils,_,_,h,hv=>by simp only [cR,Vw] at h; subst h; exact hv
 | .ptr id off,_,_,h,hv=>by
  simp only [cR,Vw] at h
  subst h
  simp only [VR] at hv ⊢
  obtain⟨h1,a,rfl,h2⟩:=hv
  refine⟨hn _ h1,a,rfl,fun k8=>?_⟩
  obtain⟨g1,g2⟩:=hl _ k8
  rw [g2]; exact h2 g1
 | .lp _ _,_,_,h,_=>by simp [cR] at h
 | .fp _ _,_,_,h,_=>by simp [cR] at h
 | .fz _ _ _,_,_,h,_=>by simp [cR] at h
 | .rs id off len z,y,v,h,hv=>by
  simp only [cR] at h
  split at h
  ·rename_i h0
   cases h
   subst h0
   simp only [VR] at hv ⊢
   rcases hv with⟨_,h2,h3,h4⟩| h1
   ·exact .inl ⟨trivial,h2,h3,h4⟩
   ·exact absurd rfl h1.1
  ·rename_i h0
   cases h
   simp only [VR] at hv ⊢
   rcases hv with h1 | ⟨_,h1,a,cap,rfl,h2,h3,h4⟩
   ·exact absurd h1.1 h0
   refine .inr ⟨by omega,hn _ h1,a,cap,rfl,h2,h3,fun k8=>?_⟩
   obtain⟨g1,g2⟩:=hl _ k8
   have:=h4 g1
   rw [g2]
   unfold Cx.len at this ⊢
   rw [hw]; exact this
 | .mp _,_,_,h,_=>by simp [cR] at h
 | .fn _ _,_,_,h,_=>by simp [cR] at h
 | .agg cs,_,v,h,hv=>by
  simp only [cR,Vv] at h
  obtain⟨ys,h1,rfl⟩:=h
  simp only [VR] at hv ⊢
  obtain⟨vs,rfl,h2⟩:=hv
  exact⟨vs,rfl,pI hw hn hl cs ys vs.toList h1 h2⟩
 | .tup cs,_,v,h,hv=>by
  simp only [cR,Vv] at h
  obtain⟨ys,h1,rfl⟩:=h
  simp only [VR] at hv ⊢
  obtain⟨vs,rfl,h2⟩:=hv
  exact⟨vs,rfl,pI hw hn hl cs ys vs.toList h1 h2⟩
theorem pI (hw:d.w=c1.w)(hn:∀id,id<c1.h.next→id+k<d.h.next)(hl:∀id,Live d.h (id+k)→Live c1.h id∧d.β (id+k)=c1.β id):∀(xs ys:List AV) (vs:List Value),cj k xs=some ys→VRs c1 L1 xs vs→VRs d L1 ys vs
 | [],ys,[],h,_=>by simp only [cj,Vw] at h; subst h; trivial
 | x::xs,ys,v::vs,h,hv=>by
  simp only [cj,Vt,Vv] at h
  obtain⟨y,h1,SZ,h2,rfl⟩:=h
  exact⟨sg hw hn hl x y v h1 hv.1,pI hw hn hl xs SZ vs h2 hv.2⟩
 | [],_,_::_,_,h=>h.elim
 | _::_,_,[],_,h=>h.elim
end
theorem qA (hw:d.w=c1.w)(hn:∀id,id<c1.h.next→id+k<d.h.next)(hl:∀id,Live d.h (id+k)→Live c1.h id∧d.β (id+k)=c1.β id):∀(xs:List AV) (b o:Nat),Cells c1 L1 xs b o→Cells d L1 (fC k xs) b o
 | [],_,_,_=>trivial
 | x::xs,b,o,h=>by
  obtain⟨⟨v,h1,h2,h3⟩,h4⟩:=h
  unfold fC
  cases hx:cR k x with
  | none=>trivial
  | some y=>exact⟨⟨v,by rw [hw]; exact h1,h2,sg hw hn hl x y v hx h3⟩,qA hw hn hl xs b (o+1) h4⟩
end
theorem sh (k:Nat):∀xs:List AV,(fC k xs).length≤xs.length
 | []=>Vy _
 | x::xs=>by
  unfold fC
  cases cR k x with
  | none=>exact Wk _
  | some y=>exact Nat.succ_le_succ (sh k xs)
theorem jj {h h1:AHeap}{i:Nat}(hi:i<h.next):(h.eG h1).get i=h.get i∧(h.eG h1).ver i=h.ver i:=by
 have:Nat.blt i h.next=true:=by rw [Nat.blt_eq]; exact hi
 simp only [AHeap.eG,this,cond_true,and_self]
theorem jQ {h h1:AHeap}{i:Nat}(hi:h.next≤i):(h.eG h1).get i=(h1.get (i - h.next)).bind (yM h.next)∧(h.eG h1).ver i=h.next+h1.ver (i - h.next):=by
 have:Nat.blt i h.next=false:=by
  cases hb:Nat.blt i h.next with
  | false=>rfl
  | true=>rw [Nat.blt_eq] at hb; omega
 simp only [AHeap.eG,this,cond_false,and_self]
theorem Steady.eG {h h1:AHeap}(hw:∀id,h1.ver id<h1.next):Steady h (h.eG h1):=by
 refine⟨Nat.le_add_right _ _,fun i=>?_,fun hv i=>?_⟩
 ·by_cases hi:i<h.next
  ·exact .inl ⟨(jj hi).2,(jj hi).1⟩
  ·right; rw [(jQ (V1 hi)).2]; exact Nat.le_add_right _ _
 ·show _<h.next+h1.next
  by_cases hi:i<h.next
  ·rw [(jj hi).2]; have:=hv i; omega
  ·rw [(jQ (V1 hi)).2]; have:=hw (i - h.next); omega
theorem DT {cf:CallF}(hcf:CallOK P cf)(deep:Nat):CallOK P fun f args h=>(bq h deep args).bind fun us=>(cf f us bu).bind fun x=>(cR h.next x.1).map fun r=>(r,h.eG x.2):=by
 intro f args h r h' hc
 dsimp only at hc
 simp only [Vt,Vv,VC] at hc
 obtain⟨us,has,⟨x,h1⟩,hx,r',hr,rfl,rfl⟩:=hc
 obtain⟨hin,hcall⟩:=hcf f us bu x h1 hx
 refine⟨hin,fun L0 c vs hh hb0 hrel hargs=>?_⟩
 let c0:Cx:=⟨fun _=>(0,0),bu,c.w,c.w.heap.size⟩
 have hnl:∀id,¬Live c0.h id:=fun id hl=>by have:=hl.2; cases this
 have DS:∀b,RO c L0 b→RO c0 L0 b:=fun b hb=>⟨fun id hl=>absurd hl (hnl id),hb.2⟩
 have se:HRel c0 L0:=⟨fun id o ho=>(by cases ho),fun id o ho=>(by cases ho),fun id _ hl _ _=>absurd hl (hnl id),fun id hl=>absurd hl (hnl id),hrel.bd,fun id hl=>absurd hl (hnl id),fun _=>WY⟩
 have sf:VRs c0 L0 us vs:=iw (c:=c) (d:=c0) rfl DS hrel (fun id hl=>⟨fun kj nz=>absurd nz (hnl kj),hrel.out id hl⟩) deep args us vs (by rw [hh]; exact has) hargs
 refine (hcall L0 c0 vs rfl (Vy _) se sf).mono ?_
 rintro e w' ⟨c1,v,rfl,rfl,Kr,hv,hrel1,e1⟩
 let d:Cx:=⟨fun i=>if i<c.h.next then c.β i else c1.β (i - c.h.next),c.h.eG c1.h,c1.w,c.base⟩
 have hk:∀b,b<c.w.heap.size→c1.w.heap[b]? = c.w.heap[b]?:=fun b hb=>e1.exact b hb
 have qe:∀i,i<c.h.next→Live d.h i→Live c.h i:=fun i hi hl=>⟨hi,by have:=hl.2; rw [show d.h.get i=_ from (jj hi).1] at this; exact this⟩
 have H3:∀i,c.h.next≤i→Live d.h i→Live c1.h (i - c.h.next):=fun i hi hl=>by
  have h2:=hl.2
  rw [show d.h.get i=_ from (jQ hi).1] at h2
  cases hg:c1.h.get (i - c.h.next) with
  | none=>rw [hg] at h2; cases h2
  | some o=>exact⟨hrel1.lt _ _ hg,by rw [hg]; rfl⟩
 have GJ:∀i,i<c.h.next→d.β i=c.β i:=fun i hi=>if_pos hi
 have DU:∀i,c.h.next≤i→d.β i=c1.β (i - c.h.next):=fun i hi=>if_neg (by omega)
 have GK:∀i,Live c1.h i→c.w.heap.size≤(c1.β i).1:=fun i hl=>by
  rcases e1.Gq i hl with h2 | ⟨pt,h2,_⟩
  ·exact h2
  ·exact absurd h2 (hnl pt)
 have ed:Ext c none0 d none0:=⟨Nat.le_add_right _ _,fun id hi hl=>⟨qe id hi hl,GJ id hi,gY.len (c:=c) (c':=d) (.inl (hk _ (hrel.block (qe id hi hl))))⟩,e1.size,fun b hb _ _=>.inl (hk b hb),fun b hb=>hk b (VW hb hb0),rfl,fun id hl=>by
  by_cases hi:id<c.h.next
  ·exact .inr ⟨id,qe id hi hl,by rw [GJ id hi]⟩
  ·rw [DU id (V1 hi)]
   exact .inl (GK _ (H3 id (V1 hi) hl)),fun _ h=>h,fun _ h=>.inl h,e1.os,e1.tape,e1.output⟩
 have gn:∀id,id<c1.h.next→id+c.h.next<d.h.next:=fun id hi=>by show _<c.h.next+c1.h.next; omega
 have gl:∀id,Live d.h (id+c.h.next)→Live c1.h id∧d.β (id+c.h.next)=c1.β id:=fun id hl=>by
  have a:=H3 (id+c.h.next) (Nat.le_add_left _ _) hl
  have b:=DU (id+c.h.next) (Nat.le_add_left _ _)
  rw [Nat.add_sub_cancel] at a b
  exact⟨a,b⟩
 refine⟨d,v,rfl,rfl,?_,?_,⟨fun id o ho=>?_,fun id o ho=>?_,fun id kj hl nz he=>?_,fun id hl=>?_,fun b hb=>VW (hrel.bd b hb) e1.size,fun id hl=>?_,fun id=>?_⟩,ed⟩
 ·show c.h.eG c1.h=h.eG h1
  rw [hh,Kr]
 ·refine sg (c1:=c1) (d:=d) (k:=c.h.next) rfl gn gl x r' v ?_ hv
  rw [hh]; exact hr
 ·show id<c.h.next+c1.h.next
  by_cases hi:id<c.h.next
  ·omega
  ·rw [show d.h.get id=_ from (jQ (V1 hi)).1,Vt] at ho
   obtain⟨o1,HU,_⟩:=ho
   have:=hrel1.lt _ _ HU
   omega
 ·by_cases hi:id<c.h.next
  ·rw [show d.h.get id=_ from (jj hi).1] at ho
   have hl:Live c.h id:=⟨hi,by rw [ho]; rfl⟩
   have:=(hrel.obj id o ho)
   have h2:=ow.ext (L0:=L0) ed (b:=(c.β id).1) (base:=(c.β id).2) (o:=o) (by rw [hJ]; exact this) (hk _ (hrel.block hl))
   rw [hJ] at h2
   rw [GJ id hi]
   exact h2
  ·rw [show d.h.get id=_ from (jQ (V1 hi)).1,Vt] at ho
   obtain⟨o1,HU,ho⟩:=ho
   rw [DU id (V1 hi)]
   cases o1 with
   | map es=>cases ho
   | row t cs=>cases ho
   | cells cs=>
    simp only [yM,Vw] at ho
    subst ho
    obtain⟨n,g1,g2,g3⟩:=hrel1.obj _ _ HU
    exact⟨n,g1,Wj (Nat.add_le_add_left (sh _ _) _) g2,qA (c1:=c1) (d:=d) rfl gn gl cs _ _ g3⟩
 ·by_cases hi:id<c.h.next<;>by_cases jI:kj<c.h.next
  ·rw [GJ id hi,GJ kj jI] at he
   exact hrel.inj id kj (qe id hi hl) (qe kj jI nz) he
  ·rw [GJ id hi,DU kj (V1 jI)] at he
   have a:=hrel.block (qe id hi hl)
   have b:=GK _ (H3 kj (V1 jI) nz)
   omega
  ·rw [DU id (V1 hi),GJ kj jI] at he
   have a:=hrel.block (qe kj jI nz)
   have b:=GK _ (H3 id (V1 hi) hl)
   omega
  ·rw [DU id (V1 hi),DU kj (V1 jI)] at he
   have:=hrel1.inj _ _ (H3 id (V1 hi) hl) (H3 kj (V1 jI) nz) he
   omega
 ·by_cases hi:id<c.h.next
  ·rw [GJ id hi]; exact hrel.out id (qe id hi hl)
  ·rw [DU id (V1 hi)]; exact hrel1.out _ (H3 id (V1 hi) hl)
 ·show c.base≤_
  by_cases hi:id<c.h.next
  ·rw [GJ id hi]; exact hrel.low id (qe id hi hl)
  ·rw [DU id (V1 hi)]; exact Wj hb0 (GK _ (H3 id (V1 hi) hl))
 ·show _<c.h.next+c1.h.next
  by_cases hi:id<c.h.next
  ·rw [show d.h.ver id=_ from (jj hi).2]; have:=hrel.ver id; omega
  ·rw [show d.h.ver id=_ from (jQ (V1 hi)).2]; have:=hrel1.ver (id - c.h.next); omega
theorem lq {T:ny}(qB:IntrOK P T.intr)(m:Nat):∀k,SteadyF (eH P T m k)
 | 0=>fun f args h r h' hc=>by simp [eH] at hc
 | k+1=>fun f args h r h' hc=>by
  have hb:=ve (P:=P) (aV:=T.aV) (m:=m) (lq qB m k)
  simp only [eH] at hc
  split at hc
  ·rename_i g hg
   exact (qB f g hg).2 _ _ _ _ hc
  ·split at hc
   ·split at hc
    ·simp only [Vt] at hc
     obtain⟨us,_,x,hx,hc⟩:=hc
     obtain⟨r',_,h2⟩:=Option.map_some' hc
     cases h2
     exact Steady.eG ((hb _ _ _ _ _ hx).wf fun _=>WY)
    split at hc
    ·rw [Vt] at hc
     obtain⟨x,_,hc⟩:=hc
     obtain⟨r',_,h2⟩:=Option.map_some' hc
     cases h2
     exact Steady.refl _
    ·split at hc
     ·rw [Vt] at hc
      obtain⟨x,_,hc⟩:=hc
      obtain⟨r',_,h2⟩:=Option.map_some' hc
      cases h2
      exact Steady.refl _
     ·exact hb _ _ _ _ _ hc
   ·exact hb _ _ _ _ _ hc
theorem oM (hP:Fit P){T:ny}(qB:IntrOK P T.intr)(m:Nat):∀k,CallOK P (eH P T m k)
 | 0=>fun f args h r h' hc=>by simp [eH] at hc
 | k+1=>fun f args h r h' hc=>by
  have ih:=oM hP qB m k
  have hb:=wW hP (aV:=T.aV) ih (w7 hP.mixed ih (lq qB m k)) m
  simp only [eH] at hc
  split at hc
  ·rename_i g hg
   exact (qB f g hg).1 f args h r h' (by simpa using hc)
  ·split at hc
   ·rename_i deep _
    split at hc
    ·exact DT hb deep f args h r h' hc
    by_cases qh:cH args=true
    ·exact GH hb deep f args h r h' (by dsimp only; rw [if_pos qh] at hc ⊢; exact hc)
    ·rw [if_neg qh] at hc
     split at hc
     ·rename_i as has
      refine GI hb deep f args h r h' ?_
      dsimp only
      rw [has]
      exact hc
     ·exact w9 hb f args h r h' hc
   ·exact w9 hb f args h r h' hc
def Lr (P : Program) : Bool := P.funcs.toList.all fun fn => fn.name != "runtime.NumGoroutine" && match fn.body with | some c => kb fn.ntmps c | none => true
theorem IW (h1:P.follows .mixedOrders=true)(h2:Lr P=true):Fit P:=by
 refine⟨h1,fun f fn c hf hb=>?_⟩
 unfold Lr at h2
 rw [VO] at h2
 have:=h2 fn (Wq.2 (Array.mem_of_getElem? hf))
 rw [hb] at this
 simp only [Vx,bne_iff_ne,ne_eq] at this
 exact⟨this.2,this.1⟩
theorem nc:IntrOK P fun _=>none:=fun f g h=>by cases h
end
end Go.R
