/- Part of the proof: RLocal, RSteady, RDraw, RPure. -/
import Derived.Test.YtifafejidnjckaaK2
import Derived.StillTail
set_option linter.unusedVariables false
set_option linter.unusedSimpArgs false
set_option maxRecDepth 100000
open Array renaming getElem?_eq_some_iff → U1, mem_toList_iff → Vn
open Bool renaming and_eq_true → Ux, false_eq_true → UE, or_eq_true → Ve, not_true → Vu, not_eq_true' → VC
open List renaming getElem?_append_left → UJ, all_eq_true → UN, mem_append → UZ, getElem?_eq_none → U3, mem_map → U8, getElem?_cons_zero → Vc, map_congr_left → VK, range → VX, mem_range → VY
open Nat renaming le_refl → Uy, zero_add → UR, lt_of_lt_of_le → US, le_of_not_lt → UY, le_trans → Vj, zero_le → Vl, add_assoc → Vq, eq_of_beq_eq_true → Vx, min_eq_left → VQ, zero_lt_one → VS, add_comm → VZ
open Option renaming bind_eq_some_iff → Ut, bind_some → Uu, map_eq_some_iff → Uv, map_some → Uz, getD_some → Vp
open Option.some renaming injEq → Uw, inj → Vf
open Prod.mk renaming injEq → UB
namespace Go.R
open Go
def RS.shift (s2:RS)(f:kl)(d:Option Nat)(s':RS):RS:=
 {ρ:=match d with | none=>s2.ρ | some d=>fun t=>if t=d then s'.ρ d else s2.ρ t
  bx:=match f.wb with | none=>s2.bx | some k=>fun t=>if t=k then s'.bx k else s2.bx t
  h:=if f.wh then s'.h else s2.h}
theorem RS.ext' {s t:RS}(h1:∀i,s.ρ i=t.ρ i)(h2:∀i,s.bx i=t.bx i)(h3:s.h=t.h):s=t:=by
 cases s; cases t
 congr
 ·exact funext h1
 ·exact funext h2
theorem ig (s s2:RS)(f:kl)(d:Option Nat)(z:AV)(hw:f.wb=none)(hh:f.wh=false):s2.set d z=s2.shift f d (s.set d z):=by
 refine RS.ext' (fun i=>?_) (fun i=>?_) ?_
 ·cases d with
  | none=>rfl
  | some d=>simp only [ti,RS.shift,if_true]
 ·simp only [RS.shift,hw]; cases d<;>rfl
 ·simp only [RS.shift,hh]; cases d<;>rfl
theorem iX (s:RS)(d:Option Nat)(z:AV):(s.set d z).h=s.h:=by cases d<;>rfl
theorem HY (s:RS)(d:Option Nat)(z:AV):(s.set d z).bx=s.bx:=by cases d<;>rfl
theorem C9 (s:RS)(k i:Nat)(cs:List AV):(s.box k cs).bx i=if i=k then some cs else s.bx i:=by
 simp only [RS.box,beq_nat]
 by_cases h:i=k<;>simp [h]
theorem gz (s s2:RS)(f:kl)(d:Option Nat)(z:AV)(h':AHeap)(hw:f.wb=none)(hh:f.wh=true):({s2 with h:=h'}:RS).set d z=s2.shift f d (({s with h:=h'}:RS).set d z):=by
 refine RS.ext' (fun i=>?_) (fun i=>?_) ?_
 ·cases d with
  | none=>rfl
  | some d=>simp only [ti,RS.shift,if_true]
 ·simp only [RS.shift,hw]; cases d<;>rfl
 ·simp only [RS.shift,hh]; cases d<;>rfl
theorem BA (s s2:RS)(f:kl)(k:Nat)(cs:List AV)(hw:f.wb=some k)(hh:f.wh=false):s2.box k cs=s2.shift f none (s.box k cs):=by
 refine RS.ext' (fun i=>rfl) (fun i=>?_) ?_
 ·simp only [C9,RS.shift,hw,if_true]
 ·simp only [RS.shift,hh]; rfl
section
variable {P:Program}{cf:CallF}{aE ds:List Nat}{o:Oper}{s s' s2:RS}
theorem nY {cs:List AV}{f:kl}(h:hY s aE ds o cs=some s')(hf:f=(match o.dst with
  | some d=>if aE.contains d then {wb:=some d,al:=true} else {wh:=true}
  | none=>{})) (hh:f.wh=true→s2.h=s.h) (nK:f.al=true→∀d,o.dst=some d→q9 d s2.ρ (ds.filter fun t=>!Nat.beq t d)=true) :
  hY s2 aE ds o cs=some (s2.shift f o.dst s'):=by
 unfold hY at h ⊢
 split at h
 rotate_left
 ·cases h
 rename_i nJ
 rw [if_pos nJ]
 cases hd:o.dst with
 | none=>rw [hd] at h; cases h
 | some d=>
  rw [hd] at h hf
  simp only at h hf ⊢
  by_cases hl:aE.contains d=true
  ·rw [if_pos hl] at h hf ⊢
   subst hf
   split at h
   rotate_left
   ·cases h
   cases h
   rw [if_pos (nK rfl d hd)]
   congr 1
   refine RS.ext' (fun i=>?_) (fun i=>?_) ?_
   ·simp only [ti,RS.shift,if_true]; rfl
   ·simp only [HY,C9,RS.shift,if_true]
   ·simp only [iX,RS.shift]; rfl
  ·rw [if_neg hl] at h hf ⊢
   subst hf
   cases h
   rw [hh rfl]
   congr 1
   exact gz s s2 {wh:=true} (some d) _ _ rfl rfl
theorem tB {e:Operand→AV}(h:yd P cf aE ds e s o=some s')(hb:∀k∈(bc aE e o).rb,s2.bx k=s.bx k)(hr:∀id∈(bc aE e o).rh,s2.h.get id=s.h.get id)
  (hh:(bc aE e o).wh=true→s2.h=s.h) (nK:(bc aE e o).al=true→∀d,o.dst=some d→q9 d s2.ρ (ds.filter fun t=>!Nat.beq t d)=true) :
  yd P cf aE ds e s2 o=some (s2.shift (bc aE e o) o.dst s'):=by
 have dK:∀{x x2:Option AV} (f:kl),(x.map fun x=>s.set o.dst x)=some s'→(x2=x)→f.wb=none→f.wh=false→(x2.map fun x=>s2.set o.dst x)=some (s2.shift f o.dst s'):=by
  intro x x2 f hx h2 h3 h4
  obtain⟨z,rfl,rfl⟩:=Option.map_some' hx
  subst h2
  simp only [Uz]
  rw [←ig s s2 f o.dst z h3 h4]
 have wo:∀{α:Type} {x x2:Option α} (f:kl) (g:α→AV) (k:α→AHeap),(x.map fun y=>({s with h:=k y}:RS).set o.dst (g y))=some s'→(x2=x)→f.wb=none→f.wh=true→
   (x2.map fun y=>({s2 with h:=k y}:RS).set o.dst (g y))=some (s2.shift f o.dst s'):=by
  intro α x x2 f g k hx h2 h3 h4
  obtain⟨z,rfl,rfl⟩:=Option.map_some' hx
  subst h2
  simp only [Uz]
  rw [←gz s s2 f o.dst (g z) (k z) h3 h4]
 unfold yd at h ⊢
 dsimp only at h ⊢
 split at h
 ·rename_i x ho; cases h; simp only [Uw]; exact ig s s2 _ _ _ (by simp [bc,ho]) (by simp [bc,ho])
 ·rename_i x ho; cases h; simp only [Uw]; exact ig s s2 _ _ _ (by simp [bc,ho]) (by simp [bc,ho])
 ·rename_i k x y ho
  obtain⟨t,ht,rfl⟩:=Option.map_some' h
  simp only [ht,Uz,Uw]
  exact ig s s2 _ _ _ (by simp [bc,ho]) (by simp [bc,ho])
 ·rename_i t ho
  rw [Ut] at h
  obtain⟨z,hz,h⟩:=h
  simp only [hz,Uu]
  exact nY h (by simp only [bc,ho]; rfl) hh nK
 ·rename_i t x ho
  exact nY h (by simp only [bc,ho]; rfl) hh nK
 ·rename_i t ps ho; exact dK _ h rfl (by simp [bc,ho]) (by simp [bc,ho])
 ·rename_i t k ps ho
  obtain⟨z,hz,rfl⟩:=Option.map_some' h
  simp only [hz,Uz,Uw]
  have hf:bc aE e o=(match o.dst with | some d=>if aE.contains d then {wh:=true} else {} | none=>{}):=by simp only [bc,ho]; rfl
  unfold oX
  cases HR:np P aE o t z with
  | none=>
   simp only
   cases hd:o.dst with
   | none=>rw [hd] at hf; rw [hf]; exact ig s s2 _ none _ rfl rfl
   | some d=>
    rw [hd] at hf
    simp only at hf
    by_cases hl:aE.contains d=true
    ·rw [if_pos hl] at hf
     have h2:=hh (by rw [hf])
     rw [hf]
     have h3:=gz s s2 {wh:=true} (some d) z s2.h rfl rfl
     refine h3.trans ?_
     rw [h2]
    ·rw [if_neg hl] at hf
     rw [hf]; exact ig s s2 _ _ _ rfl rfl
  | some q=>
   obtain⟨d,hd,hl⟩:∃d,o.dst=some d∧aE.contains d=true:=by
    unfold np at HR
    split at HR
    ·rename_i d _ _ _ hd
     refine⟨d,hd,?_⟩
     cases hc:aE.contains d with
     | false=>rw [hc] at HR; cases HR
     | true=>rfl
    ·cases HR
   rw [hd] at hf
   simp only [hl,if_true] at hf
   rw [hf] at hh ⊢
   simp only [hh rfl]
   exact gz s s2 _ _ _ _ rfl rfl
 ·
  rename_i t x ho
  have hf:bc aE e o=(match e x with | .lp k _=>{rb:=[k]} | .ptr id _=>{rh:=[id]} | _=>{}):=by simp only [bc,ho]; rfl
  refine dK _ h ?_ ?_ ?_
  ·rw [hf] at hb hr
   unfold jt
   cases hx:e x<;>rw [hx] at hb hr<;>try rfl
   ·simp only; rw [hr _ (by simp)]
   ·simp only; rw [hb _ (by simp)]
  ·rw [hf]; cases e x<;>rfl
  ·rw [hf]; cases e x<;>rfl
 ·
  rename_i t x y ho
  have hf:bc aE e o=(match e x with | .lp k _=>{rb:=[k],wb:=some k} | _=>{wh:=true}):=by simp only [bc,ho]; rfl
  try simp only at h ⊢
  split at h
  ·cases h
  rename_i hd
  rw [if_neg hd]
  have Fu:o.dst=none:=by simpa using hd
  cases hx:e x<;>rw [hx] at h hf<;>simp only at h hf ⊢<;>try (cases h; done)
  ·rename_i id off
   rw [hf] at hh ⊢
   rw [Ut] at h
   obtain⟨ob,hob,h⟩:=h
   rw [hh rfl,hob]
   cases ob with
   | map es=>cases h
   | row t cs=>cases h
   | cells cs=>
    obtain⟨eQ,hcs,rfl⟩:=Option.map_some' h
    simp only [Uu,hcs,Uz,Fu,Uw]
    exact gz s s2 {wh:=true} none .any _ rfl rfl
  ·rename_i k off
   rw [hf] at hb ⊢
   rw [Ut] at h
   obtain⟨cs,hcs,h⟩:=h
   rw [hb k (by simp),hcs]
   obtain⟨eQ,MS,rfl⟩:=Option.map_some' h
   simp only [Uu,MS,Uz,Fu,Uw]
   exact BA s s2 _ k eQ rfl rfl
 ·rename_i ho; exact dK _ h rfl (by simp [bc,ho]) (by simp [bc,ho])
 ·rename_i ho; exact dK _ h rfl (by simp [bc,ho]) (by simp [bc,ho])
 ·rename_i ho; exact dK _ h rfl (by simp [bc,ho]) (by simp [bc,ho])
 ·
  rename_i a b x ho
  have hf:bc aE e o=(match e x with | .rs id _ _ _=>{rh:=[id]} | _=>{}):=by simp only [bc,ho]; rfl
  refine dK _ h ?_ ?_ ?_
  ·have hc:dU s2.h 1 (e x)=dU s.h 1 (e x):=by
    rw [hf] at hr
    unfold dU
    cases hx:e x<;>rw [hx] at hr<;>try rfl
    simp only; rw [hr _ (by simp)]
   unfold lN
   rw [hc]
  ·rw [hf]; cases e x<;>rfl
  ·rw [hf]; cases e x<;>rfl
 ·rename_i yr first cap ho
  try simp only
  split at h
  ·rename_i hc
   rw [if_pos hc]
   exact dK _ h rfl (by simp [bc,ho]) (by simp [bc,ho])
  ·cases h
 ·rename_i ho
  have hf:(bc aE e o).wh=true:=by simp [bc,ho]
  cases h
  simp only [hh hf,Uw]
  exact gz s s2 _ _ _ _ (by simp [bc,ho]) hf
 ·rename_i t l c ho
  have hf:(bc aE e o).wh=true:=by simp [bc,ho]
  exact wo _ (fun y:AV × AHeap=>y.1) (fun y=>y.2) h (by simp only [hh hf]) (by simp [bc,ho]) hf
 ·rename_i ho; exact dK _ h rfl (by simp [bc,ho]) (by simp [bc,ho])
 ·rename_i ho; exact dK _ h rfl (by simp [bc,ho]) (by simp [bc,ho])
 ·rename_i ho; exact dK _ h rfl (by simp [bc,ho]) (by simp [bc,ho])
 ·rename_i ho; exact dK _ h rfl (by simp [bc,ho]) (by simp [bc,ho])
 ·rename_i ho; exact dK _ h rfl (by simp [bc,ho]) (by simp [bc,ho])
 ·
  rename_i t m k ok ho
  have hf:bc aE e o=(match e m with | .mp id=>{rh:=[id]} | _=>{}):=by simp only [bc,ho]; rfl
  refine dK _ h ?_ ?_ ?_
  ·rw [hf] at hr
   unfold fK
   cases hx:e m<;>rw [hx] at hr<;>try rfl
   simp only; rw [hr _ (by simp)]
  ·rw [hf]; cases e m<;>rfl
  ·rw [hf]; cases e m<;>rfl
 ·rename_i t m k x ho
  have hf:(bc aE e o).wh=true:=by simp [bc,ho]
  try simp only at h ⊢
  split at h
  ·cases h
  rename_i hd
  rw [if_neg hd]
  have Fu:o.dst=none:=by simpa using hd
  obtain⟨h',hm,rfl⟩:=Option.map_some' h
  simp only [hh hf,hm,Uz,Fu,Uw]
  exact gz s s2 _ none .any _ (by simp [bc,ho]) hf
 ·rename_i t m k x ho
  have hf:(bc aE e o).wh=true:=by simp [bc,ho]
  try simp only at h ⊢
  split at h
  ·cases h
  rename_i hd
  rw [if_neg hd]
  have Fu:o.dst=none:=by simpa using hd
  obtain⟨h',hm,rfl⟩:=Option.map_some' h
  simp only [hh hf,hm,Uz,Fu,Uw]
  exact gz s s2 _ none .any _ (by simp [bc,ho]) hf
 ·rename_i ho; exact dK _ h rfl (by simp [bc,ho]) (by simp [bc,ho])
 ·
  rename_i b args zE ho
  try simp only
  unfold fF at h ⊢
  generalize hargs:args.toList.map e=as at h ⊢
  generalize zE.toList=ts at h ⊢
  split at h
  ·rename_i t x
   try simp only
   have hf:bc aE e o=(match x with | .mp id=>{rh:=[id]} | _=>{}):=by
    simp only [bc,ho,hargs]
    cases x<;>rfl
   refine dK _ h ?_ ?_ ?_
   ·rw [hf] at hr
    unfold q8
    cases x<;>try rfl
    simp only; rw [hr _ (by simp)]
   ·rw [hf]; cases x<;>rfl
   ·rw [hf]; cases x<;>rfl
  ·try simp only
   have hf:(bc aE e o).wh=true∧(bc aE e o).wb=none:=by simp only [bc,ho,hargs]; simp
   exact wo _ (fun y:AV × AHeap=>y.1) (fun y=>y.2) h (by simp only [hh hf.1]) hf.2 hf.1
  ·try simp only
   have hf:(bc aE e o).wh=true∧(bc aE e o).wb=none:=by simp only [bc,ho,hargs]; simp
   exact wo _ (fun y:AV × AHeap=>y.1) (fun y=>y.2) h (by simp only [hh hf.1]) hf.2 hf.1
  ·try simp only
   have hf:(bc aE e o).wh=true∧(bc aE e o).wb=none:=by simp only [bc,ho,hargs]; simp
   exact wo _ (fun _:AHeap=>.tup []) (fun y=>y) h (by simp only [hh hf.1]) hf.2 hf.1
  ·try simp only
   rw [Ut] at h
   obtain⟨v,hv,h⟩:=h
   rw [Ut] at h
   obtain⟨vs,Cw,h⟩:=h
   rw [Ut] at h
   obtain⟨u,hu,h⟩:=h
   simp only [hv,Cw,hu,Uu]
   exact dK _ h rfl (by simp [bc,ho]) (by simp [bc,ho])
  ·try simp only
   rw [Ut] at h
   obtain⟨v,hv,h⟩:=h
   rw [Ut] at h
   obtain⟨vs,Cw,h⟩:=h
   rw [Ut] at h
   obtain⟨u,hu,h⟩:=h
   simp only [hv,Cw,hu,Uu]
   exact dK _ h rfl (by simp [bc,ho]) (by simp [bc,ho])
  ·cases h
 ·
  rename_i fx args zE ho
  have hf:(bc aE e o).wh=true∧(bc aE e o).wb=none:=by simp [bc,ho]
  try simp only
  cases hx:e fx<;>rw [hx] at h<;>simp only at h ⊢<;>try (cases h; done)
  rename_i yr cap
  split at h
  ·rename_i ha
   rw [if_pos ha]
   exact wo _ (fun y:AV × AHeap=>y.1) (fun y=>y.2) h (by simp only [hh hf.1]) hf.2 hf.1
  ·cases h
 ·cases h
end
end Go.R
namespace Go.R
open Go
def SteadyF (cf:CallF):Prop:=∀f args h r h',cf f args h=some (r,h')→Steady h h'
section
variable {P:Program}{cf:CallF}{aE ds:List Nat}{o:Oper}{s s':RS}
theorem rH {h h':AHeap}{t t2:TypeId}{x y z:AV}(hh:dv P h t t2 x y=some (z,h')):Steady h h':=by
 unfold dv at hh
 rw [Ut] at hh
 obtain⟨d,_,hh⟩:=hh
 cases d<;>simp only at hh<;>try (cases hh; done)
 rw [Ut] at hh
 obtain⟨i,_,hh⟩:=hh
 rw [Ut] at hh
 obtain⟨⟨new,m⟩,_,hh⟩:=hh
 simp only at hh
 split at hh
 ·cases hh
 split at hh
 ·split at hh
  ·cases hh
  ·split at hh<;>cases hh
   ·exact Steady.refl _
   ·exact Steady.put _ _ _
 ·split at hh
  ·cases hh
  ·split at hh
   ·split at hh<;>cases hh<;>exact Steady.refl _
   ·cases hh; exact Steady.put _ _ _
 ·split at hh
  ·split at hh
   ·cases hh
   ·split at hh<;>cases hh
    ·exact Steady.refl _
    ·exact Steady.put _ _ _
  rw [Ut] at hh
  obtain⟨ob,_,hh⟩:=hh
  cases ob with
  | map es=>cases hh
  | row t cs=>cases hh
  | cells cs=>
   simp only at hh
   split at hh
   ·cases hh
   ·split at hh<;>cases hh
    ·exact Steady.refl _
    ·exact (Steady.kill _ _).trans (Steady.put _ _ _)
 ·cases hh
theorem uG {h h':AHeap}{t t2:TypeId}{x y z:AV}(hh:pK P h t t2 x y=some (z,h')):Steady h h':=by
 unfold pK at hh
 rw [Ut] at hh
 obtain⟨d,_,hh⟩:=hh
 cases d<;>simp only at hh<;>try (cases hh; done)
 rw [Ut] at hh
 obtain⟨i,_,hh⟩:=hh
 rw [Ut] at hh
 obtain⟨⟨new,m⟩,_,hh⟩:=hh
 simp only at hh
 split at hh
 ·cases hh
 split at hh
 ·split at hh
  ·split at hh<;>cases hh
   exact Steady.refl _
  rw [Ut] at hh
  obtain⟨ob,_,hh⟩:=hh
  cases ob with
  | map es=>cases hh
  | row t cs=>cases hh
  | cells cs=>
   simp only at hh
   split at hh<;>cases hh
   exact Steady.put _ _ _
 ·split at hh<;>cases hh
  exact Steady.refl _
 ·cases hh
theorem sQ {h h':AHeap}{t:TypeId}{x:AV}(hh:kO P h t x=some h'):Steady h h':=by
 unfold kO at hh
 rw [Ut] at hh
 obtain⟨d,_,hh⟩:=hh
 cases x<;>simp only at hh<;>try (cases hh; done)
 ·split at hh
  ·cases hh; exact Steady.refl _
  split at hh
  ·cases hh
  cases d<;>simp only at hh<;>try (cases hh; done)
  simp only [Ut] at hh
  obtain⟨i,_,z,_,ob,_,hh⟩:=hh
  cases ob with
  | map es=>cases hh
  | row t cs=>cases hh
  | cells cs=>
   simp only at hh
   split at hh
   ·cases hh; exact Steady.put _ _ _
   ·cases hh
 ·cases hh; exact Steady.refl _
 ·rw [Ut] at hh
  obtain⟨ob,_,hh⟩:=hh
  cases ob with
  | cells cs=>cases hh
  | row t cs=>cases hh
  | map es=>cases hh; exact Steady.put _ _ _
theorem wq {aE:List Nat}{d:Option Nat}{x y:AV × AHeap}(hz:uk aE d x=some y):Steady x.2 y.2:=by
 unfold uk at hz
 cases hm:JW aE d with
 | true=>rw [hm,cond_true] at hz; exact lV hz
 | false=>rw [hm,cond_false] at hz; cases hz; exact Steady.refl _
theorem lZ {h h':AHeap}{t:TypeId}{x y z:AV}(hh:iw P h t x y z=some h'):Steady h h':=by
 unfold iw at hh
 rw [Ut] at hh
 obtain⟨d,_,hh⟩:=hh
 cases d<;>simp only at hh<;>try (cases hh; done)
 split at hh
 ·cases hh
 cases x<;>simp only at hh<;>try (cases hh; done)
 rw [Ut] at hh
 obtain⟨ob,_,hh⟩:=hh
 cases ob with
 | cells cs=>cases hh
 | row t cs=>cases hh
 | map es=>
  obtain⟨pJ,_,rfl⟩:=Option.map_some' hh
  exact Steady.put _ _ _
theorem nZ {h h':AHeap}{t:TypeId}{x y z:AV}(hh:gy P h t x y=some (z,h')):Steady h h':=by
 unfold gy at hh
 split at hh
 ·rw [Ut] at hh
  obtain⟨d,_,hh⟩:=hh
  cases d<;>simp only at hh<;>try (cases hh; done)
  rw [Ut] at hh
  obtain⟨i,_,hh⟩:=hh
  rw [Ut] at hh
  obtain⟨z,_,hh⟩:=hh
  split at hh<;>cases hh
  exact Steady.put _ _ _
 ·cases hh
theorem nb {cs:List AV}(h:hY s aE ds o cs=some s'):Steady s.h s'.h:=by
 unfold hY at h
 split at h
 rotate_left
 ·cases h
 split at h
 ·split at h
  ·split at h<;>cases h
   rw [iX]; exact Steady.refl _
  ·cases h
   rw [iX]; exact Steady.put _ _ _
 ·cases h
theorem rI (hcf:SteadyF cf){e:Operand→AV}(h:yd P cf aE ds e s o=some s'):Steady s.h s'.h:=by
 have dK:∀{x:Option AV},(x.map fun x=>s.set o.dst x)=some s'→Steady s.h s'.h:=by
  intro x hx
  obtain⟨z,rfl,rfl⟩:=Option.map_some' hx
  rw [iX]; exact Steady.refl _
 unfold yd at h
 dsimp only at h
 split at h
 ·cases h; rw [iX]; exact Steady.refl _
 ·cases h; rw [iX]; exact Steady.refl _
 ·obtain⟨z,_,rfl⟩:=Option.map_some' h; rw [iX]; exact Steady.refl _
 ·rw [Ut] at h
  obtain⟨z,_,h⟩:=h
  exact nb h
 ·exact nb h
 ·exact dK h
 ·obtain⟨z,hz,rfl⟩:=Option.map_some' h
  unfold oX
  split
  ·rw [iX]; exact Steady.refl _
  ·rw [iX]; exact Steady.put _ _ _
 ·exact dK h
 ·split at h
  ·cases h
  split at h
  ·rw [Ut] at h
   obtain⟨cs,_,h⟩:=h
   obtain⟨z,_,rfl⟩:=Option.map_some' h
   exact Steady.refl _
  ·rw [Ut] at h
   obtain⟨ob,_,h⟩:=h
   cases ob with
   | map es=>cases h
   | row t cs=>cases h
   | cells cs=>
    obtain⟨z,_,rfl⟩:=Option.map_some' h
    exact Steady.put _ _ _
  ·cases h
 ·exact dK h
 ·exact dK h
 ·exact dK h
 ·exact dK h
 ·split at h
  ·exact dK h
  ·cases h
 ·cases h; rw [iX]; exact Steady.put _ _ _
 ·obtain⟨⟨z,h'⟩,hz,rfl⟩:=Option.map_some' h
  rw [iX]; exact nZ hz
 ·exact dK h
 ·exact dK h
 ·exact dK h
 ·exact dK h
 ·exact dK h
 ·exact dK h
 ·split at h
  ·cases h
  obtain⟨h',hz,rfl⟩:=Option.map_some' h
  exact lZ hz
 ·split at h
  ·cases h
  obtain⟨h',hz,rfl⟩:=Option.map_some' h
  exact lZ hz
 ·exact dK h
 ·unfold fF at h
  split at h
  ·exact dK h
  ·obtain⟨⟨z,h'⟩,hz,rfl⟩:=Option.map_some' h
   rw [iX]; exact rH hz
  ·obtain⟨⟨z,h'⟩,hz,rfl⟩:=Option.map_some' h
   rw [iX]; exact uG hz
  ·obtain⟨h',hz,rfl⟩:=Option.map_some' h
   rw [iX]; exact sQ hz
  ·rw [Ut] at h
   obtain⟨v,_,h⟩:=h
   rw [Ut] at h
   obtain⟨vs,_,h⟩:=h
   rw [Ut] at h
   obtain⟨u,_,h⟩:=h
   exact dK h
  ·rw [Ut] at h
   obtain⟨v,_,h⟩:=h
   rw [Ut] at h
   obtain⟨vs,_,h⟩:=h
   rw [Ut] at h
   obtain⟨u,_,h⟩:=h
   exact dK h
  ·cases h
 ·split at h
  ·split at h
   ·obtain⟨⟨z,h'⟩,hz,rfl⟩:=Option.map_some' h
    rw [Ut] at hz
    obtain⟨⟨z0,h0⟩,hz,hm⟩:=hz
    rw [iX]; exact (hcf _ _ _ _ _ hz).trans (wq hm)
   ·cases h
  ·cases h
 ·cases h
theorem n5 (hcf:SteadyF cf){ops:List Oper}(h:lP P cf aE ops s o=some s'):Steady s.h s'.h:=by
 unfold lP at h
 rw [Ut] at h
 obtain⟨w,_,h⟩:=h
 cases w with
 | true=>exact rI hcf (by simpa [um] using h)
 | false=>
  simp only [UE,if_false,Uw] at h
  subst h
  rw [iX]; exact Steady.refl _
theorem pV (hcf:SteadyF cf){ops:List Oper}:∀{l:List Oper} {s s':RS},qa P cf aE ops s l=some s'→Steady s.h s'.h
 | [],s,s',h=>by simp only [qa,Uw] at h; subst h; exact Steady.refl _
 | o::l,s,s',h=>by
  simp only [qa,Ut] at h
  obtain⟨s1,h1,h2⟩:=h
  exact (n5 hcf h1).trans (pV hcf h2)
theorem pW (hcf:SteadyF cf){ops:List Oper}:∀{l:List Oper} {s r:RS} {es:List lC},nP P cf aE ops s l=some (es,r)→Steady s.h r.h
 | [],s,r,es,h=>by simp only [nP,Uw,UB] at h; rw [h.2]; exact Steady.refl _
 | o::l,s,r,es,h=>by
  simp only [nP,Ut,Uv] at h
  obtain⟨w,hw,s1,h1,⟨pJ,r'⟩,h2,h3⟩:=h
  simp only [UB] at h3
  obtain⟨_,rfl⟩:=h3
  have h4:lP P cf aE ops s o=some s1:=by unfold lP; rw [hw]; exact h1
  exact (n5 hcf h4).trans (pW hcf h2)
theorem sR (hcf:SteadyF cf){ops:Array Oper}(h:ju P cf aE ops s=some s'):Steady s.h s'.h:=by
 unfold ju at h
 dsimp only at h
 split at h
 rotate_left
 ·cases h
 rw [Ut] at h
 obtain⟨⟨es,r⟩,yn,h⟩:=h
 simp only at h
 split at h
 ·cases h; exact pW hcf yn
 ·cases h
theorem fN (hcf:SteadyF cf){A:bX}{m:Nat}:∀(c:Code) (st iW:St) (e:Ex),bI P cf A m c st=some (e,iW)→Steady st.h iW.h
 | .skip,st,iW,e,h=>by simp only [bI,Uw,UB] at h; rw [h.2]; exact Steady.refl _
 | .label _,st,iW,e,h=>by simp only [bI,Uw,UB] at h; rw [h.2]; exact Steady.refl _
 | .ret,st,iW,e,h=>by simp only [bI,Uw,UB] at h; rw [h.2]; exact Steady.refl _
 | .exit _,st,iW,e,h=>by simp only [bI,Uw,UB] at h; rw [h.2]; exact Steady.refl _
 | .seq x y,st,iW,e,h=>by
  simp only [bI,Ut] at h
  obtain⟨⟨e1,s1⟩,h1,h2⟩:=h
  have:=fN hcf x st s1 e1 h1
  cases e1 with
  | norm=>exact this.trans (fN hcf y s1 iW e h2)
  | exit id=>simp only [Uw,UB] at h2; rw [←h2.2]; exact this
  | ret=>simp only [Uw,UB] at h2; rw [←h2.2]; exact this
 | .cond k x y,st,iW,e,h=>by
  simp only [bI,Ut] at h
  obtain⟨t,_,h⟩:=h
  cases t with
  | true=>exact fN hcf x st iW e (by simpa using h)
  | false=>exact fN hcf y st iW e (by simpa using h)
 | .block id x,st,iW,e,h=>by
  simp only [bI,Uv] at h
  obtain⟨⟨e1,s1⟩,h1,h2⟩:=h
  have:=fN hcf x st s1 e1 h1
  cases e1<;>(simp only [UB] at h2; rw [←h2.2]; exact this)
 | .loop x,st,iW,e,h=>by
  simp only [bI] at h
  have key:∀(j:Nat) (st:St),kn (bI P cf A m x) j st=some (e,iW)→Steady st.h iW.h:=by
   intro j
   induction j with
   | zero=>intro st h; simp [kn] at h
   | succ j ih=>
    intro st h
    simp only [kn,Ut] at h
    obtain⟨⟨e1,s1⟩,h1,h2⟩:=h
    have:=fN hcf x st s1 e1 h1
    cases e1 with
    | norm=>exact this.trans (ih s1 h2)
    | exit id=>simp only [Uw,UB] at h2; rw [←h2.2]; exact this
    | ret=>simp only [Uw,UB] at h2; rw [←h2.2]; exact this
  exact key m st h
 | .region id ops draw,st,iW,e,h=>by
  simp only [bI,Ut,Uv,UB] at h
  obtain⟨s0,h0,s',h1,s2,h2,_,rfl⟩:=h
  rw [FW]
  refine ((lW h0).trans ?_).trans (lW h2)
  cases draw with
  | true=>exact sR (s:=s0) hcf (by simpa using h1)
  | false=>exact pV (s:=s0) hcf (by simpa using h1)
 | .rangeFunc ..,st,iW,e,h=>by simp [bI] at h
 | .scope ..,st,iW,e,h=>by simp [bI] at h
 | .goto ..,st,iW,e,h=>by simp [bI] at h
 | .refuse ..,st,iW,e,h=>by simp [bI] at h
theorem uH (hcf:SteadyF cf){aV:FuncId→bX}{m:Nat}:SteadyF (a7 P aV cf m):=by
 intro f args h r h' hc
 unfold a7 at hc
 rw [Ut] at hc
 obtain⟨fn,hf,hc⟩:=hc
 rw [Ut] at hc
 obtain⟨c,hb,hc⟩:=hc
 split at hc
 rotate_left
 ·cases hc
 rw [Ut] at hc
 obtain⟨⟨e,st⟩,hex,hc⟩:=hc
 have:=fN hcf c _ _ _ hex
 cases e with
 | norm=>obtain⟨r',_,h2⟩:=Option.map_some' hc; cases h2; exact this
 | ret=>obtain⟨r',_,h2⟩:=Option.map_some' hc; cases h2; exact this
 | exit id=>cases hc
end
end Go.R
namespace Go.R
open Go
section
variable {P:Program}{cf:CallF}{aE ds:List Nat}{o:Oper}{s s':RS}
theorem BB {e e':Operand→AV}(h:∀x∈o.op.operands,e x=e' x):yd P cf aE ds e s o=yd P cf aE ds e' s o:=by
 have Km:∀(l:List Operand),(∀x∈l,e x=e' x)→l.map e=l.map e':=fun l hl=>VK hl
 have HZ:∀(q:Option Operand),(∀x,q=some x→e x=e' x)→q.map e=q.map e':=by
  intro q hq; cases q with
  | none=>rfl
  | some x=>simp [hq x rfl]
 unfold yd
 cases zH:o.op<;>rw [zH] at h
 case build t ps=>
  have:(ps.toList.map fun (i,x)=>(i,e x))=(ps.toList.map fun (i,x)=>(i,e' x)):=
   VK fun p hp=>by
    have:=h p.2 (by simp only [Op.operands,List.mem_toArray,U8]; exact⟨p,hp,rfl⟩)
    simp [this]
  simp only [this]
 case buildSlice t n ps=>
  have:(ps.toList.map fun (i,x)=>(i,e x))=(ps.toList.map fun (i,x)=>(i,e' x)):=
   VK fun p hp=>by
    have:=h p.2 (by simp only [Op.operands,List.mem_toArray,U8]; exact⟨p,hp,rfl⟩)
    simp [this]
  simp only [this]
 case makeFunc f first cap=>
  have:cap.toList.map e=cap.toList.map e':=Km _ fun x hx=>h x (by simp only [Op.operands,Array.mem_append]; right; exact Vn.1 hx)
  cases f<;>first | rfl | simp only [this]
 case makeMap t r=>cases r<;>rfl
 case slice t x lo hi mx=>
  have h1:e x=e' x:=h x (by simp [Op.operands])
  have h2:=HZ lo fun y hy=>h y (by simp [Op.operands,hy])
  have h3:=HZ hi fun y hy=>h y (by simp [Op.operands,hy])
  have h4:=HZ mx fun y hy=>h y (by simp [Op.operands,hy])
  simp only [h1,h2,h3,h4]
 case call c=>
  obtain⟨callee,args,zE⟩:=c
  have h1:args.toList.map e=args.toList.map e':=Km _ fun x hx=>h x (by
   simp only [Op.operands,Call.operands]
   cases callee<;>simp<;>first | exact Vn.1 hx | (right; exact Vn.1 hx) | (left; exact Vn.1 hx))
  cases callee with
  | builtin b=>simp only [h1]
  | value f=>
   have h2:e f=e' f:=h f (by simp [Op.operands,Call.operands])
   simp only [h1,h2]
  | invoke r nm=>rfl
 all_goals first
  | rfl
  | (simp [Op.operands] at h; simp [h])
end
theorem n6 (acc:List Nat)(i:Nat):∀(l:List Edge) (m:Nat),(l.foldl (fun m e=>bif Region.binds .any e then m ||| (2 ^ e.on ||| acc.getD e.on 0) else m) m).testBit i=true→
  m.testBit i=true∨∃e∈l,Region.binds .any e=true∧(e.on=i∨(acc.getD e.on 0).testBit i=true)
 | [],m,h=>.inl h
 | e::l,m,h=>by
  rcases n6 acc i l _ h with h1 | ⟨e',he,h1⟩
  ·dsimp only at h1
   cases hb:Region.binds .any e with
   | false=>rw [hb] at h1; exact .inl h1
   | true=>
    rw [hb] at h1
    simp only [cond_true,Nat.testBit_or,Ve,Nat.testBit_two_pow,decide_eq_true_eq] at h1
    rcases h1 with h1 | h1 | h1
    ·exact .inl h1
    ·exact .inr ⟨e,by simp,hb,.inl h1⟩
    ·exact .inr ⟨e,by simp,hb,.inr h1⟩
  ·exact .inr ⟨e',by simp [he],h1⟩
theorem pX:∀(l:List Oper) (acc:List Nat),(∀j,j<acc.length→(jf acc l).getD j 0=acc.getD j 0)∧
  ∀j i,((jf acc l).getD j 0).testBit i=true→acc.length≤j→∃o,l[j - acc.length]? = some o∧∃e∈o.after.toList,Region.binds .any e=true∧(e.on=i∨((jf acc l).getD e.on 0).testBit i=true)
 | [],acc=>⟨fun j hj=>rfl,fun j i h hj=>by simp [jf,List.getD,U3 hj] at h⟩
 | o::l,acc=>by
  simp only [jf]
  generalize hm:(o.after.toList.foldl (fun m e=>bif Region.binds .any e then m ||| (2 ^ e.on ||| acc.getD e.on 0) else m) 0)=m
  obtain⟨h1,h2⟩:=pX l (acc++[m])
  have hold:∀j,j<acc.length→(jf (acc++[m]) l).getD j 0=acc.getD j 0:=fun j hj=>by
   rw [h1 j (by simp; omega)]
   simp [List.getD,UJ hj]
  refine⟨hold,fun j i h hj=>?_⟩
  by_cases RQ:j=acc.length
  ·subst RQ
   have:(jf (acc++[m]) l).getD acc.length 0=m:=by
    rw [h1 _ (by simp)]; simp [List.getD]
   rw [this,←hm] at h
   rcases n6 acc i _ _ h with h3 | ⟨e,he,hb,h3⟩
   ·simp at h3
   ·refine⟨o,by simp,e,he,hb,h3.imp id fun h4=>?_⟩
    by_cases hl:e.on<acc.length
    ·rw [hold _ hl]; exact h4
    ·simp [List.getD,U3 (Nat.not_lt.1 hl)] at h4
  ·obtain⟨o',JF,h3⟩:=h2 j i h (by simp; omega)
   refine⟨o',?_,h3⟩
   rw [show j - acc.length=(j - (acc++[m]).length)+1 by simp; omega]
   simpa using JF
theorem j7 {α:Type}(p:Nat→α→Nat→α→Bool):∀(l:List α) (k:Nat),nO p k l=true→∀i j x y,i<j→l[i]? = some x→l[j]? = some y→p (k+i) x (k+j) y=true
 | [],k,_,i,j,x,y,_,hx,_=>by simp at hx
 | a::l,k,h,i,j,x,y,xQ,hx,hy=>by
  simp only [nO,Ux,UN] at h
  obtain⟨h1,h2⟩:=h
  cases j with
  | zero=>omega
  | succ j=>
   cases i with
   | zero=>
    simp only [Vc,Uw] at hx
    subst hx
    have:=h1 (y,k+1+j) (by rw [List.mk_add_mem_zipIdx_iff_getElem?]; simpa using hy)
    simpa [Vq,VZ 1 j] using this
   | succ i=>
    have:=j7 p l (k+1) h2 i j x y (by omega) (by simpa using hx) (by simpa using hy)
    rw [show k+(i+1)=k+1+i by omega,show k+(j+1)=k+1+j by omega]
    exact this
theorem n7:∀(l:List Oper) (k:Nat),qM k l=true→∀i o,l[i]? = some o→∀e∈o.after.toList,Region.binds .any e=true→e.on<k+i
 | [],k,_,i,o,h,_,_,_=>by simp at h
 | a::l,k,h,i,o,ho,e,he,hb=>by
  simp only [qM,Ux,UN] at h
  obtain⟨h1,h2⟩:=h
  cases i with
  | zero=>
   simp only [Vc,Uw] at ho
   subst ho
   have:=h1 e he
   simp only [hb,Vu,Bool.false_or] at this
   exact Nat.blt_eq.mp this
  | succ i=>
   have:=n7 l (k+1) h2 i o (by simpa using ho) e he hb
   omega
theorem n9 {V:Type}{n i:Nat}(hi:i≤n){W:Nat→Prop}{S:Nat→Bool}{m x:Nat→V}(h0:m 0=x 0)(Kn:∀k,k<n→W k→S k=true→m (k+1)=x (k+1))(qP:∀k,k<n→(¬W k∨S k=false)→m (k+1)=m k)
  (hx:∀k,k<n→¬W k→x (k+1)=x k) (hS:∀k,k<n→W k→(S k=true↔k<i)):m n=x i:=by
 have key:∀k,k≤n→m k=x (min k i):=by
  intro k
  induction k with
  | zero=>intro _; simpa using h0
  | succ k ih=>
   intro hk
   have ih:=ih (by omega)
   by_cases hw:W k
   ·have hs:=hS k (by omega) hw
    by_cases wu:k<i
    ·rw [Kn k (by omega) hw (hs.2 wu),VQ (by omega)]
    ·have:S k=false:=by
      cases h:S k with
      | false=>rfl
      | true=>exact absurd (hs.1 h) wu
     rw [qP k (by omega) (.inr this),ih,Nat.min_eq_right (by omega),Nat.min_eq_right (by omega)]
   ·rw [qP k (by omega) (.inl hw),ih]
    by_cases wu:k<i
    ·rw [VQ (by omega),VQ (by omega),hx k (by omega) hw]
    ·rw [Nat.min_eq_right (by omega),Nat.min_eq_right (by omega)]
 rw [key n (Uy n),Nat.min_eq_right hi]
open Classical in
theorem uI {V:Type}{n i:Nat}(hi:i<n){W:Nat→Prop}{S S':Nat→Bool}{m m' x:Nat→V}(h0:m' 0=m 0)(Kn:∀k,k<n→W k→S k=true→m (k+1)=x (k+1))(qP:∀k,k<n→(¬W k∨S k=false)→m (k+1)=m k)
  (PK:∀k,k<n→W k→S' k=true→m' (k+1)=x (k+1)) (H0:∀k,k<n→(¬W k∨S' k=false)→m' (k+1)=m' k)
  (BC:∀k,S' k=if k=i then true else S k) (Ko:S i=false) (hl:W i→∀j,j<n→i<j→W j→S j=false):m' n=if W i then x (i+1) else m n:=by
 have key:∀k,k≤n→m' k=if i<k∧W i then x (i+1) else m k:=by
  intro k
  induction k with
  | zero=>intro _; simpa using h0
  | succ k ih=>
   intro hk
   have ih:=ih (by omega)
   by_cases wu:k=i
   ·subst wu
    by_cases hw:W k
    ·rw [PK k (by omega) hw (by rw [BC]; simp),if_pos ⟨by omega,hw⟩]
    ·rw [H0 k (by omega) (.inl hw),ih,if_neg (fun h=>hw h.2),if_neg (fun h=>hw h.2),qP k (by omega) (.inl hw)]
   ·have hs:S' k=S k:=by rw [BC,if_neg wu]
    by_cases hw:W k
    ·cases rG:S k with
     | true=>
      rw [PK k (by omega) hw (hs.trans rG)]
      by_cases CA:i<k+1∧W i
      ·have:=hl CA.2 k (by omega) (by omega) hw
       rw [rG] at this; cases this
      ·rw [if_neg CA,Kn k (by omega) hw rG]
     | false=>
      rw [H0 k (by omega) (.inr (hs.trans rG)),ih,qP k (by omega) (.inr rG)]
      by_cases CA:i<k∧W i
      ·rw [if_pos CA,if_pos ⟨by omega,CA.2⟩]
      ·rw [if_neg CA,if_neg (fun h=>CA ⟨by omega,h.2⟩)]
    ·rw [H0 k (by omega) (.inl hw),ih,qP k (by omega) (.inl hw)]
     by_cases CA:i<k∧W i
     ·rw [if_pos CA,if_pos ⟨by omega,CA.2⟩]
     ·rw [if_neg CA,if_neg (fun h=>CA ⟨by omega,h.2⟩)]
 rw [key n (Uy n)]
 by_cases hw:W i
 ·rw [if_pos ⟨hi,hw⟩,if_pos hw]
 ·rw [if_neg (fun h=>hw h.2),if_neg hw]
structure rJ (P:Program)(cf:CallF)(aE:List Nat)(ops:Array Oper)(tx:Nat→RS)(ft:Nat→kl)(ord:Nat→Nat→Prop):Prop where
 op:∀k o,ops[k]? = some o→∃w,gJ ops.toList (tx k).ρ o=some w∧(if w then um P cf aE (ops.toList.filterMap (·.dst)) (tx k) o=some (tx (k+1))∧ft k=bc aE (bJ (tx k).ρ) o else tx (k+1)=(tx k).set o.dst (.tup [])∧ft k={})
 H2:∀k i,ord k i→∃o,ops[i]? = some o∧∃e∈o.after,Region.binds .any e=true∧(e.on=k∨ord k e.on)
 back:∀i o,ops[i]? = some o→∀e∈o.after,Region.binds .any e=true→e.on<i
 Hd:∀i j x y,i≠j→ops[i]? = some x→ops[j]? = some y→ord i j∨ord j i∨∀d,x.dst=some d→d∉y.looksAt ops∧y.dst≠some d
 boxes:∀i j,i<ops.size→j<ops.size→i≠j→ord i j∨ord j i∨(∀k,(ft i).wb=some k→k∉(ft j).rb∧(ft j).wb≠some k)∧((ft i).wh=true→(ft j).wh=false∧∀id∈(ft j).rh,(tx i).h.get id=(tx (i+1)).h.get id)
 MT:∀i o d,ops[i]? = some o→(ft i).al=true→o.dst=some d→(∀t∈ops.toList.filterMap (·.dst),t≠d→∀off,(tx 0).ρ t≠.lp d off)∧∀j y t,ops[j]? = some y→j≠i→ord i j∨(y.dst=some t→∀off,(tx (j+1)).ρ t≠.lp d off)
section
variable {P:Program}{cf:CallF}{aE:List Nat}{ops:Array Oper}{tx:Nat→RS}{ft:Nat→kl}{ord:Nat→Nat→Prop}
def iY (ops:Array Oper)(k:Nat):Option Nat:=(ops[k]?).bind (·.dst)
def jK (ops:Array Oper)(tx:Nat→RS)(ft:Nat→kl)(S:Nat→Bool):Nat→RS
 | 0=>tx 0
 | k+1=>if S k then (jK ops tx ft S k).shift (ft k) (iY ops k) (tx (k+1)) else jK ops tx ft S k
theorem rJ.shift (T:rJ P cf aE ops tx ft ord){k:Nat}(hk:k<ops.size):tx (k+1)=(tx k).shift (ft k) (iY ops k) (tx (k+1)):=by
 have ho:ops[k]? = some ops[k]:=by simp [hk]
 obtain⟨w,hw,h⟩:=T.op k _ ho
 have hd:iY ops k=ops[k].dst:=by simp [iY,hk]
 rw [hd]
 cases w with
 | true=>
  simp only [if_true] at h
  obtain⟨h1,h2⟩:=h
  have:=tB (s2:=tx k) (e:=bJ (tx k).ρ) h1 (fun _ _=>rfl) (fun _ _=>rfl) (fun _=>rfl) (fun nK d xN=>by
   unfold um yd at h1
   dsimp only at h1
   have He:∀(cs:List AV) (s s':RS),hY s aE (ops.toList.filterMap (·.dst)) ops[k] cs=some s'→aE.contains d=true→q9 d s.ρ ((ops.toList.filterMap (·.dst)).filter fun t=>!Nat.beq t d)=true:=by
    intro cs s s' hb hl
    unfold hY at hb
    simp only [xN,hl,if_true] at hb
    by_cases hn:q9 d s.ρ ((ops.toList.filterMap (·.dst)).filter fun t=>!Nat.beq t d)=true
    ·exact hn
    ·simp [hn] at hb
   unfold bc at nK
   split at nK
   ·rename_i t zH
    rw [xN] at nK
    simp only at nK
    split at nK
    ·rename_i hl
     rw [zH] at h1
     simp only [Ut] at h1
     obtain⟨z,_,h1⟩:=h1
     exact He _ _ _ h1 hl
    ·cases nK
   ·rename_i t x zH
    rw [xN] at nK
    simp only at nK
    split at nK
    ·rename_i hl
     rw [zH] at h1
     exact He _ _ _ h1 hl
    ·cases nK
   all_goals first
    | (split at nK<;>cases nK)
    | (split at nK<;>first | cases nK | (split at nK<;>cases nK))
    | cases nK)
  unfold um at h1
  rw [h1] at this
  rw [h2]
  exact Vf this
 | false=>
  simp only [UE,if_false] at h
  rw [h.1,h.2]
  exact ig (tx k) (tx k) {} _ _ rfl rfl
theorem qQ (s2:RS)(f:kl)(d:Option Nat)(s':RS)(t:Nat):(s2.shift f d s').ρ t=if d=some t then s'.ρ t else s2.ρ t:=by
 cases d with
 | none=>simp [RS.shift]
 | some d=>
  simp only [RS.shift,Uw]
  by_cases h:t=d
  ·subst h; simp
  ·rw [if_neg h,if_neg (Ne.symm h)]
theorem oa (s2:RS)(f:kl)(d:Option Nat)(s':RS)(b:Nat):(s2.shift f d s').bx b=if f.wb=some b then s'.bx b else s2.bx b:=by
 cases hf:f.wb with
 | none=>simp [RS.shift,hf]
 | some k=>
  simp only [RS.shift,hf,Uw]
  by_cases h:b=k
  ·subst h; simp
  ·rw [if_neg h,if_neg (Ne.symm h)]
theorem rJ.lt (T:rJ P cf aE ops tx ft ord):∀{j k:Nat},ord k j→k<j:=by
 intro j
 induction j using Nat.strongRecOn with
 | _ j ih=>
  intro k h
  obtain⟨o,ho,e,he,hb,h1⟩:=T.H2 k j h
  have h2:=T.back j o ho e he hb
  rcases h1 with h1 | h1
  ·omega
  ·have:=ih e.on h2 h1; omega
def pe (ops:Array Oper)(S:Nat→Bool):Prop:=∀j o,ops[j]? = some o→S j=true→∀e∈o.after,Region.binds .any e=true→S e.on=true
theorem rJ.down (T:rJ P cf aE ops tx ft ord){S:Nat→Bool}(hc:pe ops S):∀{j k:Nat},ord k j→S j=true→S k=true:=by
 intro j
 induction j using Nat.strongRecOn with
 | _ j ih=>
  intro k h hs
  obtain⟨o,ho,e,he,hb,h1⟩:=T.H2 k j h
  have h2:=T.back j o ho e he hb
  have h3:=hc j o ho hs e he hb
  rcases h1 with h1 | h1
  ·rw [←h1]; exact h3
  ·exact ih e.on h2 h1 h3
variable {S:Nat→Bool}{i:Nat}{oi:Oper}
theorem rJ.before (T:rJ P cf aE ops tx ft ord)(hc:pe ops S)(ho:ops[i]? = some oi)(hr:∀e∈oi.after,Region.binds .any e=true→S e.on=true){k:Nat}(h:ord k i):S k=true:=by
 obtain⟨o,JF,e,he,hb,h1⟩:=T.H2 k i h
 rw [ho] at JF
 cases JF
 rcases h1 with h1 | h1
 ·rw [←h1]; exact hr e he hb
 ·exact T.down hc h1 (hr e he hb)
theorem rJ.iff (T:rJ P cf aE ops tx ft ord)(hc:pe ops S)(ho:ops[i]? = some oi)(hr:∀e∈oi.after,Region.binds .any e=true→S e.on=true)(hi:S i=false){k:Nat}(h:ord i k∨ord k i):S k=true↔k<i:=by
 rcases h with h | h
 ·have:=T.lt h
  refine⟨fun hk=>?_,fun _=>by omega⟩
  have:=T.down hc h hk
  rw [hi] at this; cases this
 ·exact⟨fun _=>T.lt h,fun _=>T.before hc ho hr h⟩
theorem uJ (t:Nat)(k:Nat)(hd:iY ops k=some t)(hs:S k=true):(jK ops tx ft S (k+1)).ρ t=(tx (k+1)).ρ t:=by
 simp only [jK,hs,if_true,qQ,hd]
theorem uK (t:Nat)(k:Nat)(h:¬iY ops k=some t∨S k=false):(jK ops tx ft S (k+1)).ρ t=(jK ops tx ft S k).ρ t:=by
 simp only [jK]
 split
 ·rename_i hs
  rcases h with h | h
  ·rw [qQ,if_neg h]
  ·rw [h] at hs; cases hs
 ·rfl
theorem uL (b:Nat)(k:Nat)(hd:(ft k).wb=some b)(hs:S k=true):(jK ops tx ft S (k+1)).bx b=(tx (k+1)).bx b:=by
 simp only [jK,hs,if_true,oa,hd]
theorem uM (b:Nat)(k:Nat)(h:¬(ft k).wb=some b∨S k=false):(jK ops tx ft S (k+1)).bx b=(jK ops tx ft S k).bx b:=by
 simp only [jK]
 split
 ·rename_i hs
  rcases h with h | h
  ·rw [oa,if_neg h]
  ·rw [h] at hs; cases hs
 ·rfl
theorem uN (k:Nat)(hd:(ft k).wh=true)(hs:S k=true):(jK ops tx ft S (k+1)).h=(tx (k+1)).h:=by
 simp only [jK,hs,if_true,RS.shift,hd]
theorem uO (k:Nat)(h:¬(ft k).wh=true∨S k=false):(jK ops tx ft S (k+1)).h=(jK ops tx ft S k).h:=by
 simp only [jK]
 split
 ·rename_i hs
  rcases h with h | h
  ·simp only [RS.shift]; rw [if_neg h]
  ·rw [h] at hs; cases hs
 ·rfl
theorem rJ.MU (T:rJ P cf aE ops tx ft ord)(t:Nat)(k:Nat)(hk:k<ops.size)(h:¬iY ops k=some t):(tx (k+1)).ρ t=(tx k).ρ t:=by
 rw [T.shift hk,qQ,if_neg h]
theorem rJ.Kp (T:rJ P cf aE ops tx ft ord)(b:Nat)(k:Nat)(hk:k<ops.size)(h:¬(ft k).wb=some b):(tx (k+1)).bx b=(tx k).bx b:=by
 rw [T.shift hk,oa,if_neg h]
theorem rJ.H3 (T:rJ P cf aE ops tx ft ord)(k:Nat)(hk:k<ops.size)(h:¬(ft k).wh=true):(tx (k+1)).h=(tx k).h:=by
 rw [T.shift hk]; simp only [RS.shift]; rw [if_neg h]
theorem rJ.reads (T:rJ P cf aE ops tx ft ord)(hc:pe ops S)(ho:ops[i]? = some oi)(hr:∀e∈oi.after,Region.binds .any e=true→S e.on=true)(hi:S i=false) :
  (∀t∈oi.looksAt ops,(jK ops tx ft S ops.size).ρ t=(tx i).ρ t)∧(∀b∈(ft i).rb,(jK ops tx ft S ops.size).bx b=(tx i).bx b)∧
  (∀id∈(ft i).rh,(jK ops tx ft S ops.size).h.get id=(tx i).h.get id)∧((ft i).wh=true→(jK ops tx ft S ops.size).h=(tx i).h):=by
 have hin:i<ops.size:=(U1.1 ho).1
 have Bp:∀k,k<ops.size→ops[k]? = some ops[k]!:=fun k hk=>by simp [hk]
 have Da:∀k,k=i→(S k=true↔k<i):=by
  rintro k rfl
  rw [hi]; simp
 refine⟨fun t ht=>?_,fun b hb=>?_,fun id hid=>?_,fun hw=>?_⟩
 ·refine n9 (W:=fun k=>iY ops k=some t) (m:=fun k=>(jK ops tx ft S k).ρ t) (x:=fun k=>(tx k).ρ t) (S:=S) (Nat.le_of_lt hin) rfl (fun k _ h hs=>uJ t k h hs) (fun k _ h=>uK t k h) (fun k hk h=>T.MU t k hk h) (fun k hk h=>?_)
  by_cases wu:k=i
  ·exact Da k wu
  ·obtain⟨y,hy,H4⟩:=Ut.1 h
   rcases T.Hd k i y oi wu hy ho with h1 | h1 | h1
   ·exact T.iff hc ho hr hi (.inr h1)
   ·exact T.iff hc ho hr hi (.inl h1)
   ·exact absurd ht (h1 t H4).1
 ·refine n9 (W:=fun k=>(ft k).wb=some b) (m:=fun k=>(jK ops tx ft S k).bx b) (x:=fun k=>(tx k).bx b) (S:=S) (Nat.le_of_lt hin) rfl (fun k _ h hs=>uL b k h hs) (fun k _ h=>uM b k h) (fun k hk h=>T.Kp b k hk h) (fun k hk h=>?_)
  by_cases wu:k=i
  ·exact Da k wu
  ·rcases T.boxes k i hk hin wu with h1 | h1 | h1
   ·exact T.iff hc ho hr hi (.inr h1)
   ·exact T.iff hc ho hr hi (.inl h1)
   ·exact absurd hb (h1.1 b h).1
 ·
  obtain⟨p,hp,Kf⟩:∃p,p≤ops.size∧∀k,k<ops.size→(ft k).wh=true→(S k=true↔k<p):=by
   have key:∀m,m≤ops.size→(∀k,k<m→(ft k).wh=true→S k=true)∨∃p,p<m∧(ft p).wh=true∧S p=false∧∀k,k<p→(ft k).wh=true→S k=true:=by
    intro m
    induction m with
    | zero=>intro _; exact .inl fun k hk=>by omega
    | succ m ih=>
     intro hm
     rcases ih (by omega) with h | ⟨p,h1,h2⟩
     ·by_cases hw:(ft m).wh=true∧S m=false
      ·exact .inr ⟨m,by omega,hw.1,hw.2,h⟩
      ·refine .inl fun k hk PL=>?_
       by_cases RR:k=m
       ·subst RR
        cases hs:S k with
        | true=>rfl
        | false=>exact absurd ⟨PL,hs⟩ hw
       ·exact h k (by omega) PL
     ·exact .inr ⟨p,by omega,h2⟩
   rcases key ops.size (Uy _) with h | ⟨p,h1,h2,h3,h4⟩
   ·exact⟨ops.size,Uy _,fun k hk hw=>⟨fun _=>hk,fun _=>h k hk hw⟩⟩
   ·refine⟨p,by omega,fun k hk hw=>⟨fun hs=>?_,fun LY=>h4 k LY hw⟩⟩
    rcases Nat.lt_or_ge k p with h5 | h5
    ·exact h5
    ·by_cases LY:k=p
     ·subst LY; rw [h3] at hs; cases hs
     ·rcases T.boxes p k h1 hk (Ne.symm LY) with h6 | h6 | h6
      ·have:=T.down hc h6 hs; rw [h3] at this; cases this
      ·have:=T.lt h6; omega
      ·have:=(h6.2 h2).1; rw [hw] at this; cases this
  have H5:(jK ops tx ft S ops.size).h=(tx p).h:=
   n9 (W:=fun k=>(ft k).wh=true) (m:=fun k=>(jK ops tx ft S k).h) (x:=fun k=>(tx k).h) (S:=S) hp rfl (fun k _ h hs=>uN k h hs) (fun k _ h=>uO k h) (fun k hk h=>T.H3 k hk h) Kf
  rw [H5]
  have Hf:∀k,k<ops.size→(p≤k∧k<i)∨(i≤k∧k<p)→(tx (k+1)).h.get id=(tx k).h.get id:=by
   intro k hk hb
   by_cases hw:(ft k).wh=true
   ·have hs:=Kf k hk hw
    have wu:k≠i:=by
     rintro rfl
     rcases hb with hb | hb
     ·omega
     ·have:=hs.2 hb.2; rw [hi] at this; cases this
    rcases T.boxes k i hk hin wu with h1 | h1 | h1
    ·have hlt:=T.lt h1
     have:=hs.1 (T.before hc ho hr h1)
     omega
    ·have hlt:=T.lt h1
     have:=T.down hc h1 (hs.2 (by omega))
     rw [hi] at this; cases this
    ·exact ((h1.2 hw).2 id hid).symm
   ·rw [T.H3 k hk hw]
  have walk:∀a b,a≤b→b≤ops.size→(∀k,a≤k→k<b→(tx (k+1)).h.get id=(tx k).h.get id)→(tx b).h.get id=(tx a).h.get id:=by
   intro a b Kq
   induction b with
   | zero=>
     intro _ _; have:a=0:=by omega
     subst this; rfl
   | succ b ih=>
    intro hb hk
    by_cases MV:a=b+1
    ·subst MV; rfl
    ·rw [hk b (by omega) (by omega)]
     exact ih (by omega) (by omega) fun k h1 h2=>hk k h1 (by omega)
  rcases Nat.le_total p i with h | h
  ·exact (walk p i h (Nat.le_of_lt hin) fun k h1 h2=>Hf k (by omega) (.inl ⟨h1,h2⟩)).symm
  ·exact walk i p h hp fun k h1 h2=>Hf k (by omega) (.inr ⟨h1,h2⟩)
 ·refine n9 (W:=fun k=>(ft k).wh=true) (m:=fun k=>(jK ops tx ft S k).h) (x:=fun k=>(tx k).h) (S:=S) (Nat.le_of_lt hin) rfl (fun k _ h hs=>uN k h hs) (fun k _ h=>uO k h) (fun k hk h=>T.H3 k hk h) (fun k hk h=>?_)
  by_cases wu:k=i
  ·exact Da k wu
  ·rcases T.boxes k i hk hin wu with h1 | h1 | h1
   ·exact T.iff hc ho hr hi (.inr h1)
   ·exact T.iff hc ho hr hi (.inl h1)
   ·have:=(h1.2 h).1; rw [hw] at this; cases this
theorem wv (t:Nat):∀k,(jK ops tx ft S k).ρ t=(tx 0).ρ t∨∃j,j<k∧S j=true∧iY ops j=some t∧(jK ops tx ft S k).ρ t=(tx (j+1)).ρ t
 | 0=>.inl rfl
 | k+1=>by
  by_cases h:iY ops k=some t∧S k=true
  ·exact .inr ⟨k,by omega,h.2,h.1,uJ t k h.1 h.2⟩
  ·have h':¬iY ops k=some t∨S k=false:=by
    by_cases h1:iY ops k=some t
    ·right; cases hs:S k with
     | true=>exact absurd ⟨h1,hs⟩ h
     | false=>rfl
    ·exact .inl h1
   rw [uK t k h']
   rcases wv t k with h1 | ⟨j,h1,h2⟩
   ·exact .inl h1
   ·exact .inr ⟨j,by omega,h2⟩
theorem rK {k:Nat}{ρ:Nat→AV}:∀{l:List Nat},(∀t∈l,∀off,ρ t≠.lp k off)→q9 k ρ l=true
 | [],_=>rfl
 | t::l,h=>by
  simp only [q9,Ux]
  refine⟨?_,rK fun u hu=>h u (by simp [hu])⟩
  have:=h t (by simp)
  split
  ·rename_i j off heq
   simp only [bne_iff_ne,ne_eq]
   rintro rfl
   exact this off heq
  ·rfl
open Classical in
theorem rJ.next (T:rJ P cf aE ops tx ft ord)(hc:pe ops S)(ho:ops[i]? = some oi)(hr:∀e∈oi.after,Region.binds .any e=true→S e.on=true)(hi:S i=false){S':Nat→Bool}(BC:∀k,S' k=if k=i then true else S k) :
  lP P cf aE ops.toList (jK ops tx ft S ops.size) oi=some (jK ops tx ft S' ops.size):=by
 have hin:i<ops.size:=(U1.1 ho).1
 obtain⟨h1,h2,h3,h4⟩:=T.reads hc ho hr hi
 obtain⟨w,hw,zH⟩:=T.op i oi ho
 have qe:iY ops i=oi.dst:=by simp [iY,ho]
 have tC:∀j,i<j→j<ops.size→(ord i j∨ord j i)→S j=false:=by
  intro j xQ hj h
  cases hs:S j with
  | false=>rfl
  | true=>have:=(T.iff hc ho hr hi h).1 hs; omega
 have H5:jK ops tx ft S' ops.size=(jK ops tx ft S ops.size).shift (ft i) (iY ops i) (tx (i+1)):=by
  refine RS.ext' (fun t=>?_) (fun b=>?_) ?_
  ·rw [qQ]
   have:=uI (W:=fun k=>iY ops k=some t) (m:=fun k=>(jK ops tx ft S k).ρ t) (m':=fun k=>(jK ops tx ft S' k).ρ t) (x:=fun k=>(tx k).ρ t) (S:=S) (S':=S') hin rfl
    (fun k _ h hs=>uJ t k h hs) (fun k _ h=>uK t k h) (fun k _ h hs=>uJ t k h hs) (fun k _ h=>uK t k h) BC hi (fun JH j hj xQ Kr=>by
     obtain⟨y,hy,H4⟩:=Ut.1 Kr
     rw [qe] at JH
     rcases T.Hd i j oi y (by omega) ho hy with h | h | h
     ·exact tC j xQ hj (.inl h)
     ·exact tC j xQ hj (.inr h)
     ·exact absurd H4 (h t JH).2)
   rw [this]
   by_cases hd:iY ops i=some t
   ·rw [if_pos hd,if_pos hd]
   ·rw [if_neg hd,if_neg hd]
  ·rw [oa]
   have:=uI (W:=fun k=>(ft k).wb=some b) (m:=fun k=>(jK ops tx ft S k).bx b) (m':=fun k=>(jK ops tx ft S' k).bx b) (x:=fun k=>(tx k).bx b) (S:=S) (S':=S') hin rfl
    (fun k _ h hs=>uL b k h hs) (fun k _ h=>uM b k h) (fun k _ h hs=>uL b k h hs) (fun k _ h=>uM b k h) BC hi (fun JH j hj xQ Kr=>by
     rcases T.boxes i j hin hj (by omega) with h | h | h
     ·exact tC j xQ hj (.inl h)
     ·exact tC j xQ hj (.inr h)
     ·exact absurd Kr (h.1 b JH).2)
   rw [this]
   by_cases hd:(ft i).wb=some b
   ·rw [if_pos hd,if_pos hd]
   ·rw [if_neg hd,if_neg hd]
  ·have:=uI (W:=fun k=>(ft k).wh=true) (m:=fun k=>(jK ops tx ft S k).h) (m':=fun k=>(jK ops tx ft S' k).h) (x:=fun k=>(tx k).h) (S:=S) (S':=S') hin rfl
    (fun k _ h hs=>uN k h hs) (fun k _ h=>uO k h) (fun k _ h hs=>uN k h hs) (fun k _ h=>uO k h) BC hi (fun JH j hj xQ Kr=>by
     rcases T.boxes i j hin hj (by omega) with h | h | h
     ·exact tC j xQ hj (.inl h)
     ·exact tC j xQ hj (.inr h)
     ·have:=(h.2 JH).1; rw [Kr] at this; cases this)
   rw [this]
   simp only [RS.shift]
   by_cases hd:(ft i).wh=true
   ·rw [if_pos hd,if_pos hd]
   ·rw [if_neg hd,if_neg hd]
 have Ks:∀x∈oi.op.operands,bJ (jK ops tx ft S ops.size).ρ x=bJ (tx i).ρ x:=by
  intro x hx
  cases x with
  | tmp t=>
   refine h1 t ?_
   unfold Oper.looksAt
   rw [UZ]
   left
   rw [List.mem_filterMap]
   exact⟨.tmp t,Vn.2 hx,rfl⟩
  | _=>rfl
 have Kt:gJ ops.toList (jK ops tx ft S ops.size).ρ oi=gJ ops.toList (tx i).ρ oi:=by
  unfold gJ
  cases hg:oi.guard with
  | none=>rfl
  | some g=>
   obtain⟨g,want⟩:=g
   simp only
   cases hq:(ops.toList[g]?).bind (·.dst) with
   | none=>rfl
   | some d=>
    simp only [Uu]
    rw [h1 d]
    unfold Oper.looksAt
    rw [UZ]
    right
    rw [hg]
    simp only
    have:(ops[g]?).bind (·.dst)=some d:=by simpa using hq
    rw [this]
    simp
 unfold lP
 rw [Kt,hw]
 simp only [Uu]
 rw [H5,qe]
 cases w with
 | false=>
  simp only [UE,if_false] at zH ⊢
  rw [zH.1,zH.2]
  congr 1
  exact ig (tx i) _ {} _ _ rfl rfl
 | true=>
  simp only [if_true] at zH ⊢
  obtain⟨zH,JI⟩:=zH
  unfold um at zH ⊢
  rw [BB Ks,JI]
  rw [JI] at h2 h3 h4
  refine tB zH h2 h3 h4 (fun nK d xN=>rK fun t ht off he=>?_)
  rw [List.mem_filter] at ht
  obtain⟨RU,RV⟩:=ht
  have G7:t≠d:=by simpa [beq_nat] using RV
  obtain⟨l1,l2⟩:=T.MT i oi d ho (by rw [JI]; exact nK) xN
  rcases wv (ops:=ops) (tx:=tx) (ft:=ft) (S:=S) t ops.size with h | ⟨j,hj,hs,RW,h⟩
  ·rw [h] at he
   exact l1 t RU G7 off he
  ·rw [h] at he
   obtain⟨y,hy,H4⟩:=Ut.1 RW
   have hji:j≠i:=by rintro rfl; rw [hi] at hs; cases hs
   rcases l2 j y t hy hji with h5 | h5
   ·have:=T.down hc h5 hs; rw [hi] at this; cases this
   ·exact h5 H4 off he
theorem zI (T:rJ P cf aE ops tx ft ord)(ky:∀k,k<ops.size→S k=true):∀k,k≤ops.size→jK ops tx ft S k=tx k
 | 0,_=>rfl
 | k+1,hk=>by
  simp only [jK,ky k (by omega),if_true]
  rw [zI T ky k (by omega)]
  exact (T.shift (by omega)).symm
def left (n:Nat)(S:Nat→Bool):Nat:=(VX n).countP fun j=>!S j
theorem BD {n:Nat}{S:Nat→Bool}(h:left n S=0):∀k,k<n→S k=true:=by
 intro k hk
 unfold left at h
 rw [List.countP_eq_zero] at h
 simpa using h k (VY.2 hk)
theorem Db {n i:Nat}(hi:i<n){S S':Nat→Bool}(Ko:S i=false)(BC:∀k,S' k=if k=i then true else S k):left n S'+1=left n S:=by
 unfold left
 have:∀m,(VX m).countP (fun j=>!S' j)+(if i<m then 1 else 0)=(VX m).countP fun j=>!S j:=by
  intro m
  induction m with
  | zero=>simp
  | succ m ih=>
   rw [List.range_succ,List.countP_append,List.countP_append]
   simp only [List.countP_cons,List.countP_nil]
   by_cases hm:m=i
   ·subst hm
    have h1:S' m=true:=by rw [BC]; simp
    rw [h1,Ko]
    simp at ih ⊢
    omega
   ·have h1:S' m=S m:=by rw [BC,if_neg hm]
    rw [h1]
    by_cases PM:i<m
    ·have h3:i<m+1:=by omega
     simp only [PM,h3,if_true] at ih ⊢
     omega
    ·have h3:¬i<m+1:=by omega
     simp only [PM,h3,if_false] at ih ⊢
     omega
 have:=this n
 rw [if_pos hi] at this
 exact this
theorem H6 (T:rJ P cf aE ops tx ft ord)(hcf:CallOK P cf){L0:Nat→Prop}{c0:Cx}{n:Nat}(hb0:c0.base≤c0.w.heap.size)(Fq:tA n ops.toList=true){Q:Exit→Act→World→Prop}
  (hQ:∀a' w',Inv L0 c0 n (ops.toList.filterMap (·.dst)) (tx ops.size) a' w'→Q .normal a' w') :
  ∀(fuel:Nat) (dL:Array Bool) (a:Act) (w:World),dL.size=ops.size→pe ops (fun j=>dL.getD j false)→left ops.size (fun j=>dL.getD j false)≤fuel→
   Inv L0 c0 n (ops.toList.filterMap (·.dst)) (jK ops tx ft (fun j=>dL.getD j false) ops.size) a w→wpAny P .any ops Q fuel dL a w:=by
 intro fuel
 have Dc:∀(dL:Array Bool) a w,dL.size=ops.size→Region.ready .any ops dL=[]→Inv L0 c0 n (ops.toList.filterMap (·.dst)) (jK ops tx ft (fun j=>dL.getD j false) ops.size) a w→Q .normal a w:=by
  intro dL a w hsz JJ hi
  have ky:∀k,k<ops.size→dL.getD k false=true:=by
   intro k
   induction k using Nat.strongRecOn with
   | _ k ih=>
    intro hk
    cases hl:dL.getD k false with
    | true=>rfl
    | false=>
     have:k∈Region.ready .any ops dL:=mem_ready.2 ⟨getD_in (by omega) hl,ops[k],by simp [hk],fun e he hb=>by
      have:=T.back k ops[k] (by simp [hk]) e he hb
      exact ih e.on this (by omega)⟩
     rw [JJ] at this
     cases this
  rw [zI (S:=fun j=>dL.getD j false) T ky _ (Uy _)] at hi
  exact hQ a w hi
 induction fuel with
 | zero=>
  intro dL a w hsz hc hl hi
  have ky:=BD (Nat.le_zero.1 hl)
  have JJ:Region.ready .any ops dL=[]:=by
   rw [List.eq_nil_iff_forall_not_mem]
   intro j hj
   obtain⟨h1,o,ho,_⟩:=mem_ready.1 hj
   have MW:j<ops.size:=(U1.1 ho).1
   have h2:=ky j MW
   have Fv:j<dL.size:=by omega
   simp [Fv] at h1 h2
   rw [h1] at h2; cases h2
  exact⟨JJ,Dc dL a w hsz JJ hi⟩
 | succ fuel ih=>
  intro dL a w hsz hc hl hi
  refine⟨fun JJ=>Dc dL a w hsz JJ hi,fun i FX=>?_⟩
  obtain⟨h1,o,ho,Ku⟩:=mem_ready.1 FX
  have hin:i<ops.size:=(U1.1 ho).1
  have PN:i<dL.size:=by omega
  have Ko:dL.getD i false=false:=by simp [PN] at h1 ⊢; exact h1
  have BC:∀k,(dL.setIfInBounds i true).getD k false=if k=i then true else dL.getD k false:=by
   intro k
   by_cases hk:k=i
   ·subst hk
    rw [if_pos rfl]
    simp [PN]
   ·rw [if_neg hk,getD_set_ne false (Ne.symm hk)]
  have hst:=T.next (S:=fun j=>dL.getD j false) (S':=fun k=>(dL.setIfInBounds i true).getD k false) hc ho Ku Ko BC
  unfold wpOp
  rw [ho]
  simp only
  have Kv:o∈ops.toList:=Vn.2 (Array.mem_of_getElem? ho)
  have:=wg (Q:=Q) (K:=wpAny P .any ops Q fuel (dL.setIfInBounds i true)) hcf hb0 rfl (wi Fq Kv) hst hi (fun a' w' jw=>by
   refine ih _ a' w' (by simpa using hsz) ?_ ?_ jw
   ·intro j oj MX hj e he hb
    dsimp only at hj ⊢
    rw [BC] at hj ⊢
    by_cases hji:j=i
    ·subst hji
     rw [ho] at MX
     cases MX
     have:=Ku e he hb
     rw [this]; simp
    ·rw [if_neg hji] at hj
     have:=hc j oj MX hj e he hb
     simp only at this
     rw [this]; simp
   ·have:=Db hin (S:=fun j=>dL.getD j false) Ko BC
    omega)
  split
  ·rename_i hw; rw [if_pos hw] at this; exact .inl this
  ·rename_i hw; rw [if_neg hw] at this; exact this
theorem tD {opsL:List Oper}:∀(l:List Oper) (s r:RS) (es:List lC),nP P cf aE opsL s l=some (es,r)→∃tx:Nat→RS,tx 0=s∧tx l.length=r∧
  ∀k o,l[k]? = some o→∃w,gJ opsL (tx k).ρ o=some w∧(if w then um P cf aE (opsL.filterMap (·.dst)) (tx k) o=some (tx (k+1)) else tx (k+1)=(tx k).set o.dst (.tup []))∧
   es[k]? = some {o,f:=if w then bc aE (bJ (tx k).ρ) o else {},s:=tx k,s':=tx (k+1)}
 | [],s,r,es,h=>by
  simp only [nP,Uw,UB] at h
  obtain⟨rfl,rfl⟩:=h
  exact⟨fun _=>s,rfl,rfl,fun k o ho=>by simp at ho⟩
 | o::l,s,r,es,h=>by
  simp only [nP,Ut,Uv] at h
  obtain⟨w,hw,s1,h1,⟨pJ,r'⟩,h2,h3⟩:=h
  simp only [UB] at h3
  obtain⟨rfl,rfl⟩:=h3
  obtain⟨tx,t0,tn,ht⟩:=tD l s1 r' pJ h2
  refine⟨fun | 0=>s | k+1=>tx k,rfl,tn,fun k o' ho=>?_⟩
  cases k with
  | zero=>
   simp only [Vc,Uw] at ho
   subst ho
   refine⟨w,hw,?_,?_⟩
   ·cases w with
    | true=>simpa [t0] using h1
    | false=>
     simp only [UE,if_false,Uw] at h1 ⊢
     rw [t0]; exact h1.symm
   ·simp [t0]
  | succ k=>
   obtain⟨w',h4,h5,h6⟩:=ht k o' (by simpa using ho)
   exact⟨w',h4,h5,by simpa using h6⟩
theorem Dd {e:Operand→AV}{o:Oper}(h:(bc aE e o).al=true):(bc aE e o).wb.isSome=true:=by
 unfold bc at h ⊢
 split at h<;>try (cases h; done)
 all_goals (split at h<;>try (cases h; done))
 all_goals (split at h<;>try (cases h; done))
 all_goals simp_all
theorem BE {k:Nat}{x:AV}(h:HI k x=false):∀off,x≠.lp k off:=by
 rintro off rfl
 simp [HI] at h
theorem wz (hm:P.follows .mixedOrders=true)(hcf:CallOK P cf)(RX:SteadyF cf):yv P cf:=by
 intro L0 c0 n aE id ops s s' h hb0 Fq a w Q hi hQ
 unfold ju at h
 dsimp only at h
 split at h
 rotate_left
 ·cases h
 rename_i uP
 rw [Ut] at h
 obtain⟨⟨es,r⟩,yn,h⟩:=h
 simp only at h
 split at h
 rotate_left
 ·cases h
 rename_i wA
 cases h
 obtain⟨tx,t0,tn,ht⟩:=tD ops.toList s s' es yn
 generalize JZ:jf [] ops.toList=ms at uP wA
 have MY:∀k i,(ms.getD i 0).testBit k=true→∃o,ops[i]? = some o∧∃e∈o.after,Region.binds .any e=true∧(e.on=k∨(ms.getD e.on 0).testBit k=true):=by
  intro k i hk
  obtain⟨o,ho,e,he,hb,h1⟩:=(pX ops.toList []).2 i k (by rw [JZ]; exact hk) (by simp)
  refine⟨o,by simpa using ho,e,Vn.1 he,hb,?_⟩
  rw [JZ] at h1
  exact h1
 unfold mF at uP
 simp only [Ux] at uP
 obtain⟨H7,De⟩:=uP
 let ft:Nat→kl:=fun k=>((es[k]?).map (·.f)).getD {}
 have rr:∀k o,ops[k]? = some o→∃w,gJ ops.toList (tx k).ρ o=some w∧(if w then um P cf aE (ops.toList.filterMap (·.dst)) (tx k) o=some (tx (k+1)) else tx (k+1)=(tx k).set o.dst (.tup []))∧
   es[k]? = some {o,f:=ft k,s:=tx k,s':=tx (k+1)}∧ft k=if w then bc aE (bJ (tx k).ρ) o else {}:=by
  intro k o ho
  obtain⟨w,h1,h2,h3⟩:=ht k o (by simpa using ho)
  have JI:ft k=if w then bc aE (bJ (tx k).ρ) o else {}:=by simp only [ft,h3,Uz,Vp]
  exact⟨w,h1,h2,by rw [JI]; exact h3,JI⟩
 have FX:∀k o,ops[k]? = some o→((⟨o,ft k,tx k,tx (k+1)⟩:lC),k)∈es.zipIdx:=by
  intro k o ho
  obtain⟨w,_,_,h3,_⟩:=rr k o ho
  exact List.mk_mem_zipIdx_iff_getElem?.2 h3
 simp only [UN,List.mem_filter,Ux] at wA
 have pL:∀k o,ops[k]? = some o→(ft k).quiet=false→(((⟨o,ft k,tx k,tx (k+1)⟩:lC),k)∈es.zipIdx∧(!(ft k).quiet)=true):=fun k o ho hq=>⟨FX k o ho,by rw [hq]; rfl⟩
 have Bp:∀k,k<ops.size→ops[k]? = some ops[k]!:=fun k hk=>by simp [hk]
 have H8:∀i j x y,ops[i]? = some x→ops[j]? = some y→i≠j→(ft i).quiet=false→(ft j).quiet=false→(ms.getD j 0).testBit i=true∨(ms.getD i 0).testBit j=true∨
   lC.je ⟨x,ft i,tx i,tx (i+1)⟩ ⟨y,ft j,tx j,tx (j+1)⟩=true:=by
  intro i j x y hx hy xQ Hg Fw
  rcases Nat.lt_or_ge i j with hlt | hge
  ·have:=(wA _ (pL i x hx Hg)).2 _ (pL j y hy Fw)
   simp only [Ve,Ux] at this
   rcases this with (h1 | h1) | h1
   ·have:=Nat.le_of_ble_eq_true h1; omega
   ·exact .inl h1
   ·exact .inr (.inr h1.1)
  ·have:=(wA _ (pL j y hy Fw)).2 _ (pL i x hx Hg)
   simp only [Ve,Ux] at this
   rcases this with (h1 | h1) | h1
   ·have:=Nat.le_of_ble_eq_true h1; omega
   ·exact .inr (.inl h1)
   ·exact .inr (.inr h1.2)
 have MZ:∀id,(tx 0).h.ver id<(tx 0).h.next:=by
  obtain⟨_,c,Lo,lam,_,f,_⟩:=hi
  rw [t0,←f.h]; exact f.rel.ver
 have hst:∀k,k<ops.size→Steady (tx k).h (tx (k+1)).h:=by
  intro k hk
  obtain⟨w,h1,h2,_⟩:=rr k _ (Bp k hk)
  cases w with
  | true=>exact rI RX (by simpa [um] using h2)
  | false=>
   simp only [UE,if_false] at h2
   rw [h2,iX]; exact Steady.refl _
 have LZ:∀k,k≤ops.size→∀id,(tx k).h.ver id<(tx k).h.next:=by
  intro k
  induction k with
  | zero=>intro _; exact MZ
  | succ k ih=>intro hk; exact (hst k (by omega)).wf (ih (by omega))
 have T:rJ P cf aE ops tx ft (fun k i=>(ms.getD i 0).testBit k=true):=by
  refine⟨fun k o ho=>?_,MY,fun i o ho e he hb=>?_,fun i j x y xQ hx hy=>?_,fun i j hin MW xQ=>?_,fun i o d ho nK hd=>?_⟩
  ·obtain⟨w,h1,h2,h3,h4⟩:=rr k o ho
   refine⟨w,h1,?_⟩
   cases w with
   | true=>exact⟨h2,h4⟩
   | false=>exact⟨h2,h4⟩
  ·have:=n7 _ 0 H7 i o (by simpa using ho) e (Vn.2 he) hb
   omega
  ·have JK:∀x y:Oper,uo ops x y=true→∀d,x.dst=some d→d∉y.looksAt ops∧y.dst≠some d:=by
    intro x y h d hd
    unfold uo at h
    rw [hd] at h
    simpa using h
   rcases Nat.lt_or_ge i j with hlt | hge
   ·have:=j7 _ _ 0 De i j x y hlt (by simpa using hx) (by simpa using hy)
    simp only [UR,Ve,Ux] at this
    rcases this with h1 | h1
    ·exact .inl h1
    ·exact .inr (.inr (JK _ _ h1.1))
   ·have:=j7 _ _ 0 De j i y x (by omega) (by simpa using hy) (by simpa using hx)
    simp only [UR,Ve,Ux] at this
    rcases this with h1 | h1
    ·exact .inr (.inl h1)
    ·exact .inr (.inr (JK _ _ h1.2))
  ·cases Hg:(ft i).quiet with
   | true=>
    unfold kl.quiet at Hg
    simp only [Ux,Option.isNone_iff_eq_none,VC] at Hg
    exact .inr (.inr ⟨fun k hk=>(by rw [Hg.1.1.2] at hk; cases hk),fun hk=>(by rw [Hg.2] at hk; cases hk)⟩)
   | false=>
    cases Fw:(ft j).quiet with
    | true=>
     unfold kl.quiet at Fw
     simp only [Ux,Option.isNone_iff_eq_none,VC,List.isEmpty_iff] at Fw
     obtain⟨⟨⟨q1,q2⟩,q3⟩,q4⟩:=Fw
     exact .inr (.inr ⟨fun k hk=>⟨by rw [q1]; simp,by rw [q2]; simp⟩,fun hk=>⟨q4,by rw [q3]; simp⟩⟩)
    | false=>
     rcases H8 i j _ _ (Bp i hin) (Bp j MW) xQ Hg Fw with h1 | h1 | h1
     ·exact .inl h1
     ·exact .inr (.inl h1)
     ·refine .inr (.inr ?_)
      unfold lC.je at h1
      simp only [Ux,Ve,VC,UN] at h1
      obtain⟨h2,h3⟩:=h1
      refine⟨fun k hk=>?_,fun hk=>?_⟩
      ·rw [hk] at h2
       simpa using h2
      ·rcases h3 with h3 | h3
       ·rw [hk] at h3; cases h3
       ·refine⟨h3.1,fun id hid=>?_⟩
        have hv:=Vx (h3.2 id hid)
        rcases (hst i hin).keep id with⟨_,h5⟩| h5
        ·exact h5.symm
        ·have:=LZ i (by omega) id; omega
  ·obtain⟨w,h1,h2,h3,h4⟩:=rr i o ho
   have hq:(ft i).quiet=false:=by
    cases w with
    | false=>rw [h4] at nK; cases nK
    | true=>
     rw [h4] at nK ⊢
     have:=Dd nK
     unfold kl.quiet
     simp only [if_true] at this ⊢
     cases hwb:(bc aE (bJ (tx i).ρ) o).wb with
     | none=>rw [hwb] at this; cases this
     | some k=>simp
   have:=(wA _ (pL i o ho hq)).1
   unfold qN at this
   simp only [nK,hd] at this
   simp only [Ux,UN,Ve] at this
   obtain⟨k1,k2⟩:=this
   refine⟨fun t ht G7 off=>?_,fun j y t hy hji=>?_⟩
   ·rw [t0]
    exact oZ k1 t (by rw [List.mem_filter]; exact⟨ht,by simpa [beq_nat] using G7⟩) off
   ·have:=k2 _ (FX j y hy)
    rcases this with (h5 | h5) | h5
    ·have:=Vx h5; omega
    ·exact .inl h5
    ·right
     intro H4 off
     simp only [lC.out,H4,VC] at h5
     exact BE h5 off
 have hlen:tx ops.size=s':=by simpa using tn
 refine wp_region_any hm ?_
 refine H6 T hcf hb0 Fq (fun a' w' jw=>hQ a' w' (by rw [hlen] at jw; exact jw)) ops.size _ _ _ (by simp) ?_ ?_ ?_
 ·intro j o _ hj
  simp only [getD_replicate_false] at hj
  cases hj
 ·unfold left
  exact Vj (List.countP_le_length) (by simp)
 ·have CZ:∀k,jK ops tx ft (fun j=>(Array.replicate ops.size false).getD j false) k=tx 0:=by
   intro k
   induction k with
   | zero=>rfl
   | succ k ih=>
    rw [jK,getD_replicate_false,if_neg (by simp)]
    exact ih
  rw [CZ,t0]
  exact hi.drew
end
end Go.R
namespace Go.R
open Go
section
variable {c d:Cx}{L L':Nat→Prop}
mutual
theorem zJ (hw:d.w=c.w)(hbs:d.base≤c.base)(kK:∀b,RO c L b→RO d L' b):∀(x:AV) (v:Value),x.dO=true→VR c L x v→VR d L' x v
 | .any,_,h,_=>by simp [AV.dO] at h
 | .bool _,_,_,h=>h
 | .int _ _,_,_,h=>h
 | .str _,_,_,h=>h
 | .nl,_,_,h=>h
 | .ptr _ _,_,h,_=>by simp [AV.dO] at h
 | .lp _ _,_,h,_=>by simp [AV.dO] at h
 | .fp cs off,v,h,hv=>by
  simp only [AV.dO] at h
  simp only [VR] at hv ⊢
  obtain⟨b,o,rfl,hc⟩:=hv
  exact⟨b,o,rfl,hc.imp id fun ⟨hr,hc⟩=>⟨kK b hr,nw hw hbs kK cs b o h hc⟩⟩
 | .nils,_,_,h=>h
 | .fz cs n ex,v,h,hv=>by
  simp only [AV.dO] at h
  simp only [VR] at hv ⊢
  obtain⟨a,cap,rfl,h1,h2,hs,hc⟩:=hv
  exact⟨a,cap,rfl,h1,h2,hs,hc.imp id fun ⟨b,o,ha,hr,hex,hc⟩=>⟨b,o,ha,kK b hr,fun h=>Vj hbs (hex h),nw hw hbs kK cs b o h hc⟩⟩
 | .rs _ _ _ _,_,h,_=>by simp [AV.dO] at h
 | .lB,_,_,h=>h
 | .mp _,_,h,_=>by simp [AV.dO] at h
 | .fn f cap,v,h,hv=>by
  simp only [AV.dO] at h
  simp only [VR] at hv ⊢
  obtain⟨vs,rfl,h1⟩:=hv
  exact⟨vs,rfl,oc hw hbs kK cap vs.toList h h1⟩
 | .nM,_,_,h=>h
 | .agg cs,v,h,hv=>by
  simp only [AV.dO] at h
  simp only [VR] at hv ⊢
  obtain⟨vs,rfl,h1⟩:=hv
  exact⟨vs,rfl,oc hw hbs kK cs vs.toList h h1⟩
 | .tup cs,v,h,hv=>by
  simp only [AV.dO] at h
  simp only [VR] at hv ⊢
  obtain⟨vs,rfl,h1⟩:=hv
  exact⟨vs,rfl,oc hw hbs kK cs vs.toList h h1⟩
theorem oc (hw:d.w=c.w)(hbs:d.base≤c.base)(kK:∀b,RO c L b→RO d L' b):∀(xs:List AV) (vs:List Value),cC xs=true→VRs c L xs vs→VRs d L' xs vs
 | [],[],_,_=>trivial
 | x::xs,v::vs,h,hv=>by
  simp only [cC,Ux] at h
  exact⟨zJ hw hbs kK x v h.1 hv.1,oc hw hbs kK xs vs h.2 hv.2⟩
 | [],_::_,_,h=>h.elim
 | _::_,[],_,h=>h.elim
theorem nw (hw:d.w=c.w)(hbs:d.base≤c.base)(kK:∀b,RO c L b→RO d L' b):∀(xs:List AV) (b o:Nat),cC xs=true→Cells c L xs b o→Cells d L' xs b o
 | [],_,_,_,_=>trivial
 | x::xs,b,o,h,hv=>by
  simp only [cC,Ux] at h
  obtain⟨⟨v,h1,h2,h3⟩,h4⟩:=hv
  exact⟨⟨v,by rw [hw]; exact h1,h2,zJ hw hbs kK x v h.1 h3⟩,nw hw hbs kK xs b (o+1) h.2 h4⟩
end
mutual
theorem uQ (hw:d.w=c.w)(kK:∀b,RO c L b→RO d L' b):∀(x:AV) (v:Value),x.dO=true→VR c L x v→VR d L' x.jd v
 | .any,_,h,_=>by simp [AV.dO] at h
 | .bool _,_,_,h=>h
 | .int _ _,_,_,h=>h
 | .str _,_,_,h=>h
 | .nl,_,_,h=>h
 | .ptr _ _,_,h,_=>by simp [AV.dO] at h
 | .lp _ _,_,h,_=>by simp [AV.dO] at h
 | .fp cs off,v,h,hv=>by
  simp only [AV.dO] at h
  simp only [VR,AV.jd] at hv ⊢
  obtain⟨b,o,rfl,hc⟩:=hv
  refine⟨b,o,rfl,?_⟩
  rcases hc with rfl | ⟨hr,hc⟩
  ·exact .inl rfl
  ·exact .inr ⟨kK b hr,pf hw kK cs b o h hc⟩
 | .nils,v,_,h=>by
  simp only [VR] at h
  simp only [AV.jd,VR]
  exact⟨none,0,h,Uy _,by simp,.inr ⟨trivial,rfl⟩,.inl trivial⟩
 | .fz cs n ex,v,h,hv=>by
  simp only [AV.dO] at h
  simp only [VR,AV.jd] at hv ⊢
  obtain⟨a,cap,rfl,h1,h2,hs,hc⟩:=hv
  refine⟨a,cap,rfl,h1,by simp,hs.imp id fun h=>⟨by rw [h.1]; rfl,h.2⟩,?_⟩
  rcases hc with rfl | ⟨b,o,ha,hr,hex,hc⟩
  ·exact .inl rfl
  ·exact .inr ⟨b,o,ha,kK b hr,by simp,pf hw kK cs b o h hc⟩
 | .rs _ _ _ _,_,h,_=>by simp [AV.dO] at h
 | .lB,_,_,h=>h
 | .mp _,_,h,_=>by simp [AV.dO] at h
 | .fn f cap,v,h,hv=>by
  simp only [AV.dO] at h
  simp only [VR,AV.jd] at hv ⊢
  obtain⟨vs,rfl,h1⟩:=hv
  exact⟨vs,rfl,od hw kK cap vs.toList h h1⟩
 | .nM,_,_,h=>h
 | .agg cs,v,h,hv=>by
  simp only [AV.dO] at h
  simp only [VR,AV.jd] at hv ⊢
  obtain⟨vs,rfl,h1⟩:=hv
  exact⟨vs,rfl,od hw kK cs vs.toList h h1⟩
 | .tup cs,v,h,hv=>by
  simp only [AV.dO] at h
  simp only [VR,AV.jd] at hv ⊢
  obtain⟨vs,rfl,h1⟩:=hv
  exact⟨vs,rfl,od hw kK cs vs.toList h h1⟩
theorem od (hw:d.w=c.w)(kK:∀b,RO c L b→RO d L' b):∀(xs:List AV) (vs:List Value),cC xs=true→VRs c L xs vs→VRs d L' (dk xs) vs
 | [],[],_,_=>trivial
 | x::xs,v::vs,h,hv=>by
  simp only [cC,Ux] at h
  exact⟨uQ hw kK x v h.1 hv.1,od hw kK xs vs h.2 hv.2⟩
 | [],_::_,_,h=>h.elim
 | _::_,[],_,h=>h.elim
theorem pf (hw:d.w=c.w)(kK:∀b,RO c L b→RO d L' b):∀(xs:List AV) (b o:Nat),cC xs=true→Cells c L xs b o→Cells d L' (dk xs) b o
 | [],_,_,_,_=>trivial
 | x::xs,b,o,h,hv=>by
  simp only [cC,Ux] at h
  obtain⟨⟨v,h1,h2,h3⟩,h4⟩:=hv
  exact⟨⟨v,by rw [hw]; exact h1,h2,uQ hw kK x v h.1 h3⟩,pf hw kK xs b (o+1) h.2 h4⟩
end
mutual
theorem pg (hw:d.w=c.w)(kK:∀b,RO c L b→RO d L' b)(hrel:HRel c L)(hid:∀id,Live c.h id→RO d L' (c.β id).1):∀(n:Nat) (x y:AV) (v:Value),b9 c.h n x=some y→VR c L x v→VR d L' y v
 | 0,x,y,v,h,_=>by simp [b9] at h
 | n+1,x,y,v,h,hv=>by
  have M0:(if x.dO then some x.jd else none)=some y→VR d L' y v:=by
   intro h
   split at h
   ·rename_i hn; cases h; exact uQ hw kK x v hn hv
   ·cases h
  cases x with
  | ptr id off=>
   simp only [b9,Ut] at h
   obtain⟨ob,ho,h⟩:=h
   cases ob with
   | map es=>cases h
   | row t cs=>cases h
   | cells cs=>
    simp only [Uv] at h
    obtain⟨eQ,hcs,rfl⟩:=h
    have hl:Live c.h id:=⟨hrel.lt _ _ ho,by simp [ho]⟩
    obtain⟨m,_,_,hc⟩:=hrel.obj _ _ ho
    simp only [VR] at hv ⊢
    obtain⟨_,a,rfl,ha⟩:=hv
    rw [ha hl]
    exact⟨_,_,rfl,.inr ⟨hid id hl,jD hw kK hrel hid n cs eQ _ _ hcs hc⟩⟩
  | rs id off len ib=>
   simp only [b9] at h
   split at h
   ·rename_i hid
    split at h
    rotate_left
    ·cases h
    rename_i hl0
    cases h
    simp only [VR] at hv ⊢
    rcases hv with⟨_,_,_,a,rfl⟩| hv
    ·exact⟨a,0,rfl,Uy _,by simp,.inr ⟨trivial,rfl⟩,.inl trivial⟩
    ·exact absurd hid hv.1
   rename_i jL
   rw [Ut] at h
   obtain⟨ob,ho,h⟩:=h
   cases ob with
   | map es=>cases h
   | row t cs=>cases h
   | cells cs=>
    simp only at h
    split at h
    rotate_left
    ·cases h
    rename_i hle
    simp only [Uv] at h
    obtain⟨eQ,hcs,rfl⟩:=h
    have hl:Live c.h id:=⟨hrel.lt _ _ ho,by simp [ho]⟩
    obtain⟨m,_,_,hc⟩:=hrel.obj _ _ ho
    simp only [VR] at hv ⊢
    rcases hv with hv | ⟨_,_,a,cap,rfl,h1,h2,h3⟩
    ·exact absurd hv.1 jL
    refine⟨a,cap,rfl,h1,by simp,.inl h2,?_⟩
    rcases h3 hl with⟨h4,_⟩| h4
    ·exact .inr ⟨_,_,h4,hid id hl,by simp,jD hw kK hrel hid n _ eQ _ _ hcs ((hc.drop off).take (len*ib))⟩
    ·left
     have hz:len=0:=by omega
     subst hz
     rw [Nat.zero_mul,List.take_zero] at hcs
     cases n with
     | zero=>simp [bq] at hcs
     | succ n=>simp only [bq,Uw] at hcs; exact hcs.symm
  | agg cs=>
   simp only [b9,Uv] at h
   obtain⟨eQ,hcs,rfl⟩:=h
   simp only [VR] at hv ⊢
   obtain⟨vs,rfl,h1⟩:=hv
   exact⟨vs,rfl,ij hw kK hrel hid n cs eQ vs.toList hcs h1⟩
  | tup cs=>
   simp only [b9,Uv] at h
   obtain⟨eQ,hcs,rfl⟩:=h
   simp only [VR] at hv ⊢
   obtain⟨vs,rfl,h1⟩:=hv
   exact⟨vs,rfl,ij hw kK hrel hid n cs eQ vs.toList hcs h1⟩
  | fn f cs=>
   simp only [b9,Uv] at h
   obtain⟨eQ,hcs,rfl⟩:=h
   simp only [VR] at hv ⊢
   obtain⟨vs,rfl,h1⟩:=hv
   exact⟨vs,rfl,ij hw kK hrel hid n cs eQ vs.toList hcs h1⟩
  | _=>exact M0 (by simpa only [b9] using h)
theorem ij (hw:d.w=c.w)(kK:∀b,RO c L b→RO d L' b)(hrel:HRel c L)(hid:∀id,Live c.h id→RO d L' (c.β id).1):∀(n:Nat) (xs ys:List AV) (vs:List Value),bq c.h n xs=some ys→VRs c L xs vs→VRs d L' ys vs
 | 0,xs,ys,vs,h,_=>by simp [bq] at h
 | n+1,[],ys,vs,h,hv=>by
  simp only [bq,Uw] at h
  subst h
  cases vs with
  | nil=>trivial
  | cons v vs=>exact hv.elim
 | n+1,x::xs,ys,vs,h,hv=>by
  simp only [bq,Ut,Uv] at h
  obtain⟨y,hy,zs,hz,rfl⟩:=h
  cases vs with
  | nil=>exact hv.elim
  | cons v vs=>exact⟨pg hw kK hrel hid n x y v hy hv.1,ij hw kK hrel hid n xs zs vs hz hv.2⟩
theorem jD (hw:d.w=c.w)(kK:∀b,RO c L b→RO d L' b)(hrel:HRel c L)(hid:∀id,Live c.h id→RO d L' (c.β id).1):∀(n:Nat) (xs ys:List AV) (b o:Nat),bq c.h n xs=some ys→Cells c L xs b o→Cells d L' ys b o
 | 0,xs,ys,b,o,h,_=>by simp [bq] at h
 | n+1,[],ys,b,o,h,hv=>by
  simp only [bq,Uw] at h
  subst h
  trivial
 | n+1,x::xs,ys,b,o,h,hv=>by
  simp only [bq,Ut,Uv] at h
  obtain⟨y,hy,zs,hz,rfl⟩:=h
  obtain⟨⟨v,h1,h2,h3⟩,h4⟩:=hv
  exact⟨⟨v,by rw [hw]; exact h1,h2,pg hw kK hrel hid n x y v hy h3⟩,jD hw kK hrel hid n xs zs b (o+1) hz h4⟩
end
mutual
theorem ny (hw:d.w=c.w)(hrel:HRel c L)(hid:∀id,Live c.h id→RO d L' (c.β id).1):∀(n:Nat) (x y:AV) (v:Value),fM c.h n x=some y→VR c L x v→VR d L' y v
 | 0,x,y,v,h,_=>by simp [fM] at h
 | n+1,x,y,v,h,hv=>by
  unfold fM at h
  split at h
  ·cases h; exact hv
  ·cases h; exact hv
  ·cases h; exact hv
  ·cases h; exact hv
  ·cases h; exact hv
  ·cases h; exact hv
  ·cases h
   simp only [VR] at hv ⊢
   exact⟨none,0,hv,Uy _,by simp,.inr ⟨trivial,rfl⟩,.inl trivial⟩
  ·cases h
   simp only [VR] at hv ⊢
   obtain⟨a,cap,rfl,h1,h2,hs,_⟩:=hv
   exact⟨a,cap,rfl,h1,by simp,hs,.inl trivial⟩
  ·rename_i id off len ib
   split at h
   ·rename_i jL
    split at h
    rotate_left
    ·cases h
    rename_i hl0
    cases h
    simp only [VR] at hv ⊢
    rcases hv with⟨_,_,_,a,rfl⟩| hv
    ·exact⟨a,0,rfl,Uy _,by simp,.inr ⟨trivial,rfl⟩,.inl trivial⟩
    ·exact absurd jL hv.1
   rename_i jL
   rw [Ut] at h
   obtain⟨ob,ho,h⟩:=h
   cases ob with
   | map es=>cases h
   | row t cs=>cases h
   | cells cs=>
    simp only at h
    split at h
    rotate_left
    ·cases h
    rename_i hle
    simp only [Uv] at h
    obtain⟨eQ,hcs,rfl⟩:=h
    have hl:Live c.h id:=⟨hrel.lt _ _ ho,by simp [ho]⟩
    obtain⟨m,_,_,hc⟩:=hrel.obj _ _ ho
    simp only [VR] at hv ⊢
    rcases hv with hv | ⟨_,_,a,cap,rfl,h1,h2,h3⟩
    ·exact absurd hv.1 jL
    refine⟨a,cap,rfl,h1,by simp,.inl h2,?_⟩
    rcases h3 hl with⟨h4,_⟩| h4
    ·exact .inr ⟨_,_,h4,hid id hl,by simp,lu hw hrel hid n _ eQ _ _ hcs ((hc.drop off).take (len*ib))⟩
    ·left
     have hz:len=0:=by omega
     subst hz
     rw [Nat.zero_mul,List.take_zero] at hcs
     cases n with
     | zero=>simp [db] at hcs
     | succ n=>simp only [db,Uw] at hcs; exact hcs.symm
  ·rename_i cs
   simp only [Uv] at h
   obtain⟨eQ,hcs,rfl⟩:=h
   simp only [VR] at hv ⊢
   obtain⟨vs,rfl,h1⟩:=hv
   exact⟨vs,rfl,l7 hw hrel hid n cs eQ vs.toList hcs h1⟩
  ·rename_i cs
   simp only [Uv] at h
   obtain⟨eQ,hcs,rfl⟩:=h
   simp only [VR] at hv ⊢
   obtain⟨vs,rfl,h1⟩:=hv
   exact⟨vs,rfl,l7 hw hrel hid n cs eQ vs.toList hcs h1⟩
  ·cases h
theorem l7 (hw:d.w=c.w)(hrel:HRel c L)(hid:∀id,Live c.h id→RO d L' (c.β id).1):∀(n:Nat) (xs ys:List AV) (vs:List Value),db c.h n xs=some ys→VRs c L xs vs→VRs d L' ys vs
 | 0,xs,ys,vs,h,_=>by simp [db] at h
 | n+1,[],ys,vs,h,hv=>by
  simp only [db,Uw] at h
  subst h
  cases vs with
  | nil=>trivial
  | cons v vs=>exact hv.elim
 | n+1,x::xs,ys,vs,h,hv=>by
  simp only [db,Ut,Uv] at h
  obtain⟨y,hy,zs,hz,rfl⟩:=h
  cases vs with
  | nil=>exact hv.elim
  | cons v vs=>exact⟨ny hw hrel hid n x y v hy hv.1,l7 hw hrel hid n xs zs vs hz hv.2⟩
theorem lu (hw:d.w=c.w)(hrel:HRel c L)(hid:∀id,Live c.h id→RO d L' (c.β id).1):∀(n:Nat) (xs ys:List AV) (b o:Nat),db c.h n xs=some ys→Cells c L xs b o→Cells d L' ys b o
 | 0,xs,ys,b,o,h,_=>by simp [db] at h
 | n+1,[],ys,b,o,h,hv=>by
  simp only [db,Uw] at h
  subst h
  trivial
 | n+1,x::xs,ys,b,o,h,hv=>by
  simp only [db,Ut,Uv] at h
  obtain⟨y,hy,zs,hz,rfl⟩:=h
  obtain⟨⟨v,h1,h2,h3⟩,h4⟩:=hv
  exact⟨⟨v,by rw [hw]; exact h1,h2,ny hw hrel hid n x y v hy h3⟩,lu hw hrel hid n xs zs b (o+1) hz h4⟩
end
end
section
variable {P:Program}
theorem FY {cf:CallF}(hcf:CallOK P cf)(deep:Nat):CallOK P fun f args h=>if cC args then (cf f (dk args) bu).bind fun x=>(b9 x.2 deep x.1).map fun r=>(r,h) else cf f args h:=by
 intro f args h r h' hc
 dsimp only at hc
 split at hc
 rotate_left
 ·exact hcf f args h r h' hc
 rename_i vE
 rw [Ut] at hc
 obtain⟨⟨x,h1⟩,hx,hc⟩:=hc
 rw [Uv] at hc
 obtain⟨r',hr,he⟩:=hc
 simp only [UB] at he
 obtain⟨rfl,rfl⟩:=he
 obtain⟨hin,hcall⟩:=hcf f (dk args) bu x h1 hx
 refine⟨hin,fun L0 c vs hh hb0 hrel hargs=>?_⟩
 let L1:Nat→Prop:=fun b=>L0 b∨∃id,Live c.h id∧(c.β id).1=b
 let c0:Cx:=⟨fun _=>(0,0),bu,c.w,c.w.heap.size⟩
 have hnl:∀id,¬Live c0.h id:=fun id hl=>by have:=hl.2; cases this
 have Df:∀b,RO c L0 b→RO c0 L1 b:=fun b hb=>⟨fun id hl=>absurd hl (hnl id),fun h=>by
  rcases h with h | ⟨id,h1,h2⟩
  ·exact hb.2 h
  ·exact hb.1 id h1 h2⟩
 have rL:HRel c0 L1:=⟨fun id o ho=>(by cases ho),fun id o ho=>(by cases ho),fun id _ hl _ _=>absurd hl (hnl id),fun id hl=>absurd hl (hnl id),fun b hb=>by
  rcases hb with h | ⟨id,h1,h2⟩
  ·exact hrel.bd b h
  ·rw [←h2]; exact hrel.block h1,fun id hl=>absurd hl (hnl id),fun _=>VS⟩
 refine (hcall L1 c0 vs rfl (Uy _) rL (od (c:=c) (d:=c0) rfl Df _ _ vE hargs)).mono ?_
 rintro e w' ⟨c1,v,rfl,rfl,JL,hv,hrel1,e1⟩
 let d:Cx:=⟨c.β,c.h,c1.w,c.base⟩
 have hk:∀b,b<c.w.heap.size→c1.w.heap[b]? = c.w.heap[b]?:=fun b hb=>e1.exact b hb
 have ed:Ext c none0 d none0:=⟨Uy _,fun id _ hl=>⟨hl,rfl,gS.len (c:=c) (c':=d) (.inl (hk _ (hrel.block hl)))⟩,e1.size,fun b hb _ _=>.inl (hk b hb),fun b hb=>hk b (US hb hb0),rfl,fun id hl=>.inr ⟨id,hl,rfl⟩,fun _ h=>h,fun _ h=>.inl h,e1.os,e1.tape,e1.output⟩
 have hb1:d.base≤c1.base:=by rw [e1.base]; exact hb0
 have M3:∀b,RO c1 L1 b→RO d L0 b:=fun b hb=>⟨fun id hl he=>hb.2 (.inr ⟨id,hl,he⟩),fun h=>hb.2 (.inl h)⟩
 refine⟨d,v,rfl,rfl,hh,?_,⟨hrel.lt,fun id o ho=>?_,hrel.inj,hrel.out,fun b hb=>US (hrel.bd b hb) e1.size,hrel.low,hrel.ver⟩,ed⟩
 ·refine pg (c:=c1) (d:=d) (L:=L1) rfl M3 hrel1 (fun id hl=>⟨fun j5 nH he=>hrel1.out id hl (.inr ⟨j5,nH,he⟩),fun h=>hrel1.out id hl (.inl h)⟩) deep x r' v ?_ hv
  rw [JL]; exact hr
 ·have hl:Live c.h id:=⟨hrel.lt _ _ ho,by rw [ho]; rfl⟩
  have:=(hrel.obj id o ho)
  have h2:=nQ.ext (L0:=L0) ed (b:=(c.β id).1) (base:=(c.β id).2) (o:=o) (by rw [gV]; exact this) (hk _ (hrel.block hl))
  rw [gV] at h2
  exact h2
theorem oe {c:Cx}{L:Nat→Prop}:∀{xs:List AV} {vs:List Value},VRs c L xs vs→VRs c L (xs.map aK) vs
 | [],[],_=>trivial
 | x::_,_::_,h=>⟨by
   unfold aK
   cases hn:x.dO with
   | false=>exact h.1
   | true=>exact uQ rfl (fun _ h=>h) x _ hn h.1,oe h.2⟩
 | [],_::_,h=>h.elim
 | _::_,[],h=>h.elim
theorem wB {cf:CallF}(hcf:CallOK P cf):CallOK P fun f args h=>cf f (args.map aK) h:=by
 intro f args h r h' hc
 obtain⟨h1,h2⟩:=hcf f _ h r h' hc
 exact⟨h1,fun L0 c vs hh hb0 hrel hargs=>h2 L0 c vs hh hb0 hrel (oe hargs)⟩
theorem FZ {cf:CallF}(hcf:CallOK P cf)(deep:Nat):CallOK P fun f args h=>(bq h deep args).bind fun as=>(cf f as bu).bind fun x=>(fM x.2 deep x.1).map fun r=>(r,h):=by
 intro f args h r h' hc
 dsimp only at hc
 simp only [Ut,Uv,UB] at hc
 obtain⟨as,has,⟨x,h1⟩,hx,r',hr,rfl,rfl⟩:=hc
 obtain⟨hin,hcall⟩:=hcf f as bu x h1 hx
 refine⟨hin,fun L0 c vs hh hb0 hrel hargs=>?_⟩
 let c0:Cx:=⟨fun _=>(0,0),bu,c.w,c.w.heap.size⟩
 have hnl:∀id,¬Live c0.h id:=fun id hl=>by have:=hl.2; cases this
 have Df:∀b,RO c L0 b→RO c0 L0 b:=fun b hb=>⟨fun id hl=>absurd hl (hnl id),hb.2⟩
 have rL:HRel c0 L0:=⟨fun id o ho=>(by cases ho),fun id o ho=>(by cases ho),fun id _ hl _ _=>absurd hl (hnl id),fun id hl=>absurd hl (hnl id),hrel.bd,fun id hl=>absurd hl (hnl id),fun _=>VS⟩
 have rM:VRs c0 L0 as vs:=ij (c:=c) (d:=c0) rfl Df hrel (fun id hl=>⟨fun j5 nH=>absurd nH (hnl j5),hrel.out id hl⟩) deep args as vs (by rw [hh]; exact has) hargs
 refine (hcall L0 c0 vs rfl (Uy _) rL rM).mono ?_
 rintro e w' ⟨c1,v,rfl,rfl,JL,hv,hrel1,e1⟩
 let d:Cx:=⟨c.β,c.h,c1.w,c.base⟩
 have hk:∀b,b<c.w.heap.size→c1.w.heap[b]? = c.w.heap[b]?:=fun b hb=>e1.exact b hb
 have ed:Ext c none0 d none0:=⟨Uy _,fun id _ hl=>⟨hl,rfl,gS.len (c:=c) (c':=d) (.inl (hk _ (hrel.block hl)))⟩,e1.size,fun b hb _ _=>.inl (hk b hb),fun b hb=>hk b (US hb hb0),rfl,fun id hl=>.inr ⟨id,hl,rfl⟩,fun _ h=>h,fun _ h=>.inl h,e1.os,e1.tape,e1.output⟩
 refine⟨d,v,rfl,rfl,hh,?_,⟨hrel.lt,fun id o ho=>?_,hrel.inj,hrel.out,fun b hb=>US (hrel.bd b hb) e1.size,hrel.low,hrel.ver⟩,ed⟩
 ·refine ny (c:=c1) (d:=d) (L:=L0) rfl hrel1 (fun id hl=>⟨fun j5 nH he=>?_,hrel1.out id hl⟩) deep x r' v ?_ hv
  ·rcases e1.FG id hl with h2 | ⟨oT,h2,_⟩
   ·have:=hrel.block nH
    have h3:(c.β j5).1=(c1.β id).1:=he
    have h4:c.w.heap.size≤(c1.β id).1:=h2
    omega
   ·exact absurd h2 (hnl oT)
  ·rw [JL]; exact hr
 ·have hl:Live c.h id:=⟨hrel.lt _ _ ho,by rw [ho]; rfl⟩
  have:=(hrel.obj id o ho)
  have h2:=nQ.ext (L0:=L0) ed (b:=(c.β id).1) (base:=(c.β id).2) (o:=o) (by rw [gV]; exact this) (hk _ (hrel.block hl))
  rw [gV] at h2
  exact h2
section
variable {c1 d:Cx}{L1:Nat→Prop}{k:Nat}
mutual
theorem rN (hw:d.w=c1.w)(hn:∀id,id<c1.h.next→id+k<d.h.next)(hl:∀id,Live d.h (id+k)→Live c1.h id∧d.β (id+k)=c1.β id):∀(x y:AV) (v:Value),cM k x=some y→VR c1 L1 x v→VR d L1 y v
 | .any,_,_,h,_=>by simp [cM] at h
 | .bool _,_,_,h,hv=>by simp only [cM,Uw] at h; subst h; exact hv
 | .int _ _,_,_,h,hv=>by simp only [cM,Uw] at h; subst h; exact hv
 | .str _,_,_,h,hv=>by simp only [cM,Uw] at h; subst h; exact hv
 | .nl,_,_,h,hv=>by simp only [cM,Uw] at h; subst h; exact hv
 | .lB,_,_,h,hv=>by simp only [cM,Uw] at h; subst h; exact hv
 | .nM,_,_,h,hv=>by simp only [cM,Uw] at h; subst h; exact hv
 | .nils,_,_,h,hv=>by simp only [cM,Uw] at h; subst h; exact hv
 | .ptr id off,_,_,h,hv=>by
  simp only [cM,Uw] at h
  subst h
  simp only [VR] at hv ⊢
  obtain⟨h1,a,rfl,h2⟩:=hv
  refine⟨hn _ h1,a,rfl,fun ls=>?_⟩
  obtain⟨g1,g2⟩:=hl _ ls
  rw [g2]; exact h2 g1
 | .lp _ _,_,_,h,_=>by simp [cM] at h
 | .fp _ _,_,_,h,_=>by simp [cM] at h
 | .fz _ _ _,_,_,h,_=>by simp [cM] at h
 | .rs id off len z,y,v,h,hv=>by
  simp only [cM] at h
  split at h
  ·rename_i h0
   cases h
   subst h0
   simp only [VR] at hv ⊢
   rcases hv with⟨_,h2,h3,h4⟩| h1
   ·exact .inl ⟨trivial,h2,h3,h4⟩
   ·exact absurd rfl h1.1
  ·rename_i h0
   cases h
   simp only [VR] at hv ⊢
   rcases hv with h1 | ⟨_,h1,a,cap,rfl,h2,h3,h4⟩
   ·exact absurd h1.1 h0
   refine .inr ⟨by omega,hn _ h1,a,cap,rfl,h2,h3,fun ls=>?_⟩
   obtain⟨g1,g2⟩:=hl _ ls
   have:=h4 g1
   rw [g2]
   unfold Cx.len at this ⊢
   rw [hw]; exact this
 | .mp _,_,_,h,_=>by simp [cM] at h
 | .fn _ _,_,_,h,_=>by simp [cM] at h
 | .agg cs,_,v,h,hv=>by
  simp only [cM,Uv] at h
  obtain⟨ys,h1,rfl⟩:=h
  simp only [VR] at hv ⊢
  obtain⟨vs,rfl,h2⟩:=hv
  exact⟨vs,rfl,ph hw hn hl cs ys vs.toList h1 h2⟩
 | .tup cs,_,v,h,hv=>by
  simp only [cM,Uv] at h
  obtain⟨ys,h1,rfl⟩:=h
  simp only [VR] at hv ⊢
  obtain⟨vs,rfl,h2⟩:=hv
  exact⟨vs,rfl,ph hw hn hl cs ys vs.toList h1 h2⟩
theorem ph (hw:d.w=c1.w)(hn:∀id,id<c1.h.next→id+k<d.h.next)(hl:∀id,Live d.h (id+k)→Live c1.h id∧d.β (id+k)=c1.β id):∀(xs ys:List AV) (vs:List Value),cd k xs=some ys→VRs c1 L1 xs vs→VRs d L1 ys vs
 | [],ys,[],h,_=>by simp only [cd,Uw] at h; subst h; trivial
 | x::xs,ys,v::vs,h,hv=>by
  simp only [cd,Ut,Uv] at h
  obtain⟨y,h1,RY,h2,rfl⟩:=h
  exact⟨rN hw hn hl x y v h1 hv.1,ph hw hn hl xs RY vs h2 hv.2⟩
 | [],_,_::_,_,h=>h.elim
 | _::_,_,[],_,h=>h.elim
end
theorem pY (hw:d.w=c1.w)(hn:∀id,id<c1.h.next→id+k<d.h.next)(hl:∀id,Live d.h (id+k)→Live c1.h id∧d.β (id+k)=c1.β id):∀(xs:List AV) (b o:Nat),Cells c1 L1 xs b o→Cells d L1 (fm k xs) b o
 | [],_,_,_=>trivial
 | x::xs,b,o,h=>by
  obtain⟨⟨v,h1,h2,h3⟩,h4⟩:=h
  unfold fm
  cases hx:cM k x with
  | none=>trivial
  | some y=>exact⟨⟨v,by rw [hw]; exact h1,h2,rN hw hn hl x y v hx h3⟩,pY hw hn hl xs b (o+1) h4⟩
end
theorem rO (k:Nat):∀xs:List AV,(fm k xs).length≤xs.length
 | []=>Uy _
 | x::xs=>by
  unfold fm
  cases cM k x with
  | none=>exact Vl _
  | some y=>exact Nat.succ_le_succ (rO k xs)
theorem iZ {h h1:AHeap}{i:Nat}(hi:i<h.next):(h.eu h1).get i=h.get i∧(h.eu h1).ver i=h.ver i:=by
 have:Nat.blt i h.next=true:=by rw [Nat.blt_eq]; exact hi
 simp only [AHeap.eu,this,cond_true,and_self]
theorem jE {h h1:AHeap}{i:Nat}(hi:h.next≤i):(h.eu h1).get i=(h1.get (i - h.next)).bind (yg h.next)∧(h.eu h1).ver i=h.next+h1.ver (i - h.next):=by
 have:Nat.blt i h.next=false:=by
  cases hb:Nat.blt i h.next with
  | false=>rfl
  | true=>rw [Nat.blt_eq] at hb; omega
 simp only [AHeap.eu,this,cond_false,and_self]
theorem Steady.eu {h h1:AHeap}(hw:∀id,h1.ver id<h1.next):Steady h (h.eu h1):=by
 refine⟨Nat.le_add_right _ _,fun i=>?_,fun hv i=>?_⟩
 ·by_cases hi:i<h.next
  ·exact .inl ⟨(iZ hi).2,(iZ hi).1⟩
  ·right; rw [(jE (UY hi)).2]; exact Nat.le_add_right _ _
 ·show _<h.next+h1.next
  by_cases hi:i<h.next
  ·rw [(iZ hi).2]; have:=hv i; omega
  ·rw [(jE (UY hi)).2]; have:=hw (i - h.next); omega
theorem Dg {cf:CallF}(hcf:CallOK P cf)(deep:Nat):CallOK P fun f args h=>(bq h deep args).bind fun us=>(cf f us bu).bind fun x=>(cM h.next x.1).map fun r=>(r,h.eu x.2):=by
 intro f args h r h' hc
 dsimp only at hc
 simp only [Ut,Uv,UB] at hc
 obtain⟨us,has,⟨x,h1⟩,hx,r',hr,rfl,rfl⟩:=hc
 obtain⟨hin,hcall⟩:=hcf f us bu x h1 hx
 refine⟨hin,fun L0 c vs hh hb0 hrel hargs=>?_⟩
 let c0:Cx:=⟨fun _=>(0,0),bu,c.w,c.w.heap.size⟩
 have hnl:∀id,¬Live c0.h id:=fun id hl=>by have:=hl.2; cases this
 have Df:∀b,RO c L0 b→RO c0 L0 b:=fun b hb=>⟨fun id hl=>absurd hl (hnl id),hb.2⟩
 have rL:HRel c0 L0:=⟨fun id o ho=>(by cases ho),fun id o ho=>(by cases ho),fun id _ hl _ _=>absurd hl (hnl id),fun id hl=>absurd hl (hnl id),hrel.bd,fun id hl=>absurd hl (hnl id),fun _=>VS⟩
 have rM:VRs c0 L0 us vs:=ij (c:=c) (d:=c0) rfl Df hrel (fun id hl=>⟨fun j5 nH=>absurd nH (hnl j5),hrel.out id hl⟩) deep args us vs (by rw [hh]; exact has) hargs
 refine (hcall L0 c0 vs rfl (Uy _) rL rM).mono ?_
 rintro e w' ⟨c1,v,rfl,rfl,JL,hv,hrel1,e1⟩
 let d:Cx:=⟨fun i=>if i<c.h.next then c.β i else c1.β (i - c.h.next),c.h.eu c1.h,c1.w,c.base⟩
 have hk:∀b,b<c.w.heap.size→c1.w.heap[b]? = c.w.heap[b]?:=fun b hb=>e1.exact b hb
 have pL:∀i,i<c.h.next→Live d.h i→Live c.h i:=fun i hi hl=>⟨hi,by have:=hl.2; rw [show d.h.get i=_ from (iZ hi).1] at this; exact this⟩
 have Hh:∀i,c.h.next≤i→Live d.h i→Live c1.h (i - c.h.next):=fun i hi hl=>by
  have h2:=hl.2
  rw [show d.h.get i=_ from (jE hi).1] at h2
  cases hg:c1.h.get (i - c.h.next) with
  | none=>rw [hg] at h2; cases h2
  | some o=>exact⟨hrel1.lt _ _ hg,by rw [hg]; rfl⟩
 have F0:∀i,i<c.h.next→d.β i=c.β i:=fun i hi=>if_pos hi
 have Dh:∀i,c.h.next≤i→d.β i=c1.β (i - c.h.next):=fun i hi=>if_neg (by omega)
 have F3:∀i,Live c1.h i→c.w.heap.size≤(c1.β i).1:=fun i hl=>by
  rcases e1.FG i hl with h2 | ⟨oT,h2,_⟩
  ·exact h2
  ·exact absurd h2 (hnl oT)
 have ed:Ext c none0 d none0:=⟨Nat.le_add_right _ _,fun id hi hl=>⟨pL id hi hl,F0 id hi,gS.len (c:=c) (c':=d) (.inl (hk _ (hrel.block (pL id hi hl))))⟩,e1.size,fun b hb _ _=>.inl (hk b hb),fun b hb=>hk b (US hb hb0),rfl,fun id hl=>by
  by_cases hi:id<c.h.next
  ·exact .inr ⟨id,pL id hi hl,by rw [F0 id hi]⟩
  ·rw [Dh id (UY hi)]
   exact .inl (F3 _ (Hh id (UY hi) hl)),fun _ h=>h,fun _ h=>.inl h,e1.os,e1.tape,e1.output⟩
 have gn:∀id,id<c1.h.next→id+c.h.next<d.h.next:=fun id hi=>by show _<c.h.next+c1.h.next; omega
 have gl:∀id,Live d.h (id+c.h.next)→Live c1.h id∧d.β (id+c.h.next)=c1.β id:=fun id hl=>by
  have a:=Hh (id+c.h.next) (Nat.le_add_left _ _) hl
  have b:=Dh (id+c.h.next) (Nat.le_add_left _ _)
  rw [Nat.add_sub_cancel] at a b
  exact⟨a,b⟩
 refine⟨d,v,rfl,rfl,?_,?_,⟨fun id o ho=>?_,fun id o ho=>?_,fun id j5 hl nH he=>?_,fun id hl=>?_,fun b hb=>US (hrel.bd b hb) e1.size,fun id hl=>?_,fun id=>?_⟩,ed⟩
 ·show c.h.eu c1.h=h.eu h1
  rw [hh,JL]
 ·refine rN (c1:=c1) (d:=d) (k:=c.h.next) rfl gn gl x r' v ?_ hv
  rw [hh]; exact hr
 ·show id<c.h.next+c1.h.next
  by_cases hi:id<c.h.next
  ·omega
  ·rw [show d.h.get id=_ from (jE (UY hi)).1,Ut] at ho
   obtain⟨o1,G9,_⟩:=ho
   have:=hrel1.lt _ _ G9
   omega
 ·by_cases hi:id<c.h.next
  ·rw [show d.h.get id=_ from (iZ hi).1] at ho
   have hl:Live c.h id:=⟨hi,by rw [ho]; rfl⟩
   have:=(hrel.obj id o ho)
   have h2:=nQ.ext (L0:=L0) ed (b:=(c.β id).1) (base:=(c.β id).2) (o:=o) (by rw [gV]; exact this) (hk _ (hrel.block hl))
   rw [gV] at h2
   rw [F0 id hi]
   exact h2
  ·rw [show d.h.get id=_ from (jE (UY hi)).1,Ut] at ho
   obtain⟨o1,G9,ho⟩:=ho
   rw [Dh id (UY hi)]
   cases o1 with
   | map es=>cases ho
   | row t cs=>cases ho
   | cells cs=>
    simp only [yg,Uw] at ho
    subst ho
    obtain⟨n,g1,g2,g3⟩:=hrel1.obj _ _ G9
    exact⟨n,g1,Vj (Nat.add_le_add_left (rO _ _) _) g2,pY (c1:=c1) (d:=d) rfl gn gl cs _ _ g3⟩
 ·by_cases hi:id<c.h.next<;>by_cases jw:j5<c.h.next
  ·rw [F0 id hi,F0 j5 jw] at he
   exact hrel.inj id j5 (pL id hi hl) (pL j5 jw nH) he
  ·rw [F0 id hi,Dh j5 (UY jw)] at he
   have a:=hrel.block (pL id hi hl)
   have b:=F3 _ (Hh j5 (UY jw) nH)
   omega
  ·rw [Dh id (UY hi),F0 j5 jw] at he
   have a:=hrel.block (pL j5 jw nH)
   have b:=F3 _ (Hh id (UY hi) hl)
   omega
  ·rw [Dh id (UY hi),Dh j5 (UY jw)] at he
   have:=hrel1.inj _ _ (Hh id (UY hi) hl) (Hh j5 (UY jw) nH) he
   omega
 ·by_cases hi:id<c.h.next
  ·rw [F0 id hi]; exact hrel.out id (pL id hi hl)
  ·rw [Dh id (UY hi)]; exact hrel1.out _ (Hh id (UY hi) hl)
 ·show c.base≤_
  by_cases hi:id<c.h.next
  ·rw [F0 id hi]; exact hrel.low id (pL id hi hl)
  ·rw [Dh id (UY hi)]; exact Vj hb0 (F3 _ (Hh id (UY hi) hl))
 ·show _<c.h.next+c1.h.next
  by_cases hi:id<c.h.next
  ·rw [show d.h.ver id=_ from (iZ hi).2]; have:=hrel.ver id; omega
  ·rw [show d.h.ver id=_ from (jE (UY hi)).2]; have:=hrel1.ver (id - c.h.next); omega
theorem kV {T:mW}(pZ:IntrOK P T.intr)(m:Nat):∀k,SteadyF (ez P T m k)
 | 0=>fun f args h r h' hc=>by simp [ez] at hc
 | k+1=>fun f args h r h' hc=>by
  have hb:=uH (P:=P) (aV:=T.aV) (m:=m) (kV pZ m k)
  simp only [ez] at hc
  split at hc
  ·rename_i g hg
   exact (pZ f g hg).2 _ _ _ _ hc
  ·split at hc
   ·split at hc
    ·simp only [Ut] at hc
     obtain⟨us,_,x,hx,hc⟩:=hc
     obtain⟨r',_,h2⟩:=Option.map_some' hc
     cases h2
     exact Steady.eu ((hb _ _ _ _ _ hx).wf fun _=>VS)
    split at hc
    ·rw [Ut] at hc
     obtain⟨x,_,hc⟩:=hc
     obtain⟨r',_,h2⟩:=Option.map_some' hc
     cases h2
     exact Steady.refl _
    ·split at hc
     ·rw [Ut] at hc
      obtain⟨x,_,hc⟩:=hc
      obtain⟨r',_,h2⟩:=Option.map_some' hc
      cases h2
      exact Steady.refl _
     ·exact hb _ _ _ _ _ hc
   ·exact hb _ _ _ _ _ hc
theorem og (hP:Fit P){T:mW}(pZ:IntrOK P T.intr)(m:Nat):∀k,CallOK P (ez P T m k)
 | 0=>fun f args h r h' hc=>by simp [ez] at hc
 | k+1=>fun f args h r h' hc=>by
  have ih:=og hP pZ m k
  have hb:=wk hP (aV:=T.aV) ih (wz hP.mixed ih (kV pZ m k)) m
  simp only [ez] at hc
  split at hc
  ·rename_i g hg
   exact (pZ f g hg).1 f args h r h' (by simpa using hc)
  ·split at hc
   ·rename_i deep _
    split at hc
    ·exact Dg hb deep f args h r h' hc
    by_cases vE:cC args=true
    ·exact FY hb deep f args h r h' (by dsimp only; rw [if_pos vE] at hc ⊢; exact hc)
    ·rw [if_neg vE] at hc
     split at hc
     ·rename_i as has
      refine FZ hb deep f args h r h' ?_
      dsimp only
      rw [has]
      exact hc
     ·exact wB hb f args h r h' hc
   ·exact wB hb f args h r h' hc
def Kw (P : Program) : Bool := P.funcs.toList.all fun fn => fn.name != "runtime.NumGoroutine" && match fn.body with | some c => jV fn.ntmps c | none => true
theorem H9 (h1:P.follows .mixedOrders=true)(h2:Kw P=true):Fit P:=by
 refine⟨h1,fun f fn c hf hb=>?_⟩
 unfold Kw at h2
 rw [UN] at h2
 have:=h2 fn (Vn.2 (Array.mem_of_getElem? hf))
 rw [hb] at this
 simp only [Ux,bne_iff_ne,ne_eq] at this
 exact⟨this.2,this.1⟩
theorem mJ:IntrOK P fun _=>none:=fun f g h=>by cases h
end
end Go.R
