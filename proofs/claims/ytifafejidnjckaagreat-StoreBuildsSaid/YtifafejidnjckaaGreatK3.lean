/- Part of the proof: RLocal, RSteady, RDraw, RPure. -/
import Derived.Test.YtifafejidnjckaaGreatK2
import Derived.StillTail
set_option linter.unusedVariables false
set_option linter.unusedSimpArgs false
set_option maxRecDepth 100000
open Array renaming getElem?_eq_some_iff → acb, mem_toList_iff → acy
open Bool renaming and_eq_true → abA, false_eq_true → abK, or_eq_true → acu, not_true → acO, not_eq_true' → acQ
open List renaming mem_append → abP, getElem?_append_left → abS, getElem?_eq_none → abU, all_eq_true → abW, mem_map → abZ, getElem?_cons_zero → acp, map_congr_left → acA, mem_filter → acW, range → acX, mem_range → ac0
open Nat renaming le_refl → abB, zero_add → abY, lt_of_lt_of_le → ab3, le_of_not_lt → ab9, zero_le → aco, le_trans → acv, add_assoc → acC, eq_of_beq_eq_true → acK, zero_lt_one → ac5, add_comm → ac8, min_eq_left → ada
open Option renaming bind_some → abw, bind_eq_some_iff → abx, map_eq_some_iff → aby, map_some → abE, getD_some → acz
open Option.some renaming injEq → abz, inj → ab8
open Prod.mk renaming injEq → abH
namespace Go.R
open Go
def RS.shift (s2:RS)(f:lU)(d:Option Nat)(s':RS):RS:=
 {ρ:=match d with | none=>s2.ρ | some d=>fun t=>if t=d then s'.ρ d else s2.ρ t
  bx:=match f.wb with | none=>s2.bx | some k=>fun t=>if t=k then s'.bx k else s2.bx t
  h:=if f.wh then s'.h else s2.h}
theorem RS.ext' {s t:RS}(h1:∀i,s.ρ i=t.ρ i)(h2:∀i,s.bx i=t.bx i)(h3:s.h=t.h):s=t:=by
 cases s; cases t
 congr
 ·exact funext h1
 ·exact funext h2
theorem jo (s s2:RS)(f:lU)(d:Option Nat)(z:AV)(hw:f.wb=none)(hh:f.wh=false):s2.set d z=s2.shift f d (s.set d z):=by
 refine RS.ext' (fun i=>?_) (fun i=>?_) ?_
 ·cases d with
  | none=>rfl
  | some d=>simp only [xc,RS.shift,if_true]
 ·simp only [RS.shift,hw]; cases d<;>rfl
 ·simp only [RS.shift,hh]; cases d<;>rfl
theorem j8 (s:RS)(d:Option Nat)(z:AV):(s.set d z).h=s.h:=by cases d<;>rfl
theorem Ng (s:RS)(d:Option Nat)(z:AV):(s.set d z).bx=s.bx:=by cases d<;>rfl
theorem Hp (s:RS)(k i:Nat)(cs:List AV):(s.box k cs).bx i=if i=k then some cs else s.bx i:=by
 simp only [RS.box,beq_nat]
 by_cases h:i=k<;>simp [h]
theorem iz (s s2:RS)(f:lU)(d:Option Nat)(z:AV)(h':AHeap)(hw:f.wb=none)(hh:f.wh=true):({s2 with h:=h'}:RS).set d z=s2.shift f d (({s with h:=h'}:RS).set d z):=by
 refine RS.ext' (fun i=>?_) (fun i=>?_) ?_
 ·cases d with
  | none=>rfl
  | some d=>simp only [xc,RS.shift,if_true]
 ·simp only [RS.shift,hw]; cases d<;>rfl
 ·simp only [RS.shift,hh]; cases d<;>rfl
theorem FG (s s2:RS)(f:lU)(k:Nat)(cs:List AV)(hw:f.wb=some k)(hh:f.wh=false):s2.box k cs=s2.shift f none (s.box k cs):=by
 refine RS.ext' (fun i=>rfl) (fun i=>?_) ?_
 ·simp only [Hp,RS.shift,hw,if_true]
 ·simp only [RS.shift,hh]; rfl
section
variable {P:Program}{cf:CallF}{aN ds:List Nat}{o:Oper}{s s' s2:RS}
theorem qo {cs:List AV}{f:lU}(h:je s aN ds o cs=some s')(hf:f=(match o.dst with
  | some d=>if aN.contains d then {wb:=some d,al:=true} else {wh:=true}
  | none=>{})) (hh:f.wh=true→s2.h=s.h) (pD:f.al=true→∀d,o.dst=some d→ur d s2.ρ (ds.filter fun t=>!Nat.beq t d)=true) :
  je s2 aN ds o cs=some (s2.shift f o.dst s'):=by
 unfold je at h ⊢
 split at h
 rotate_left
 ·cases h
 rename_i qf
 rw [if_pos qf]
 cases hd:o.dst with
 | none=>rw [hd] at h; cases h
 | some d=>
  rw [hd] at h hf
  simp only at h hf ⊢
  by_cases hl:aN.contains d=true
  ·rw [if_pos hl] at h hf ⊢
   subst hf
   split at h
   rotate_left
   ·cases h
   cases h
   rw [if_pos (pD rfl d hd)]
   congr 1
   refine RS.ext' (fun i=>?_) (fun i=>?_) ?_
   ·simp only [xc,RS.shift,if_true]; rfl
   ·simp only [Ng,Hp,RS.shift,if_true]
   ·simp only [j8,RS.shift]; rfl
  ·rw [if_neg hl] at h hf ⊢
   subst hf
   cases h
   rw [hh rfl]
   congr 1
   exact iz s s2 {wh:=true} (some d) _ _ rfl rfl
theorem xp {e:Operand→AV}(h:Cp P cf aN ds e s o=some s')(hb:∀k∈(bC aN e o).rb,s2.bx k=s.bx k)(hr:∀id∈(bC aN e o).rh,s2.h.get id=s.h.get id)
  (hh:(bC aN e o).wh=true→s2.h=s.h) (pD:(bC aN e o).al=true→∀d,o.dst=some d→ur d s2.ρ (ds.filter fun t=>!Nat.beq t d)=true) :
  Cp P cf aN ds e s2 o=some (s2.shift (bC aN e o) o.dst s'):=by
 have fc:∀{x x2:Option AV} (f:lU),(x.map fun x=>s.set o.dst x)=some s'→(x2=x)→f.wb=none→f.wh=false→(x2.map fun x=>s2.set o.dst x)=some (s2.shift f o.dst s'):=by
  intro x x2 f hx h2 h3 h4
  obtain⟨z,rfl,rfl⟩:=Option.map_some' hx
  subst h2
  simp only [abE]
  rw [←jo s s2 f o.dst z h3 h4]
 have Ax:∀{α:Type} {x x2:Option α} (f:lU) (g:α→AV) (k:α→AHeap),(x.map fun y=>({s with h:=k y}:RS).set o.dst (g y))=some s'→(x2=x)→f.wb=none→f.wh=true→
   (x2.map fun y=>({s2 with h:=k y}:RS).set o.dst (g y))=some (s2.shift f o.dst s'):=by
  intro α x x2 f g k hx h2 h3 h4
  obtain⟨z,rfl,rfl⟩:=Option.map_some' hx
  subst h2
  simp only [abE]
  rw [←iz s s2 f o.dst (g z) (k z) h3 h4]
 unfold Cp at h ⊢
 dsimp only at h ⊢
 split at h
 ·rename_i x ho; cases h; simp only [abz]; exact jo s s2 _ _ _ (by simp [bC,ho]) (by simp [bC,ho])
 ·rename_i x ho; cases h; simp only [abz]; exact jo s s2 _ _ _ (by simp [bC,ho]) (by simp [bC,ho])
 ·rename_i k x y ho
  obtain⟨t,ht,rfl⟩:=Option.map_some' h
  simp only [ht,abE,abz]
  exact jo s s2 _ _ _ (by simp [bC,ho]) (by simp [bC,ho])
 ·rename_i t ho
  rw [abx] at h
  obtain⟨z,hz,h⟩:=h
  simp only [hz,abw]
  exact qo h (by simp only [bC,ho]; rfl) hh pD
 ·rename_i t x ho
  exact qo h (by simp only [bC,ho]; rfl) hh pD
 ·rename_i t ps ho; exact fc _ h rfl (by simp [bC,ho]) (by simp [bC,ho])
 ·rename_i t k ps ho
  obtain⟨z,hz,rfl⟩:=Option.map_some' h
  simp only [hz,abE,abz]
  have hf:bC aN e o=(match o.dst with | some d=>if aN.contains d then {wh:=true} else {} | none=>{}):=by simp only [bC,ho]; rfl
  unfold rF
  cases M3:px P aN o t z with
  | none=>
   simp only
   cases hd:o.dst with
   | none=>rw [hd] at hf; rw [hf]; exact jo s s2 _ none _ rfl rfl
   | some d=>
    rw [hd] at hf
    simp only at hf
    by_cases hl:aN.contains d=true
    ·rw [if_pos hl] at hf
     have h2:=hh (by rw [hf])
     rw [hf]
     have h3:=iz s s2 {wh:=true} (some d) z s2.h rfl rfl
     refine h3.trans ?_
     rw [h2]
    ·rw [if_neg hl] at hf
     rw [hf]; exact jo s s2 _ _ _ rfl rfl
  | some q=>
   obtain⟨d,hd,hl⟩:∃d,o.dst=some d∧aN.contains d=true:=by
    unfold px at M3
    split at M3
    ·rename_i d _ _ _ hd
     refine⟨d,hd,?_⟩
     cases hc:aN.contains d with
     | false=>rw [hc] at M3; cases M3
     | true=>rfl
    ·cases M3
   rw [hd] at hf
   simp only [hl,if_true] at hf
   rw [hf] at hh ⊢
   simp only [hh rfl]
   exact iz s s2 _ _ _ _ rfl rfl
 ·
  rename_i t x ho
  have hf:bC aN e o=(match e x with | .lp k _=>{rb:=[k]} | .ptr id _=>{rh:=[id]} | _=>{}):=by simp only [bC,ho]; rfl
  refine fc _ h ?_ ?_ ?_
  ·rw [hf] at hb hr
   unfold kK
   cases hx:e x<;>rw [hx] at hb hr<;>try rfl
   ·simp only; rw [hr _ (by simp)]
   ·simp only; rw [hb _ (by simp)]
  ·rw [hf]; cases e x<;>rfl
  ·rw [hf]; cases e x<;>rfl
 ·
  rename_i t x y ho
  have hf:bC aN e o=(match e x with | .lp k _=>{rb:=[k],wb:=some k} | _=>{wh:=true}):=by simp only [bC,ho]; rfl
  try simp only at h ⊢
  split at h
  ·cases h
  rename_i hd
  rw [if_neg hd]
  have J2:o.dst=none:=by simpa using hd
  cases hx:e x<;>rw [hx] at h hf<;>simp only at h hf ⊢<;>try (cases h; done)
  ·rename_i id off
   rw [hf] at hh ⊢
   rw [abx] at h
   obtain⟨ob,hob,h⟩:=h
   rw [hh rfl,hob]
   cases ob with
   | map es=>cases h
   | row t cs=>cases h
   | cells cs=>
    obtain⟨gp,hcs,rfl⟩:=Option.map_some' h
    simp only [abw,hcs,abE,J2,abz]
    exact iz s s2 {wh:=true} none .any _ rfl rfl
  ·rename_i k off
   rw [hf] at hb ⊢
   rw [abx] at h
   obtain⟨cs,hcs,h⟩:=h
   rw [hb k (by simp),hcs]
   obtain⟨gp,TQ,rfl⟩:=Option.map_some' h
   simp only [abw,TQ,abE,J2,abz]
   exact FG s s2 _ k gp rfl rfl
 ·rename_i ho; exact fc _ h rfl (by simp [bC,ho]) (by simp [bC,ho])
 ·rename_i ho; exact fc _ h rfl (by simp [bC,ho]) (by simp [bC,ho])
 ·rename_i ho; exact fc _ h rfl (by simp [bC,ho]) (by simp [bC,ho])
 ·
  rename_i a b x ho
  have hf:bC aN e o=(match e x with | .rs id _ _ _=>{rh:=[id]} | _=>{}):=by simp only [bC,ho]; rfl
  refine fc _ h ?_ ?_ ?_
  ·have hc:fI s2.h 1 (e x)=fI s.h 1 (e x):=by
    rw [hf] at hr
    unfold fI
    cases hx:e x<;>rw [hx] at hr<;>try rfl
    simp only; rw [hr _ (by simp)]
   unfold nL
   rw [hc]
  ·rw [hf]; cases e x<;>rfl
  ·rw [hf]; cases e x<;>rfl
 ·rename_i CH first cap ho
  try simp only
  split at h
  ·rename_i hc
   rw [if_pos hc]
   exact fc _ h rfl (by simp [bC,ho]) (by simp [bC,ho])
  ·cases h
 ·rename_i ho
  have hf:(bC aN e o).wh=true:=by simp [bC,ho]
  cases h
  simp only [hh hf,abz]
  exact iz s s2 _ _ _ _ (by simp [bC,ho]) hf
 ·rename_i t l c ho
  have hf:(bC aN e o).wh=true:=by simp [bC,ho]
  exact Ax _ (fun y:AV × AHeap=>y.1) (fun y=>y.2) h (by simp only [hh hf]) (by simp [bC,ho]) hf
 ·rename_i ho; exact fc _ h rfl (by simp [bC,ho]) (by simp [bC,ho])
 ·rename_i ho; exact fc _ h rfl (by simp [bC,ho]) (by simp [bC,ho])
 ·rename_i ho; exact fc _ h rfl (by simp [bC,ho]) (by simp [bC,ho])
 ·rename_i ho; exact fc _ h rfl (by simp [bC,ho]) (by simp [bC,ho])
 ·rename_i ho; exact fc _ h rfl (by simp [bC,ho]) (by simp [bC,ho])
 ·
  rename_i t m k ok ho
  have hf:bC aN e o=(match e m with | .mp id=>{rh:=[id]} | _=>{}):=by simp only [bC,ho]; rfl
  refine fc _ h ?_ ?_ ?_
  ·rw [hf] at hr
   unfold fD
   cases hx:e m<;>rw [hx] at hr<;>try rfl
   simp only; rw [hr _ (by simp)]
  ·rw [hf]; cases e m<;>rfl
  ·rw [hf]; cases e m<;>rfl
 ·rename_i t m k x ho
  have hf:(bC aN e o).wh=true:=by simp [bC,ho]
  try simp only at h ⊢
  split at h
  ·cases h
  rename_i hd
  rw [if_neg hd]
  have J2:o.dst=none:=by simpa using hd
  obtain⟨h',hm,rfl⟩:=Option.map_some' h
  simp only [hh hf,hm,abE,J2,abz]
  exact iz s s2 _ none .any _ (by simp [bC,ho]) hf
 ·rename_i t m k x ho
  have hf:(bC aN e o).wh=true:=by simp [bC,ho]
  try simp only at h ⊢
  split at h
  ·cases h
  rename_i hd
  rw [if_neg hd]
  have J2:o.dst=none:=by simpa using hd
  obtain⟨h',hm,rfl⟩:=Option.map_some' h
  simp only [hh hf,hm,abE,J2,abz]
  exact iz s s2 _ none .any _ (by simp [bC,ho]) hf
 ·rename_i ho; exact fc _ h rfl (by simp [bC,ho]) (by simp [bC,ho])
 ·
  rename_i b args DW ho
  try simp only
  unfold gS at h ⊢
  generalize hargs:args.toList.map e=as at h ⊢
  generalize DW.toList=ts at h ⊢
  split at h
  ·rename_i t x
   try simp only
   have hf:bC aN e o=(match x with | .mp id=>{rh:=[id]} | _=>{}):=by
    simp only [bC,ho,hargs]
    cases x<;>rfl
   refine fc _ h ?_ ?_ ?_
   ·rw [hf] at hr
    unfold uq
    cases x<;>try rfl
    simp only; rw [hr _ (by simp)]
   ·rw [hf]; cases x<;>rfl
   ·rw [hf]; cases x<;>rfl
  ·try simp only
   have hf:(bC aN e o).wh=true∧(bC aN e o).wb=none:=by simp only [bC,ho,hargs]; simp
   exact Ax _ (fun y:AV × AHeap=>y.1) (fun y=>y.2) h (by simp only [hh hf.1]) hf.2 hf.1
  ·try simp only
   have hf:(bC aN e o).wh=true∧(bC aN e o).wb=none:=by simp only [bC,ho,hargs]; simp
   exact Ax _ (fun y:AV × AHeap=>y.1) (fun y=>y.2) h (by simp only [hh hf.1]) hf.2 hf.1
  ·try simp only
   have hf:(bC aN e o).wh=true∧(bC aN e o).wb=none:=by simp only [bC,ho,hargs]; simp
   exact Ax _ (fun _:AHeap=>.tup []) (fun y=>y) h (by simp only [hh hf.1]) hf.2 hf.1
  ·try simp only
   rw [abx] at h
   obtain⟨v,hv,h⟩:=h
   rw [abx] at h
   obtain⟨vs,GN,h⟩:=h
   rw [abx] at h
   obtain⟨u,hu,h⟩:=h
   simp only [hv,GN,hu,abw]
   exact fc _ h rfl (by simp [bC,ho]) (by simp [bC,ho])
  ·try simp only
   rw [abx] at h
   obtain⟨v,hv,h⟩:=h
   rw [abx] at h
   obtain⟨vs,GN,h⟩:=h
   rw [abx] at h
   obtain⟨u,hu,h⟩:=h
   simp only [hv,GN,hu,abw]
   exact fc _ h rfl (by simp [bC,ho]) (by simp [bC,ho])
  ·cases h
 ·
  rename_i fx args DW ho
  have hf:(bC aN e o).wh=true∧(bC aN e o).wb=none:=by simp [bC,ho]
  try simp only
  cases hx:e fx<;>rw [hx] at h<;>simp only at h ⊢<;>try (cases h; done)
  rename_i CH cap
  split at h
  ·rename_i ha
   rw [if_pos ha]
   exact Ax _ (fun y:AV × AHeap=>y.1) (fun y=>y.2) h (by simp only [hh hf.1]) hf.2 hf.1
  ·cases h
 ·cases h
end
end Go.R
namespace Go.R
open Go
def SteadyF (cf:CallF):Prop:=∀f args h r h',cf f args h=some (r,h')→Steady h h'
section
variable {P:Program}{cf:CallF}{aN ds:List Nat}{o:Oper}{s s':RS}
theorem uM {h h':AHeap}{t t2:TypeId}{x y z:AV}(hh:dy P h t t2 x y=some (z,h')):Steady h h':=by
 unfold dy at hh
 rw [abx] at hh
 obtain⟨d,_,hh⟩:=hh
 cases d<;>simp only at hh<;>try (cases hh; done)
 rw [abx] at hh
 obtain⟨i,_,hh⟩:=hh
 rw [abx] at hh
 obtain⟨⟨new,m⟩,_,hh⟩:=hh
 simp only at hh
 split at hh
 ·cases hh
 split at hh
 ·split at hh
  ·cases hh
  ·split at hh<;>cases hh
   ·exact Steady.refl _
   ·exact Steady.put _ _ _
 ·split at hh
  ·cases hh
  ·split at hh
   ·split at hh<;>cases hh<;>exact Steady.refl _
   ·cases hh; exact Steady.put _ _ _
 ·split at hh
  ·split at hh
   ·cases hh
   ·split at hh<;>cases hh
    ·exact Steady.refl _
    ·exact Steady.put _ _ _
  rw [abx] at hh
  obtain⟨ob,_,hh⟩:=hh
  cases ob with
  | map es=>cases hh
  | row t cs=>cases hh
  | cells cs=>
   simp only at hh
   split at hh
   ·cases hh
   ·split at hh<;>cases hh
    ·exact Steady.refl _
    ·exact (Steady.kill _ _).trans (Steady.put _ _ _)
 ·cases hh
theorem yE {h h':AHeap}{t t2:TypeId}{x y z:AV}(hh:xb P h t t2 x y=some (z,h')):Steady h h':=by
 unfold xb at hh
 rw [abx] at hh
 obtain⟨d,_,hh⟩:=hh
 cases d<;>simp only at hh<;>try (cases hh; done)
 rw [abx] at hh
 obtain⟨i,_,hh⟩:=hh
 rw [abx] at hh
 obtain⟨⟨new,m⟩,_,hh⟩:=hh
 simp only at hh
 split at hh
 ·cases hh
 split at hh
 ·split at hh
  ·split at hh<;>cases hh
   exact Steady.refl _
  rw [abx] at hh
  obtain⟨ob,_,hh⟩:=hh
  cases ob with
  | map es=>cases hh
  | row t cs=>cases hh
  | cells cs=>
   simp only at hh
   split at hh<;>cases hh
   exact Steady.put _ _ _
 ·split at hh<;>cases hh
  exact Steady.refl _
 ·cases hh
theorem wM {h h':AHeap}{t:TypeId}{x:AV}(hh:mC P h t x=some h'):Steady h h':=by
 unfold mC at hh
 rw [abx] at hh
 obtain⟨d,_,hh⟩:=hh
 cases x<;>simp only at hh<;>try (cases hh; done)
 ·split at hh
  ·cases hh; exact Steady.refl _
  split at hh
  ·cases hh
  cases d<;>simp only at hh<;>try (cases hh; done)
  simp only [abx] at hh
  obtain⟨i,_,z,_,ob,_,hh⟩:=hh
  cases ob with
  | map es=>cases hh
  | row t cs=>cases hh
  | cells cs=>
   simp only at hh
   split at hh
   ·cases hh; exact Steady.put _ _ _
   ·cases hh
 ·cases hh; exact Steady.refl _
 ·rw [abx] at hh
  obtain⟨ob,_,hh⟩:=hh
  cases ob with
  | cells cs=>cases hh
  | row t cs=>cases hh
  | map es=>cases hh; exact Steady.put _ _ _
theorem Ay {aN:List Nat}{d:Option Nat}{x y:AV × AHeap}(hz:ym aN d x=some y):Steady x.2 y.2:=by
 unfold ym at hz
 cases hm:PC aN d with
 | true=>rw [hm,cond_true] at hz; exact nT hz
 | false=>rw [hm,cond_false] at hz; cases hz; exact Steady.refl _
theorem nX {h h':AHeap}{t:TypeId}{x y z:AV}(hh:iI P h t x y z=some h'):Steady h h':=by
 unfold iI at hh
 rw [abx] at hh
 obtain⟨d,_,hh⟩:=hh
 cases d<;>simp only at hh<;>try (cases hh; done)
 split at hh
 ·cases hh
 cases x<;>simp only at hh<;>try (cases hh; done)
 rw [abx] at hh
 obtain⟨ob,_,hh⟩:=hh
 cases ob with
 | cells cs=>cases hh
 | row t cs=>cases hh
 | map es=>
  obtain⟨sI,_,rfl⟩:=Option.map_some' hh
  exact Steady.put _ _ _
theorem qp {h h':AHeap}{t:TypeId}{x y z:AV}(hh:iy P h t x y=some (z,h')):Steady h h':=by
 unfold iy at hh
 split at hh
 ·rw [abx] at hh
  obtain⟨d,_,hh⟩:=hh
  cases d<;>simp only at hh<;>try (cases hh; done)
  rw [abx] at hh
  obtain⟨i,_,hh⟩:=hh
  rw [abx] at hh
  obtain⟨z,_,hh⟩:=hh
  split at hh<;>cases hh
  exact Steady.put _ _ _
 ·cases hh
theorem pe {cs:List AV}(h:je s aN ds o cs=some s'):Steady s.h s'.h:=by
 unfold je at h
 split at h
 rotate_left
 ·cases h
 split at h
 ·split at h
  ·split at h<;>cases h
   rw [j8]; exact Steady.refl _
  ·cases h
   rw [j8]; exact Steady.put _ _ _
 ·cases h
theorem uN (hcf:SteadyF cf){e:Operand→AV}(h:Cp P cf aN ds e s o=some s'):Steady s.h s'.h:=by
 have fc:∀{x:Option AV},(x.map fun x=>s.set o.dst x)=some s'→Steady s.h s'.h:=by
  intro x hx
  obtain⟨z,rfl,rfl⟩:=Option.map_some' hx
  rw [j8]; exact Steady.refl _
 unfold Cp at h
 dsimp only at h
 split at h
 ·cases h; rw [j8]; exact Steady.refl _
 ·cases h; rw [j8]; exact Steady.refl _
 ·obtain⟨z,_,rfl⟩:=Option.map_some' h; rw [j8]; exact Steady.refl _
 ·rw [abx] at h
  obtain⟨z,_,h⟩:=h
  exact pe h
 ·exact pe h
 ·exact fc h
 ·obtain⟨z,hz,rfl⟩:=Option.map_some' h
  unfold rF
  split
  ·rw [j8]; exact Steady.refl _
  ·rw [j8]; exact Steady.put _ _ _
 ·exact fc h
 ·split at h
  ·cases h
  split at h
  ·rw [abx] at h
   obtain⟨cs,_,h⟩:=h
   obtain⟨z,_,rfl⟩:=Option.map_some' h
   exact Steady.refl _
  ·rw [abx] at h
   obtain⟨ob,_,h⟩:=h
   cases ob with
   | map es=>cases h
   | row t cs=>cases h
   | cells cs=>
    obtain⟨z,_,rfl⟩:=Option.map_some' h
    exact Steady.put _ _ _
  ·cases h
 ·exact fc h
 ·exact fc h
 ·exact fc h
 ·exact fc h
 ·split at h
  ·exact fc h
  ·cases h
 ·cases h; rw [j8]; exact Steady.put _ _ _
 ·obtain⟨⟨z,h'⟩,hz,rfl⟩:=Option.map_some' h
  rw [j8]; exact qp hz
 ·exact fc h
 ·exact fc h
 ·exact fc h
 ·exact fc h
 ·exact fc h
 ·exact fc h
 ·split at h
  ·cases h
  obtain⟨h',hz,rfl⟩:=Option.map_some' h
  exact nX hz
 ·split at h
  ·cases h
  obtain⟨h',hz,rfl⟩:=Option.map_some' h
  exact nX hz
 ·exact fc h
 ·unfold gS at h
  split at h
  ·exact fc h
  ·obtain⟨⟨z,h'⟩,hz,rfl⟩:=Option.map_some' h
   rw [j8]; exact uM hz
  ·obtain⟨⟨z,h'⟩,hz,rfl⟩:=Option.map_some' h
   rw [j8]; exact yE hz
  ·obtain⟨h',hz,rfl⟩:=Option.map_some' h
   rw [j8]; exact wM hz
  ·rw [abx] at h
   obtain⟨v,_,h⟩:=h
   rw [abx] at h
   obtain⟨vs,_,h⟩:=h
   rw [abx] at h
   obtain⟨u,_,h⟩:=h
   exact fc h
  ·rw [abx] at h
   obtain⟨v,_,h⟩:=h
   rw [abx] at h
   obtain⟨vs,_,h⟩:=h
   rw [abx] at h
   obtain⟨u,_,h⟩:=h
   exact fc h
  ·cases h
 ·split at h
  ·split at h
   ·obtain⟨⟨z,h'⟩,hz,rfl⟩:=Option.map_some' h
    rw [abx] at hz
    obtain⟨⟨z0,h0⟩,hz,hm⟩:=hz
    rw [j8]; exact (hcf _ _ _ _ _ hz).trans (Ay hm)
   ·cases h
  ·cases h
 ·cases h
theorem qu (hcf:SteadyF cf){ops:List Oper}(h:nM P cf aN ops s o=some s'):Steady s.h s'.h:=by
 unfold nM at h
 rw [abx] at h
 obtain⟨w,_,h⟩:=h
 cases w with
 | true=>exact uN hcf (by simpa [yn] using h)
 | false=>
  simp only [abK,if_false,abz] at h
  subst h
  rw [j8]; exact Steady.refl _
theorem sS (hcf:SteadyF cf){ops:List Oper}:∀{l:List Oper} {s s':RS},tj P cf aN ops s l=some s'→Steady s.h s'.h
 | [],s,s',h=>by simp only [tj,abz] at h; subst h; exact Steady.refl _
 | o::l,s,s',h=>by
  simp only [tj,abx] at h
  obtain⟨s1,h1,h2⟩:=h
  exact (qu hcf h1).trans (sS hcf h2)
theorem sT (hcf:SteadyF cf){ops:List Oper}:∀{l:List Oper} {s r:RS} {es:List nv},qd P cf aN ops s l=some (es,r)→Steady s.h r.h
 | [],s,r,es,h=>by simp only [qd,abz,abH] at h; rw [h.2]; exact Steady.refl _
 | o::l,s,r,es,h=>by
  simp only [qd,abx,aby] at h
  obtain⟨w,hw,s1,h1,⟨sI,r'⟩,h2,h3⟩:=h
  simp only [abH] at h3
  obtain⟨_,rfl⟩:=h3
  have h4:nM P cf aN ops s o=some s1:=by unfold nM; rw [hw]; exact h1
  exact (qu hcf h4).trans (sT hcf h2)
theorem wN (hcf:SteadyF cf){ops:Array Oper}(h:kL P cf aN ops s=some s'):Steady s.h s'.h:=by
 unfold kL at h
 dsimp only at h
 split at h
 rotate_left
 ·cases h
 rw [abx] at h
 obtain⟨⟨es,r⟩,CB,h⟩:=h
 simp only at h
 split at h
 ·cases h; exact sT hcf CB
 ·cases h
theorem hU (hcf:SteadyF cf){A:cu}{m:Nat}:∀(c:Code) (st kp:St) (e:Ex),cb P cf A m c st=some (e,kp)→Steady st.h kp.h
 | .skip,st,kp,e,h=>by simp only [cb,abz,abH] at h; rw [h.2]; exact Steady.refl _
 | .label _,st,kp,e,h=>by simp only [cb,abz,abH] at h; rw [h.2]; exact Steady.refl _
 | .ret,st,kp,e,h=>by simp only [cb,abz,abH] at h; rw [h.2]; exact Steady.refl _
 | .exit _,st,kp,e,h=>by simp only [cb,abz,abH] at h; rw [h.2]; exact Steady.refl _
 | .seq x y,st,kp,e,h=>by
  simp only [cb,abx] at h
  obtain⟨⟨e1,s1⟩,h1,h2⟩:=h
  have:=hU hcf x st s1 e1 h1
  cases e1 with
  | norm=>exact this.trans (hU hcf y s1 kp e h2)
  | exit id=>simp only [abz,abH] at h2; rw [←h2.2]; exact this
  | ret=>simp only [abz,abH] at h2; rw [←h2.2]; exact this
 | .cond k x y,st,kp,e,h=>by
  simp only [cb,abx] at h
  obtain⟨t,_,h⟩:=h
  cases t with
  | true=>exact hU hcf x st kp e (by simpa using h)
  | false=>exact hU hcf y st kp e (by simpa using h)
 | .block id x,st,kp,e,h=>by
  simp only [cb,aby] at h
  obtain⟨⟨e1,s1⟩,h1,h2⟩:=h
  have:=hU hcf x st s1 e1 h1
  cases e1<;>(simp only [abH] at h2; rw [←h2.2]; exact this)
 | .loop x,st,kp,e,h=>by
  simp only [cb] at h
  have key:∀(j:Nat) (st:St),lW (cb P cf A m x) j st=some (e,kp)→Steady st.h kp.h:=by
   intro j
   induction j with
   | zero=>intro st h; simp [lW] at h
   | succ j ih=>
    intro st h
    simp only [lW,abx] at h
    obtain⟨⟨e1,s1⟩,h1,h2⟩:=h
    have:=hU hcf x st s1 e1 h1
    cases e1 with
    | norm=>exact this.trans (ih s1 h2)
    | exit id=>simp only [abz,abH] at h2; rw [←h2.2]; exact this
    | ret=>simp only [abz,abH] at h2; rw [←h2.2]; exact this
  exact key m st h
 | .region id ops draw,st,kp,e,h=>by
  simp only [cb,abx,aby,abH] at h
  obtain⟨s0,h0,s',h1,s2,h2,_,rfl⟩:=h
  rw [Kx]
  refine ((nU h0).trans ?_).trans (nU h2)
  cases draw with
  | true=>exact wN (s:=s0) hcf (by simpa using h1)
  | false=>exact sS (s:=s0) hcf (by simpa using h1)
 | .rangeFunc ..,st,kp,e,h=>by simp [cb] at h
 | .scope ..,st,kp,e,h=>by simp [cb] at h
 | .goto ..,st,kp,e,h=>by simp [cb] at h
 | .refuse ..,st,kp,e,h=>by simp [cb] at h
theorem yF (hcf:SteadyF cf){a7:FuncId→cu}{m:Nat}:SteadyF (bj P a7 cf m):=by
 intro f args h r h' hc
 unfold bj at hc
 rw [abx] at hc
 obtain⟨fn,hf,hc⟩:=hc
 rw [abx] at hc
 obtain⟨c,hb,hc⟩:=hc
 split at hc
 rotate_left
 ·cases hc
 rw [abx] at hc
 obtain⟨⟨e,st⟩,hex,hc⟩:=hc
 have:=hU hcf c _ _ _ hex
 cases e with
 | norm=>obtain⟨r',_,h2⟩:=Option.map_some' hc; cases h2; exact this
 | ret=>obtain⟨r',_,h2⟩:=Option.map_some' hc; cases h2; exact this
 | exit id=>cases hc
end
end Go.R
namespace Go.R
open Go
section
variable {P:Program}{cf:CallF}{aN ds:List Nat}{o:Oper}{s s':RS}
theorem FH {e e':Operand→AV}(h:∀x∈o.op.operands,e x=e' x):Cp P cf aN ds e s o=Cp P cf aN ds e' s o:=by
 have Qa:∀(l:List Operand),(∀x∈l,e x=e' x)→l.map e=l.map e':=fun l hl=>acA hl
 have Nh:∀(q:Option Operand),(∀x,q=some x→e x=e' x)→q.map e=q.map e':=by
  intro q hq; cases q with
  | none=>rfl
  | some x=>simp [hq x rfl]
 unfold Cp
 cases D0:o.op<;>rw [D0] at h
 case build t ps=>
  have:(ps.toList.map fun (i,x)=>(i,e x))=(ps.toList.map fun (i,x)=>(i,e' x)):=
   acA fun p hp=>by
    have:=h p.2 (by simp only [Op.operands,List.mem_toArray,abZ]; exact⟨p,hp,rfl⟩)
    simp [this]
  simp only [this]
 case buildSlice t n ps=>
  have:(ps.toList.map fun (i,x)=>(i,e x))=(ps.toList.map fun (i,x)=>(i,e' x)):=
   acA fun p hp=>by
    have:=h p.2 (by simp only [Op.operands,List.mem_toArray,abZ]; exact⟨p,hp,rfl⟩)
    simp [this]
  simp only [this]
 case makeFunc f first cap=>
  have:cap.toList.map e=cap.toList.map e':=Qa _ fun x hx=>h x (by simp only [Op.operands,Array.mem_append]; right; exact acy.1 hx)
  cases f<;>first | rfl | simp only [this]
 case makeMap t r=>cases r<;>rfl
 case slice t x lo hi mx=>
  have h1:e x=e' x:=h x (by simp [Op.operands])
  have h2:=Nh lo fun y hy=>h y (by simp [Op.operands,hy])
  have h3:=Nh hi fun y hy=>h y (by simp [Op.operands,hy])
  have h4:=Nh mx fun y hy=>h y (by simp [Op.operands,hy])
  simp only [h1,h2,h3,h4]
 case call c=>
  obtain⟨callee,args,DW⟩:=c
  have h1:args.toList.map e=args.toList.map e':=Qa _ fun x hx=>h x (by
   simp only [Op.operands,Call.operands]
   cases callee<;>simp<;>first | exact acy.1 hx | (right; exact acy.1 hx) | (left; exact acy.1 hx))
  cases callee with
  | builtin b=>simp only [h1]
  | value f=>
   have h2:e f=e' f:=h f (by simp [Op.operands,Call.operands])
   simp only [h1,h2]
  | invoke r nm=>rfl
 all_goals first
  | rfl
  | (simp [Op.operands] at h; simp [h])
end
theorem qv (acc:List Nat)(i:Nat):∀(l:List Edge) (m:Nat),(l.foldl (fun m e=>bif Region.binds .any e then m ||| (2 ^ e.on ||| acc.getD e.on 0) else m) m).testBit i=true→
  m.testBit i=true∨∃e∈l,Region.binds .any e=true∧(e.on=i∨(acc.getD e.on 0).testBit i=true)
 | [],m,h=>.inl h
 | e::l,m,h=>by
  rcases qv acc i l _ h with h1 | ⟨e',he,h1⟩
  ·dsimp only at h1
   cases hb:Region.binds .any e with
   | false=>rw [hb] at h1; exact .inl h1
   | true=>
    rw [hb] at h1
    simp only [cond_true,Nat.testBit_or,acu,Nat.testBit_two_pow,decide_eq_true_eq] at h1
    rcases h1 with h1 | h1 | h1
    ·exact .inl h1
    ·exact .inr ⟨e,by simp,hb,.inl h1⟩
    ·exact .inr ⟨e,by simp,hb,.inr h1⟩
  ·exact .inr ⟨e',by simp [he],h1⟩
theorem sU:∀(l:List Oper) (acc:List Nat),(∀j,j<acc.length→(kl acc l).getD j 0=acc.getD j 0)∧
  ∀j i,((kl acc l).getD j 0).testBit i=true→acc.length≤j→∃o,l[j - acc.length]? = some o∧∃e∈o.after.toList,Region.binds .any e=true∧(e.on=i∨((kl acc l).getD e.on 0).testBit i=true)
 | [],acc=>⟨fun j hj=>rfl,fun j i h hj=>by simp [kl,List.getD,abU hj] at h⟩
 | o::l,acc=>by
  simp only [kl]
  generalize hm:(o.after.toList.foldl (fun m e=>bif Region.binds .any e then m ||| (2 ^ e.on ||| acc.getD e.on 0) else m) 0)=m
  obtain⟨h1,h2⟩:=sU l (acc++[m])
  have hold:∀j,j<acc.length→(kl (acc++[m]) l).getD j 0=acc.getD j 0:=fun j hj=>by
   rw [h1 j (by simp; omega)]
   simp [List.getD,abS hj]
  refine⟨hold,fun j i h hj=>?_⟩
  by_cases YL:j=acc.length
  ·subst YL
   have:(kl (acc++[m]) l).getD acc.length 0=m:=by
    rw [h1 _ (by simp)]; simp [List.getD]
   rw [this,←hm] at h
   rcases qv acc i _ _ h with h3 | ⟨e,he,hb,h3⟩
   ·simp at h3
   ·refine⟨o,by simp,e,he,hb,h3.imp id fun h4=>?_⟩
    by_cases hl:e.on<acc.length
    ·rw [hold _ hl]; exact h4
    ·simp [List.getD,abU (Nat.not_lt.1 hl)] at h4
  ·obtain⟨o',Pe,h3⟩:=h2 j i h (by simp; omega)
   refine⟨o',?_,h3⟩
   rw [show j - acc.length=(j - (acc++[m]).length)+1 by simp; omega]
   simpa using Pe
theorem lJ {α:Type}(p:Nat→α→Nat→α→Bool):∀(l:List α) (k:Nat),qa p k l=true→∀i j x y,i<j→l[i]? = some x→l[j]? = some y→p (k+i) x (k+j) y=true
 | [],k,_,i,j,x,y,_,hx,_=>by simp at hx
 | a::l,k,h,i,j,x,y,zT,hx,hy=>by
  simp only [qa,abA,abW] at h
  obtain⟨h1,h2⟩:=h
  cases j with
  | zero=>omega
  | succ j=>
   cases i with
   | zero=>
    simp only [acp,abz] at hx
    subst hx
    have:=h1 (y,k+1+j) (by rw [List.mk_add_mem_zipIdx_iff_getElem?]; simpa using hy)
    simpa [acC,ac8 1 j] using this
   | succ i=>
    have:=lJ p l (k+1) h2 i j x y (by omega) (by simpa using hx) (by simpa using hy)
    rw [show k+(i+1)=k+1+i by omega,show k+(j+1)=k+1+j by omega]
    exact this
theorem qw:∀(l:List Oper) (k:Nat),tQ k l=true→∀i o,l[i]? = some o→∀e∈o.after.toList,Region.binds .any e=true→e.on<k+i
 | [],k,_,i,o,h,_,_,_=>by simp at h
 | a::l,k,h,i,o,ho,e,he,hb=>by
  simp only [tQ,abA,abW] at h
  obtain⟨h1,h2⟩:=h
  cases i with
  | zero=>
   simp only [acp,abz] at ho
   subst ho
   have:=h1 e he
   simp only [hb,acO,Bool.false_or] at this
   exact Nat.blt_eq.mp this
  | succ i=>
   have:=qw l (k+1) h2 i o (by simpa using ho) e he hb
   omega
theorem qy {V:Type}{n i:Nat}(hi:i≤n){W:Nat→Prop}{S:Nat→Bool}{m x:Nat→V}(h0:m 0=x 0)(Qb:∀k,k<n→W k→S k=true→m (k+1)=x (k+1))(xh:∀k,k<n→(¬W k∨S k=false)→m (k+1)=m k)
  (hx:∀k,k<n→¬W k→x (k+1)=x k) (hS:∀k,k<n→W k→(S k=true↔k<i)):m n=x i:=by
 have key:∀k,k≤n→m k=x (min k i):=by
  intro k
  induction k with
  | zero=>intro _; simpa using h0
  | succ k ih=>
   intro hk
   have ih:=ih (by omega)
   by_cases hw:W k
   ·have hs:=hS k (by omega) hw
    by_cases tU:k<i
    ·rw [Qb k (by omega) hw (hs.2 tU),ada (by omega)]
    ·have:S k=false:=by
      cases h:S k with
      | false=>rfl
      | true=>exact absurd (hs.1 h) tU
     rw [xh k (by omega) (.inr this),ih,Nat.min_eq_right (by omega),Nat.min_eq_right (by omega)]
   ·rw [xh k (by omega) (.inl hw),ih]
    by_cases tU:k<i
    ·rw [ada (by omega),ada (by omega),hx k (by omega) hw]
    ·rw [Nat.min_eq_right (by omega),Nat.min_eq_right (by omega)]
 rw [key n (abB n),Nat.min_eq_right hi]
open Classical in
theorem yG {V:Type}{n i:Nat}(hi:i<n){W:Nat→Prop}{S S':Nat→Bool}{m m' x:Nat→V}(h0:m' 0=m 0)(Qb:∀k,k<n→W k→S k=true→m (k+1)=x (k+1))(xh:∀k,k<n→(¬W k∨S k=false)→m (k+1)=m k)
  (Hq:∀k,k<n→W k→S' k=true→m' (k+1)=x (k+1)) (Hr:∀k,k<n→(¬W k∨S' k=false)→m' (k+1)=m' k)
  (FI:∀k,S' k=if k=i then true else S k) (Qc:S i=false) (hl:W i→∀j,j<n→i<j→W j→S j=false):m' n=if W i then x (i+1) else m n:=by
 have key:∀k,k≤n→m' k=if i<k∧W i then x (i+1) else m k:=by
  intro k
  induction k with
  | zero=>intro _; simpa using h0
  | succ k ih=>
   intro hk
   have ih:=ih (by omega)
   by_cases tU:k=i
   ·subst tU
    by_cases hw:W k
    ·rw [Hq k (by omega) hw (by rw [FI]; simp),if_pos ⟨by omega,hw⟩]
    ·rw [Hr k (by omega) (.inl hw),ih,if_neg (fun h=>hw h.2),if_neg (fun h=>hw h.2),xh k (by omega) (.inl hw)]
   ·have hs:S' k=S k:=by rw [FI,if_neg tU]
    by_cases hw:W k
    ·cases rK:S k with
     | true=>
      rw [Hq k (by omega) hw (hs.trans rK)]
      by_cases GQ:i<k+1∧W i
      ·have:=hl GQ.2 k (by omega) (by omega) hw
       rw [rK] at this; cases this
      ·rw [if_neg GQ,Qb k (by omega) hw rK]
     | false=>
      rw [Hr k (by omega) (.inr (hs.trans rK)),ih,xh k (by omega) (.inr rK)]
      by_cases GQ:i<k∧W i
      ·rw [if_pos GQ,if_pos ⟨by omega,GQ.2⟩]
      ·rw [if_neg GQ,if_neg (fun h=>GQ ⟨by omega,h.2⟩)]
    ·rw [Hr k (by omega) (.inl hw),ih,xh k (by omega) (.inl hw)]
     by_cases GQ:i<k∧W i
     ·rw [if_pos GQ,if_pos ⟨by omega,GQ.2⟩]
     ·rw [if_neg GQ,if_neg (fun h=>GQ ⟨by omega,h.2⟩)]
 rw [key n (abB n)]
 by_cases hw:W i
 ·rw [if_pos ⟨hi,hw⟩,if_pos hw]
 ·rw [if_neg (fun h=>hw h.2),if_neg hw]
structure uO (P:Program)(cf:CallF)(aN:List Nat)(ops:Array Oper)(tx:Nat→RS)(ft:Nat→lU)(ord:Nat→Nat→Prop):Prop where
 op:∀k o,ops[k]? = some o→∃w,iJ ops.toList (tx k).ρ o=some w∧(if w then yn P cf aN (ops.toList.filterMap (·.dst)) (tx k) o=some (tx (k+1))∧ft k=bC aN (ck (tx k).ρ) o else tx (k+1)=(tx k).set o.dst (.tup [])∧ft k={})
 Ni:∀k i,ord k i→∃o,ops[i]? = some o∧∃e∈o.after,Region.binds .any e=true∧(e.on=k∨ord k e.on)
 back:∀i o,ops[i]? = some o→∀e∈o.after,Region.binds .any e=true→e.on<i
 Mg:∀i j x y,i≠j→ops[i]? = some x→ops[j]? = some y→ord i j∨ord j i∨∀d,x.dst=some d→d∉y.looksAt ops∧y.dst≠some d
 boxes:∀i j,i<ops.size→j<ops.size→i≠j→ord i j∨ord j i∨(∀k,(ft i).wb=some k→k∉(ft j).rb∧(ft j).wb≠some k)∧((ft i).wh=true→(ft j).wh=false∧∀id∈(ft j).rh,(tx i).h.get id=(tx (i+1)).h.get id)
 TR:∀i o d,ops[i]? = some o→(ft i).al=true→o.dst=some d→(∀t∈ops.toList.filterMap (·.dst),t≠d→∀off,(tx 0).ρ t≠.lp d off)∧∀j y t,ops[j]? = some y→j≠i→ord i j∨(y.dst=some t→∀off,(tx (j+1)).ρ t≠.lp d off)
section
variable {P:Program}{cf:CallF}{aN:List Nat}{ops:Array Oper}{tx:Nat→RS}{ft:Nat→lU}{ord:Nat→Nat→Prop}
def ka (ops:Array Oper)(k:Nat):Option Nat:=(ops[k]?).bind (·.dst)
def la (ops:Array Oper)(tx:Nat→RS)(ft:Nat→lU)(S:Nat→Bool):Nat→RS
 | 0=>tx 0
 | k+1=>if S k then (la ops tx ft S k).shift (ft k) (ka ops k) (tx (k+1)) else la ops tx ft S k
theorem uO.shift (T:uO P cf aN ops tx ft ord){k:Nat}(hk:k<ops.size):tx (k+1)=(tx k).shift (ft k) (ka ops k) (tx (k+1)):=by
 have ho:ops[k]? = some ops[k]:=by simp [hk]
 obtain⟨w,hw,h⟩:=T.op k _ ho
 have hd:ka ops k=ops[k].dst:=by simp [ka,hk]
 rw [hd]
 cases w with
 | true=>
  simp only [if_true] at h
  obtain⟨h1,h2⟩:=h
  have:=xp (s2:=tx k) (e:=ck (tx k).ρ) h1 (fun _ _=>rfl) (fun _ _=>rfl) (fun _=>rfl) (fun pD d B7=>by
   unfold yn Cp at h1
   dsimp only at h1
   have Mh:∀(cs:List AV) (s s':RS),je s aN (ops.toList.filterMap (·.dst)) ops[k] cs=some s'→aN.contains d=true→ur d s.ρ ((ops.toList.filterMap (·.dst)).filter fun t=>!Nat.beq t d)=true:=by
    intro cs s s' hb hl
    unfold je at hb
    simp only [B7,hl,if_true] at hb
    by_cases hn:ur d s.ρ ((ops.toList.filterMap (·.dst)).filter fun t=>!Nat.beq t d)=true
    ·exact hn
    ·simp [hn] at hb
   unfold bC at pD
   split at pD
   ·rename_i t D0
    rw [B7] at pD
    simp only at pD
    split at pD
    ·rename_i hl
     rw [D0] at h1
     simp only [abx] at h1
     obtain⟨z,_,h1⟩:=h1
     exact Mh _ _ _ h1 hl
    ·cases pD
   ·rename_i t x D0
    rw [B7] at pD
    simp only at pD
    split at pD
    ·rename_i hl
     rw [D0] at h1
     exact Mh _ _ _ h1 hl
    ·cases pD
   all_goals first
    | (split at pD<;>cases pD)
    | (split at pD<;>first | cases pD | (split at pD<;>cases pD))
    | cases pD)
  unfold yn at h1
  rw [h1] at this
  rw [h2]
  exact ab8 this
 | false=>
  simp only [abK,if_false] at h
  rw [h.1,h.2]
  exact jo (tx k) (tx k) {} _ _ rfl rfl
theorem tV (s2:RS)(f:lU)(d:Option Nat)(s':RS)(t:Nat):(s2.shift f d s').ρ t=if d=some t then s'.ρ t else s2.ρ t:=by
 cases d with
 | none=>simp [RS.shift]
 | some d=>
  simp only [RS.shift,abz]
  by_cases h:t=d
  ·subst h; simp
  ·rw [if_neg h,if_neg (Ne.symm h)]
theorem qz (s2:RS)(f:lU)(d:Option Nat)(s':RS)(b:Nat):(s2.shift f d s').bx b=if f.wb=some b then s'.bx b else s2.bx b:=by
 cases hf:f.wb with
 | none=>simp [RS.shift,hf]
 | some k=>
  simp only [RS.shift,hf,abz]
  by_cases h:b=k
  ·subst h; simp
  ·rw [if_neg h,if_neg (Ne.symm h)]
theorem uO.lt (T:uO P cf aN ops tx ft ord):∀{j k:Nat},ord k j→k<j:=by
 intro j
 induction j using Nat.strongRecOn with
 | _ j ih=>
  intro k h
  obtain⟨o,ho,e,he,hb,h1⟩:=T.Ni k j h
  have h2:=T.back j o ho e he hb
  rcases h1 with h1 | h1
  ·omega
  ·have:=ih e.on h2 h1; omega
def rM (ops:Array Oper)(S:Nat→Bool):Prop:=∀j o,ops[j]? = some o→S j=true→∀e∈o.after,Region.binds .any e=true→S e.on=true
theorem uO.down (T:uO P cf aN ops tx ft ord){S:Nat→Bool}(hc:rM ops S):∀{j k:Nat},ord k j→S j=true→S k=true:=by
 intro j
 induction j using Nat.strongRecOn with
 | _ j ih=>
  intro k h hs
  obtain⟨o,ho,e,he,hb,h1⟩:=T.Ni k j h
  have h2:=T.back j o ho e he hb
  have h3:=hc j o ho hs e he hb
  rcases h1 with h1 | h1
  ·rw [←h1]; exact h3
  ·exact ih e.on h2 h1 h3
variable {S:Nat→Bool}{i:Nat}{oi:Oper}
theorem uO.before (T:uO P cf aN ops tx ft ord)(hc:rM ops S)(ho:ops[i]? = some oi)(hr:∀e∈oi.after,Region.binds .any e=true→S e.on=true){k:Nat}(h:ord k i):S k=true:=by
 obtain⟨o,Pe,e,he,hb,h1⟩:=T.Ni k i h
 rw [ho] at Pe
 cases Pe
 rcases h1 with h1 | h1
 ·rw [←h1]; exact hr e he hb
 ·exact T.down hc h1 (hr e he hb)
theorem uO.iff (T:uO P cf aN ops tx ft ord)(hc:rM ops S)(ho:ops[i]? = some oi)(hr:∀e∈oi.after,Region.binds .any e=true→S e.on=true)(hi:S i=false){k:Nat}(h:ord i k∨ord k i):S k=true↔k<i:=by
 rcases h with h | h
 ·have:=T.lt h
  refine⟨fun hk=>?_,fun _=>by omega⟩
  have:=T.down hc h hk
  rw [hi] at this; cases this
 ·exact⟨fun _=>T.lt h,fun _=>T.before hc ho hr h⟩
theorem yH (t:Nat)(k:Nat)(hd:ka ops k=some t)(hs:S k=true):(la ops tx ft S (k+1)).ρ t=(tx (k+1)).ρ t:=by
 simp only [la,hs,if_true,tV,hd]
theorem yI (t:Nat)(k:Nat)(h:¬ka ops k=some t∨S k=false):(la ops tx ft S (k+1)).ρ t=(la ops tx ft S k).ρ t:=by
 simp only [la]
 split
 ·rename_i hs
  rcases h with h | h
  ·rw [tV,if_neg h]
  ·rw [h] at hs; cases hs
 ·rfl
theorem yJ (b:Nat)(k:Nat)(hd:(ft k).wb=some b)(hs:S k=true):(la ops tx ft S (k+1)).bx b=(tx (k+1)).bx b:=by
 simp only [la,hs,if_true,qz,hd]
theorem yK (b:Nat)(k:Nat)(h:¬(ft k).wb=some b∨S k=false):(la ops tx ft S (k+1)).bx b=(la ops tx ft S k).bx b:=by
 simp only [la]
 split
 ·rename_i hs
  rcases h with h | h
  ·rw [qz,if_neg h]
  ·rw [h] at hs; cases hs
 ·rfl
theorem yL (k:Nat)(hd:(ft k).wh=true)(hs:S k=true):(la ops tx ft S (k+1)).h=(tx (k+1)).h:=by
 simp only [la,hs,if_true,RS.shift,hd]
theorem yM (k:Nat)(h:¬(ft k).wh=true∨S k=false):(la ops tx ft S (k+1)).h=(la ops tx ft S k).h:=by
 simp only [la]
 split
 ·rename_i hs
  rcases h with h | h
  ·simp only [RS.shift]; rw [if_neg h]
  ·rw [h] at hs; cases hs
 ·rfl
theorem uO.TS (T:uO P cf aN ops tx ft ord)(t:Nat)(k:Nat)(hk:k<ops.size)(h:¬ka ops k=some t):(tx (k+1)).ρ t=(tx k).ρ t:=by
 rw [T.shift hk,tV,if_neg h]
theorem uO.Qd (T:uO P cf aN ops tx ft ord)(b:Nat)(k:Nat)(hk:k<ops.size)(h:¬(ft k).wb=some b):(tx (k+1)).bx b=(tx k).bx b:=by
 rw [T.shift hk,qz,if_neg h]
theorem uO.Nj (T:uO P cf aN ops tx ft ord)(k:Nat)(hk:k<ops.size)(h:¬(ft k).wh=true):(tx (k+1)).h=(tx k).h:=by
 rw [T.shift hk]; simp only [RS.shift]; rw [if_neg h]
theorem uO.reads (T:uO P cf aN ops tx ft ord)(hc:rM ops S)(ho:ops[i]? = some oi)(hr:∀e∈oi.after,Region.binds .any e=true→S e.on=true)(hi:S i=false) :
  (∀t∈oi.looksAt ops,(la ops tx ft S ops.size).ρ t=(tx i).ρ t)∧(∀b∈(ft i).rb,(la ops tx ft S ops.size).bx b=(tx i).bx b)∧
  (∀id∈(ft i).rh,(la ops tx ft S ops.size).h.get id=(tx i).h.get id)∧((ft i).wh=true→(la ops tx ft S ops.size).h=(tx i).h):=by
 have hin:i<ops.size:=(acb.1 ho).1
 have Fw:∀k,k<ops.size→ops[k]? = some ops[k]!:=fun k hk=>by simp [hk]
 have pf:∀k,k=i→(S k=true↔k<i):=by
  rintro k rfl
  rw [hi]; simp
 refine⟨fun t ht=>?_,fun b hb=>?_,fun id hid=>?_,fun hw=>?_⟩
 ·refine qy (W:=fun k=>ka ops k=some t) (m:=fun k=>(la ops tx ft S k).ρ t) (x:=fun k=>(tx k).ρ t) (S:=S) (Nat.le_of_lt hin) rfl (fun k _ h hs=>yH t k h hs) (fun k _ h=>yI t k h) (fun k hk h=>T.TS t k hk h) (fun k hk h=>?_)
  by_cases tU:k=i
  ·exact pf k tU
  ·obtain⟨y,hy,Nk⟩:=abx.1 h
   rcases T.Mg k i y oi tU hy ho with h1 | h1 | h1
   ·exact T.iff hc ho hr hi (.inr h1)
   ·exact T.iff hc ho hr hi (.inl h1)
   ·exact absurd ht (h1 t Nk).1
 ·refine qy (W:=fun k=>(ft k).wb=some b) (m:=fun k=>(la ops tx ft S k).bx b) (x:=fun k=>(tx k).bx b) (S:=S) (Nat.le_of_lt hin) rfl (fun k _ h hs=>yJ b k h hs) (fun k _ h=>yK b k h) (fun k hk h=>T.Qd b k hk h) (fun k hk h=>?_)
  by_cases tU:k=i
  ·exact pf k tU
  ·rcases T.boxes k i hk hin tU with h1 | h1 | h1
   ·exact T.iff hc ho hr hi (.inr h1)
   ·exact T.iff hc ho hr hi (.inl h1)
   ·exact absurd hb (h1.1 b h).1
 ·
  obtain⟨p,hp,PY⟩:∃p,p≤ops.size∧∀k,k<ops.size→(ft k).wh=true→(S k=true↔k<p):=by
   have key:∀m,m≤ops.size→(∀k,k<m→(ft k).wh=true→S k=true)∨∃p,p<m∧(ft p).wh=true∧S p=false∧∀k,k<p→(ft k).wh=true→S k=true:=by
    intro m
    induction m with
    | zero=>intro _; exact .inl fun k hk=>by omega
    | succ m ih=>
     intro hm
     rcases ih (by omega) with h | ⟨p,h1,h2⟩
     ·by_cases hw:(ft m).wh=true∧S m=false
      ·exact .inr ⟨m,by omega,hw.1,hw.2,h⟩
      ·refine .inl fun k hk WO=>?_
       by_cases YM:k=m
       ·subst YM
        cases hs:S k with
        | true=>rfl
        | false=>exact absurd ⟨WO,hs⟩ hw
       ·exact h k (by omega) WO
     ·exact .inr ⟨p,by omega,h2⟩
   rcases key ops.size (abB _) with h | ⟨p,h1,h2,h3,h4⟩
   ·exact⟨ops.size,abB _,fun k hk hw=>⟨fun _=>hk,fun _=>h k hk hw⟩⟩
   ·refine⟨p,by omega,fun k hk hw=>⟨fun hs=>?_,fun SM=>h4 k SM hw⟩⟩
    rcases Nat.lt_or_ge k p with h5 | h5
    ·exact h5
    ·by_cases SM:k=p
     ·subst SM; rw [h3] at hs; cases hs
     ·rcases T.boxes p k h1 hk (Ne.symm SM) with h6 | h6 | h6
      ·have:=T.down hc h6 hs; rw [h3] at this; cases this
      ·have:=T.lt h6; omega
      ·have:=(h6.2 h2).1; rw [hw] at this; cases this
  have Nl:(la ops tx ft S ops.size).h=(tx p).h:=
   qy (W:=fun k=>(ft k).wh=true) (m:=fun k=>(la ops tx ft S k).h) (x:=fun k=>(tx k).h) (S:=S) hp rfl (fun k _ h hs=>yL k h hs) (fun k _ h=>yM k h) (fun k hk h=>T.Nj k hk h) PY
  rw [Nl]
  have Mi:∀k,k<ops.size→(p≤k∧k<i)∨(i≤k∧k<p)→(tx (k+1)).h.get id=(tx k).h.get id:=by
   intro k hk hb
   by_cases hw:(ft k).wh=true
   ·have hs:=PY k hk hw
    have tU:k≠i:=by
     rintro rfl
     rcases hb with hb | hb
     ·omega
     ·have:=hs.2 hb.2; rw [hi] at this; cases this
    rcases T.boxes k i hk hin tU with h1 | h1 | h1
    ·have hlt:=T.lt h1
     have:=hs.1 (T.before hc ho hr h1)
     omega
    ·have hlt:=T.lt h1
     have:=T.down hc h1 (hs.2 (by omega))
     rw [hi] at this; cases this
    ·exact ((h1.2 hw).2 id hid).symm
   ·rw [T.Nj k hk hw]
  have walk:∀a b,a≤b→b≤ops.size→(∀k,a≤k→k<b→(tx (k+1)).h.get id=(tx k).h.get id)→(tx b).h.get id=(tx a).h.get id:=by
   intro a b TT
   induction b with
   | zero=>
     intro _ _; have:a=0:=by omega
     subst this; rfl
   | succ b ih=>
    intro hb hk
    by_cases TU:a=b+1
    ·subst TU; rfl
    ·rw [hk b (by omega) (by omega)]
     exact ih (by omega) (by omega) fun k h1 h2=>hk k h1 (by omega)
  rcases Nat.le_total p i with h | h
  ·exact (walk p i h (Nat.le_of_lt hin) fun k h1 h2=>Mi k (by omega) (.inl ⟨h1,h2⟩)).symm
  ·exact walk i p h hp fun k h1 h2=>Mi k (by omega) (.inr ⟨h1,h2⟩)
 ·refine qy (W:=fun k=>(ft k).wh=true) (m:=fun k=>(la ops tx ft S k).h) (x:=fun k=>(tx k).h) (S:=S) (Nat.le_of_lt hin) rfl (fun k _ h hs=>yL k h hs) (fun k _ h=>yM k h) (fun k hk h=>T.Nj k hk h) (fun k hk h=>?_)
  by_cases tU:k=i
  ·exact pf k tU
  ·rcases T.boxes k i hk hin tU with h1 | h1 | h1
   ·exact T.iff hc ho hr hi (.inr h1)
   ·exact T.iff hc ho hr hi (.inl h1)
   ·have:=(h1.2 h).1; rw [hw] at this; cases this
theorem Az (t:Nat):∀k,(la ops tx ft S k).ρ t=(tx 0).ρ t∨∃j,j<k∧S j=true∧ka ops j=some t∧(la ops tx ft S k).ρ t=(tx (j+1)).ρ t
 | 0=>.inl rfl
 | k+1=>by
  by_cases h:ka ops k=some t∧S k=true
  ·exact .inr ⟨k,by omega,h.2,h.1,yH t k h.1 h.2⟩
  ·have h':¬ka ops k=some t∨S k=false:=by
    by_cases h1:ka ops k=some t
    ·right; cases hs:S k with
     | true=>exact absurd ⟨h1,hs⟩ h
     | false=>rfl
    ·exact .inl h1
   rw [yI t k h']
   rcases Az t k with h1 | ⟨j,h1,h2⟩
   ·exact .inl h1
   ·exact .inr ⟨j,by omega,h2⟩
theorem uP {k:Nat}{ρ:Nat→AV}:∀{l:List Nat},(∀t∈l,∀off,ρ t≠.lp k off)→ur k ρ l=true
 | [],_=>rfl
 | t::l,h=>by
  simp only [ur,abA]
  refine⟨?_,uP fun u hu=>h u (by simp [hu])⟩
  have:=h t (by simp)
  split
  ·rename_i j off heq
   simp only [bne_iff_ne,ne_eq]
   rintro rfl
   exact this off heq
  ·rfl
open Classical in
theorem uO.next (T:uO P cf aN ops tx ft ord)(hc:rM ops S)(ho:ops[i]? = some oi)(hr:∀e∈oi.after,Region.binds .any e=true→S e.on=true)(hi:S i=false){S':Nat→Bool}(FI:∀k,S' k=if k=i then true else S k) :
  nM P cf aN ops.toList (la ops tx ft S ops.size) oi=some (la ops tx ft S' ops.size):=by
 have hin:i<ops.size:=(acb.1 ho).1
 obtain⟨h1,h2,h3,h4⟩:=T.reads hc ho hr hi
 obtain⟨w,hw,D0⟩:=T.op i oi ho
 have tl:ka ops i=oi.dst:=by simp [ka,ho]
 have xq:∀j,i<j→j<ops.size→(ord i j∨ord j i)→S j=false:=by
  intro j zT hj h
  cases hs:S j with
  | false=>rfl
  | true=>have:=(T.iff hc ho hr hi h).1 hs; omega
 have Nl:la ops tx ft S' ops.size=(la ops tx ft S ops.size).shift (ft i) (ka ops i) (tx (i+1)):=by
  refine RS.ext' (fun t=>?_) (fun b=>?_) ?_
  ·rw [tV]
   have:=yG (W:=fun k=>ka ops k=some t) (m:=fun k=>(la ops tx ft S k).ρ t) (m':=fun k=>(la ops tx ft S' k).ρ t) (x:=fun k=>(tx k).ρ t) (S:=S) (S':=S') hin rfl
    (fun k _ h hs=>yH t k h hs) (fun k _ h=>yI t k h) (fun k _ h hs=>yH t k h hs) (fun k _ h=>yI t k h) FI hi (fun Pf j hj zT Qe=>by
     obtain⟨y,hy,Nk⟩:=abx.1 Qe
     rw [tl] at Pf
     rcases T.Mg i j oi y (by omega) ho hy with h | h | h
     ·exact xq j zT hj (.inl h)
     ·exact xq j zT hj (.inr h)
     ·exact absurd Nk (h t Pf).2)
   rw [this]
   by_cases hd:ka ops i=some t
   ·rw [if_pos hd,if_pos hd]
   ·rw [if_neg hd,if_neg hd]
  ·rw [qz]
   have:=yG (W:=fun k=>(ft k).wb=some b) (m:=fun k=>(la ops tx ft S k).bx b) (m':=fun k=>(la ops tx ft S' k).bx b) (x:=fun k=>(tx k).bx b) (S:=S) (S':=S') hin rfl
    (fun k _ h hs=>yJ b k h hs) (fun k _ h=>yK b k h) (fun k _ h hs=>yJ b k h hs) (fun k _ h=>yK b k h) FI hi (fun Pf j hj zT Qe=>by
     rcases T.boxes i j hin hj (by omega) with h | h | h
     ·exact xq j zT hj (.inl h)
     ·exact xq j zT hj (.inr h)
     ·exact absurd Qe (h.1 b Pf).2)
   rw [this]
   by_cases hd:(ft i).wb=some b
   ·rw [if_pos hd,if_pos hd]
   ·rw [if_neg hd,if_neg hd]
  ·have:=yG (W:=fun k=>(ft k).wh=true) (m:=fun k=>(la ops tx ft S k).h) (m':=fun k=>(la ops tx ft S' k).h) (x:=fun k=>(tx k).h) (S:=S) (S':=S') hin rfl
    (fun k _ h hs=>yL k h hs) (fun k _ h=>yM k h) (fun k _ h hs=>yL k h hs) (fun k _ h=>yM k h) FI hi (fun Pf j hj zT Qe=>by
     rcases T.boxes i j hin hj (by omega) with h | h | h
     ·exact xq j zT hj (.inl h)
     ·exact xq j zT hj (.inr h)
     ·have:=(h.2 Pf).1; rw [Qe] at this; cases this)
   rw [this]
   simp only [RS.shift]
   by_cases hd:(ft i).wh=true
   ·rw [if_pos hd,if_pos hd]
   ·rw [if_neg hd,if_neg hd]
 have Qf:∀x∈oi.op.operands,ck (la ops tx ft S ops.size).ρ x=ck (tx i).ρ x:=by
  intro x hx
  cases x with
  | tmp t=>
   refine h1 t ?_
   unfold Oper.looksAt
   rw [abP]
   left
   rw [List.mem_filterMap]
   exact⟨.tmp t,acy.2 hx,rfl⟩
  | _=>rfl
 have Qg:iJ ops.toList (la ops tx ft S ops.size).ρ oi=iJ ops.toList (tx i).ρ oi:=by
  unfold iJ
  cases hg:oi.guard with
  | none=>rfl
  | some g=>
   obtain⟨g,want⟩:=g
   simp only
   cases hq:(ops.toList[g]?).bind (·.dst) with
   | none=>rfl
   | some d=>
    simp only [abw]
    rw [h1 d]
    unfold Oper.looksAt
    rw [abP]
    right
    rw [hg]
    simp only
    have:(ops[g]?).bind (·.dst)=some d:=by simpa using hq
    rw [this]
    simp
 unfold nM
 rw [Qg,hw]
 simp only [abw]
 rw [Nl,tl]
 cases w with
 | false=>
  simp only [abK,if_false] at D0 ⊢
  rw [D0.1,D0.2]
  congr 1
  exact jo (tx i) _ {} _ _ rfl rfl
 | true=>
  simp only [if_true] at D0 ⊢
  obtain⟨D0,Pg⟩:=D0
  unfold yn at D0 ⊢
  rw [FH Qf,Pg]
  rw [Pg] at h2 h3 h4
  refine xp D0 h2 h3 h4 (fun pD d B7=>uP fun t ht off he=>?_)
  rw [acW] at ht
  obtain⟨YN,YO⟩:=ht
  have L9:t≠d:=by simpa [beq_nat] using YO
  obtain⟨l1,l2⟩:=T.TR i oi d ho (by rw [Pg]; exact pD) B7
  rcases Az (ops:=ops) (tx:=tx) (ft:=ft) (S:=S) t ops.size with h | ⟨j,hj,hs,YP,h⟩
  ·rw [h] at he
   exact l1 t YN L9 off he
  ·rw [h] at he
   obtain⟨y,hy,Nk⟩:=abx.1 YP
   have hji:j≠i:=by rintro rfl; rw [hi] at hs; cases hs
   rcases l2 j y t hy hji with h5 | h5
   ·have:=T.down hc h5 hs; rw [hi] at this; cases this
   ·exact h5 Nk off he
theorem D1 (T:uO P cf aN ops tx ft ord)(kQ:∀k,k<ops.size→S k=true):∀k,k≤ops.size→la ops tx ft S k=tx k
 | 0,_=>rfl
 | k+1,hk=>by
  simp only [la,kQ k (by omega),if_true]
  rw [D1 T kQ k (by omega)]
  exact (T.shift (by omega)).symm
def left (n:Nat)(S:Nat→Bool):Nat:=(acX n).countP fun j=>!S j
theorem FJ {n:Nat}{S:Nat→Bool}(h:left n S=0):∀k,k<n→S k=true:=by
 intro k hk
 unfold left at h
 rw [List.countP_eq_zero] at h
 simpa using h k (ac0.2 hk)
theorem Hs {n i:Nat}(hi:i<n){S S':Nat→Bool}(Qc:S i=false)(FI:∀k,S' k=if k=i then true else S k):left n S'+1=left n S:=by
 unfold left
 have:∀m,(acX m).countP (fun j=>!S' j)+(if i<m then 1 else 0)=(acX m).countP fun j=>!S j:=by
  intro m
  induction m with
  | zero=>simp
  | succ m ih=>
   rw [List.range_succ,List.countP_append,List.countP_append]
   simp only [List.countP_cons,List.countP_nil]
   by_cases hm:m=i
   ·subst hm
    have h1:S' m=true:=by rw [FI]; simp
    rw [h1,Qc]
    simp at ih ⊢
    omega
   ·have h1:S' m=S m:=by rw [FI,if_neg hm]
    rw [h1]
    by_cases WQ:i<m
    ·have h3:i<m+1:=by omega
     simp only [WQ,h3,if_true] at ih ⊢
     omega
    ·have h3:¬i<m+1:=by omega
     simp only [WQ,h3,if_false] at ih ⊢
     omega
 have:=this n
 rw [if_pos hi] at this
 exact this
theorem Nn (T:uO P cf aN ops tx ft ord)(hcf:CallOK P cf){L0:Nat→Prop}{c0:Cx}{n:Nat}(hb0:c0.base≤c0.w.heap.size)(Ah:xo n ops.toList=true){Q:Exit→Act→World→Prop}
  (hQ:∀a' w',Inv L0 c0 n (ops.toList.filterMap (·.dst)) (tx ops.size) a' w'→Q .normal a' w') :
  ∀(fuel:Nat) (fe:Array Bool) (a:Act) (w:World),fe.size=ops.size→rM ops (fun j=>fe.getD j false)→left ops.size (fun j=>fe.getD j false)≤fuel→
   Inv L0 c0 n (ops.toList.filterMap (·.dst)) (la ops tx ft (fun j=>fe.getD j false) ops.size) a w→wpAny P .any ops Q fuel fe a w:=by
 intro fuel
 have Ht:∀(fe:Array Bool) a w,fe.size=ops.size→Region.ready .any ops fe=[]→Inv L0 c0 n (ops.toList.filterMap (·.dst)) (la ops tx ft (fun j=>fe.getD j false) ops.size) a w→Q .normal a w:=by
  intro fe a w hsz Ph hi
  have kQ:∀k,k<ops.size→fe.getD k false=true:=by
   intro k
   induction k using Nat.strongRecOn with
   | _ k ih=>
    intro hk
    cases hl:fe.getD k false with
    | true=>rfl
    | false=>
     have:k∈Region.ready .any ops fe:=mem_ready.2 ⟨getD_in (by omega) hl,ops[k],by simp [hk],fun e he hb=>by
      have:=T.back k ops[k] (by simp [hk]) e he hb
      exact ih e.on this (by omega)⟩
     rw [Ph] at this
     cases this
  rw [D1 (S:=fun j=>fe.getD j false) T kQ _ (abB _)] at hi
  exact hQ a w hi
 induction fuel with
 | zero=>
  intro fe a w hsz hc hl hi
  have kQ:=FJ (Nat.le_zero.1 hl)
  have Ph:Region.ready .any ops fe=[]:=by
   rw [List.eq_nil_iff_forall_not_mem]
   intro j hj
   obtain⟨h1,o,ho,_⟩:=mem_ready.1 hj
   have Qh:j<ops.size:=(acb.1 ho).1
   have h2:=kQ j Qh
   have CL:j<fe.size:=by omega
   simp [CL] at h1 h2
   rw [h1] at h2; cases h2
  exact⟨Ph,Ht fe a w hsz Ph hi⟩
 | succ fuel ih=>
  intro fe a w hsz hc hl hi
  refine⟨fun Ph=>Ht fe a w hsz Ph hi,fun i rN=>?_⟩
  obtain⟨h1,o,ho,Qi⟩:=mem_ready.1 rN
  have hin:i<ops.size:=(acb.1 ho).1
  have CM:i<fe.size:=by omega
  have Qc:fe.getD i false=false:=by simp [CM] at h1 ⊢; exact h1
  have FI:∀k,(fe.setIfInBounds i true).getD k false=if k=i then true else fe.getD k false:=by
   intro k
   by_cases hk:k=i
   ·subst hk
    rw [if_pos rfl]
    simp [CM]
   ·rw [if_neg hk,getD_set_ne false (Ne.symm hk)]
  have hst:=T.next (S:=fun j=>fe.getD j false) (S':=fun k=>(fe.setIfInBounds i true).getD k false) hc ho Qi Qc FI
  unfold wpOp
  rw [ho]
  simp only
  have Qj:o∈ops.toList:=acy.2 (Array.mem_of_getElem? ho)
  have:=Ar (Q:=Q) (K:=wpAny P .any ops Q fuel (fe.setIfInBounds i true)) hcf hb0 rfl (As Ah Qj) hst hi (fun a' w' ku=>by
   refine ih _ a' w' (by simpa using hsz) ?_ ?_ ku
   ·intro j oj TV hj e he hb
    dsimp only at hj ⊢
    rw [FI] at hj ⊢
    by_cases hji:j=i
    ·subst hji
     rw [ho] at TV
     cases TV
     have:=Qi e he hb
     rw [this]; simp
    ·rw [if_neg hji] at hj
     have:=hc j oj TV hj e he hb
     simp only at this
     rw [this]; simp
   ·have:=Hs hin (S:=fun j=>fe.getD j false) Qc FI
    omega)
  split
  ·rename_i hw; rw [if_pos hw] at this; exact .inl this
  ·rename_i hw; rw [if_neg hw] at this; exact this
theorem xt {opsL:List Oper}:∀(l:List Oper) (s r:RS) (es:List nv),qd P cf aN opsL s l=some (es,r)→∃tx:Nat→RS,tx 0=s∧tx l.length=r∧
  ∀k o,l[k]? = some o→∃w,iJ opsL (tx k).ρ o=some w∧(if w then yn P cf aN (opsL.filterMap (·.dst)) (tx k) o=some (tx (k+1)) else tx (k+1)=(tx k).set o.dst (.tup []))∧
   es[k]? = some {o,f:=if w then bC aN (ck (tx k).ρ) o else {},s:=tx k,s':=tx (k+1)}
 | [],s,r,es,h=>by
  simp only [qd,abz,abH] at h
  obtain⟨rfl,rfl⟩:=h
  exact⟨fun _=>s,rfl,rfl,fun k o ho=>by simp at ho⟩
 | o::l,s,r,es,h=>by
  simp only [qd,abx,aby] at h
  obtain⟨w,hw,s1,h1,⟨sI,r'⟩,h2,h3⟩:=h
  simp only [abH] at h3
  obtain⟨rfl,rfl⟩:=h3
  obtain⟨tx,t0,tn,ht⟩:=xt l s1 r' sI h2
  refine⟨fun | 0=>s | k+1=>tx k,rfl,tn,fun k o' ho=>?_⟩
  cases k with
  | zero=>
   simp only [acp,abz] at ho
   subst ho
   refine⟨w,hw,?_,?_⟩
   ·cases w with
    | true=>simpa [t0] using h1
    | false=>
     simp only [abK,if_false,abz] at h1 ⊢
     rw [t0]; exact h1.symm
   ·simp [t0]
  | succ k=>
   obtain⟨w',h4,h5,h6⟩:=ht k o' (by simpa using ho)
   exact⟨w',h4,h5,by simpa using h6⟩
theorem Hu {e:Operand→AV}{o:Oper}(h:(bC aN e o).al=true):(bC aN e o).wb.isSome=true:=by
 unfold bC at h ⊢
 split at h<;>try (cases h; done)
 all_goals (split at h<;>try (cases h; done))
 all_goals (split at h<;>try (cases h; done))
 all_goals simp_all
theorem FK {k:Nat}{x:AV}(h:MV k x=false):∀off,x≠.lp k off:=by
 rintro off rfl
 simp [MV] at h
theorem AA (hm:P.follows .mixedOrders=true)(hcf:CallOK P cf)(YQ:SteadyF cf):CK P cf:=by
 intro L0 c0 n aN id ops s s' h hb0 Ah a w Q hi hQ
 unfold kL at h
 dsimp only at h
 split at h
 rotate_left
 ·cases h
 rename_i yN
 rw [abx] at h
 obtain⟨⟨es,r⟩,CB,h⟩:=h
 simp only at h
 split at h
 rotate_left
 ·cases h
 rename_i AB
 cases h
 obtain⟨tx,t0,tn,ht⟩:=xt ops.toList s s' es CB
 generalize PF:kl [] ops.toList=ms at yN AB
 have TW:∀k i,(ms.getD i 0).testBit k=true→∃o,ops[i]? = some o∧∃e∈o.after,Region.binds .any e=true∧(e.on=k∨(ms.getD e.on 0).testBit k=true):=by
  intro k i hk
  obtain⟨o,ho,e,he,hb,h1⟩:=(sU ops.toList []).2 i k (by rw [PF]; exact hk) (by simp)
  refine⟨o,by simpa using ho,e,acy.1 he,hb,?_⟩
  rw [PF] at h1
  exact h1
 unfold oA at yN
 simp only [abA] at yN
 obtain⟨No,Hv⟩:=yN
 let ft:Nat→lU:=fun k=>((es[k]?).map (·.f)).getD {}
 have uB:∀k o,ops[k]? = some o→∃w,iJ ops.toList (tx k).ρ o=some w∧(if w then yn P cf aN (ops.toList.filterMap (·.dst)) (tx k) o=some (tx (k+1)) else tx (k+1)=(tx k).set o.dst (.tup []))∧
   es[k]? = some {o,f:=ft k,s:=tx k,s':=tx (k+1)}∧ft k=if w then bC aN (ck (tx k).ρ) o else {}:=by
  intro k o ho
  obtain⟨w,h1,h2,h3⟩:=ht k o (by simpa using ho)
  have Pg:ft k=if w then bC aN (ck (tx k).ρ) o else {}:=by simp only [ft,h3,abE,acz]
  exact⟨w,h1,h2,by rw [Pg]; exact h3,Pg⟩
 have rN:∀k o,ops[k]? = some o→((⟨o,ft k,tx k,tx (k+1)⟩:nv),k)∈es.zipIdx:=by
  intro k o ho
  obtain⟨w,_,_,h3,_⟩:=uB k o ho
  exact List.mk_mem_zipIdx_iff_getElem?.2 h3
 simp only [abW,acW,abA] at AB
 have sJ:∀k o,ops[k]? = some o→(ft k).quiet=false→(((⟨o,ft k,tx k,tx (k+1)⟩:nv),k)∈es.zipIdx∧(!(ft k).quiet)=true):=fun k o ho hq=>⟨rN k o ho,by rw [hq]; rfl⟩
 have Fw:∀k,k<ops.size→ops[k]? = some ops[k]!:=fun k hk=>by simp [hk]
 have Np:∀i j x y,ops[i]? = some x→ops[j]? = some y→i≠j→(ft i).quiet=false→(ft j).quiet=false→(ms.getD j 0).testBit i=true∨(ms.getD i 0).testBit j=true∨
   nv.kj ⟨x,ft i,tx i,tx (i+1)⟩ ⟨y,ft j,tx j,tx (j+1)⟩=true:=by
  intro i j x y hx hy zT J3 J4
  rcases Nat.lt_or_ge i j with hlt | hge
  ·have:=(AB _ (sJ i x hx J3)).2 _ (sJ j y hy J4)
   simp only [acu,abA] at this
   rcases this with (h1 | h1) | h1
   ·have:=Nat.le_of_ble_eq_true h1; omega
   ·exact .inl h1
   ·exact .inr (.inr h1.1)
  ·have:=(AB _ (sJ j y hy J4)).2 _ (sJ i x hx J3)
   simp only [acu,abA] at this
   rcases this with (h1 | h1) | h1
   ·have:=Nat.le_of_ble_eq_true h1; omega
   ·exact .inr (.inl h1)
   ·exact .inr (.inr h1.2)
 have TX:∀id,(tx 0).h.ver id<(tx 0).h.next:=by
  obtain⟨_,c,Lo,lam,_,f,_⟩:=hi
  rw [t0,←f.h]; exact f.rel.ver
 have hst:∀k,k<ops.size→Steady (tx k).h (tx (k+1)).h:=by
  intro k hk
  obtain⟨w,h1,h2,_⟩:=uB k _ (Fw k hk)
  cases w with
  | true=>exact uN YQ (by simpa [yn] using h2)
  | false=>
   simp only [abK,if_false] at h2
   rw [h2,j8]; exact Steady.refl _
 have SN:∀k,k≤ops.size→∀id,(tx k).h.ver id<(tx k).h.next:=by
  intro k
  induction k with
  | zero=>intro _; exact TX
  | succ k ih=>intro hk; exact (hst k (by omega)).wf (ih (by omega))
 have T:uO P cf aN ops tx ft (fun k i=>(ms.getD i 0).testBit k=true):=by
  refine⟨fun k o ho=>?_,TW,fun i o ho e he hb=>?_,fun i j x y zT hx hy=>?_,fun i j hin Qh zT=>?_,fun i o d ho pD hd=>?_⟩
  ·obtain⟨w,h1,h2,h3,h4⟩:=uB k o ho
   refine⟨w,h1,?_⟩
   cases w with
   | true=>exact⟨h2,h4⟩
   | false=>exact⟨h2,h4⟩
  ·have:=qw _ 0 No i o (by simpa using ho) e (acy.2 he) hb
   omega
  ·have pW:∀x y:Oper,yo ops x y=true→∀d,x.dst=some d→d∉y.looksAt ops∧y.dst≠some d:=by
    intro x y h d hd
    unfold yo at h
    rw [hd] at h
    simpa using h
   rcases Nat.lt_or_ge i j with hlt | hge
   ·have:=lJ _ _ 0 Hv i j x y hlt (by simpa using hx) (by simpa using hy)
    simp only [abY,acu,abA] at this
    rcases this with h1 | h1
    ·exact .inl h1
    ·exact .inr (.inr (pW _ _ h1.1))
   ·have:=lJ _ _ 0 Hv j i y x (by omega) (by simpa using hy) (by simpa using hx)
    simp only [abY,acu,abA] at this
    rcases this with h1 | h1
    ·exact .inr (.inl h1)
    ·exact .inr (.inr (pW _ _ h1.2))
  ·cases J3:(ft i).quiet with
   | true=>
    unfold lU.quiet at J3
    simp only [abA,Option.isNone_iff_eq_none,acQ] at J3
    exact .inr (.inr ⟨fun k hk=>(by rw [J3.1.1.2] at hk; cases hk),fun hk=>(by rw [J3.2] at hk; cases hk)⟩)
   | false=>
    cases J4:(ft j).quiet with
    | true=>
     unfold lU.quiet at J4
     simp only [abA,Option.isNone_iff_eq_none,acQ,List.isEmpty_iff] at J4
     obtain⟨⟨⟨q1,q2⟩,q3⟩,q4⟩:=J4
     exact .inr (.inr ⟨fun k hk=>⟨by rw [q1]; simp,by rw [q2]; simp⟩,fun hk=>⟨q4,by rw [q3]; simp⟩⟩)
    | false=>
     rcases Np i j _ _ (Fw i hin) (Fw j Qh) zT J3 J4 with h1 | h1 | h1
     ·exact .inl h1
     ·exact .inr (.inl h1)
     ·refine .inr (.inr ?_)
      unfold nv.kj at h1
      simp only [abA,acu,acQ,abW] at h1
      obtain⟨h2,h3⟩:=h1
      refine⟨fun k hk=>?_,fun hk=>?_⟩
      ·rw [hk] at h2
       simpa using h2
      ·rcases h3 with h3 | h3
       ·rw [hk] at h3; cases h3
       ·refine⟨h3.1,fun id hid=>?_⟩
        have hv:=acK (h3.2 id hid)
        rcases (hst i hin).keep id with⟨_,h5⟩| h5
        ·exact h5.symm
        ·have:=SN i (by omega) id; omega
  ·obtain⟨w,h1,h2,h3,h4⟩:=uB i o ho
   have hq:(ft i).quiet=false:=by
    cases w with
    | false=>rw [h4] at pD; cases pD
    | true=>
     rw [h4] at pD ⊢
     have:=Hu pD
     unfold lU.quiet
     simp only [if_true] at this ⊢
     cases hwb:(bC aN (ck (tx i).ρ) o).wb with
     | none=>rw [hwb] at this; cases this
     | some k=>simp
   have:=(AB _ (sJ i o ho hq)).1
   unfold tR at this
   simp only [pD,hd] at this
   simp only [abA,abW,acu] at this
   obtain⟨k1,k2⟩:=this
   refine⟨fun t ht L9 off=>?_,fun j y t hy hji=>?_⟩
   ·rw [t0]
    exact rH k1 t (by rw [acW]; exact⟨ht,by simpa [beq_nat] using L9⟩) off
   ·have:=k2 _ (rN j y hy)
    rcases this with (h5 | h5) | h5
    ·have:=acK h5; omega
    ·exact .inl h5
    ·right
     intro Nk off
     simp only [nv.out,Nk,acQ] at h5
     exact FK h5 off
 have hlen:tx ops.size=s':=by simpa using tn
 refine wp_region_any hm ?_
 refine Nn T hcf hb0 Ah (fun a' w' ku=>hQ a' w' (by rw [hlen] at ku; exact ku)) ops.size _ _ _ (by simp) ?_ ?_ ?_
 ·intro j o _ hj
  simp only [getD_replicate_false] at hj
  cases hj
 ·unfold left
  exact acv (List.countP_le_length) (by simp)
 ·have Hf:∀k,la ops tx ft (fun j=>(Array.replicate ops.size false).getD j false) k=tx 0:=by
   intro k
   induction k with
   | zero=>rfl
   | succ k ih=>
    rw [la,getD_replicate_false,if_neg (by simp)]
    exact ih
  rw [Hf,t0]
  exact hi.drew
end
end Go.R
namespace Go.R
open Go
section
variable {c d:Cx}{L L':Nat→Prop}
mutual
theorem D2 (hw:d.w=c.w)(hbs:d.base≤c.base)(my:∀b,RO c L b→RO d L' b):∀(x:AV) (v:Value),x.fj=true→VR c L x v→VR d L' x v
 | .any,_,h,_=>by simp [AV.fj] at h
 | .bool _,_,_,h=>h
 | .int _ _,_,_,h=>h
 | .str _,_,_,h=>h
 | .oO,_,_,h=>h
 | .ptr _ _,_,h,_=>by simp [AV.fj] at h
 | .lp _ _,_,h,_=>by simp [AV.fj] at h
 | .fp cs off,v,h,hv=>by
  simp only [AV.fj] at h
  simp only [VR] at hv ⊢
  obtain⟨b,o,rfl,hc⟩:=hv
  exact⟨b,o,rfl,hc.imp id fun ⟨hr,hc⟩=>⟨my b hr,pE hw hbs my cs b o h hc⟩⟩
 | .nils,_,_,h=>h
 | .fz cs n ex,v,h,hv=>by
  simp only [AV.fj] at h
  simp only [VR] at hv ⊢
  obtain⟨a,cap,rfl,h1,h2,hs,hc⟩:=hv
  exact⟨a,cap,rfl,h1,h2,hs,hc.imp id fun ⟨b,o,ha,hr,hex,hc⟩=>⟨b,o,ha,my b hr,fun h=>acv hbs (hex h),pE hw hbs my cs b o h hc⟩⟩
 | .rs _ _ _ _,_,h,_=>by simp [AV.fj] at h
 | .nu,_,_,h=>h
 | .mp _,_,h,_=>by simp [AV.fj] at h
 | .fn f cap,v,h,hv=>by
  simp only [AV.fj] at h
  simp only [VR] at hv ⊢
  obtain⟨vs,rfl,h1⟩:=hv
  exact⟨vs,rfl,qA hw hbs my cap vs.toList h h1⟩
 | .pY,_,_,h=>h
 | .agg cs,v,h,hv=>by
  simp only [AV.fj] at h
  simp only [VR] at hv ⊢
  obtain⟨vs,rfl,h1⟩:=hv
  exact⟨vs,rfl,qA hw hbs my cs vs.toList h h1⟩
 | .tup cs,v,h,hv=>by
  simp only [AV.fj] at h
  simp only [VR] at hv ⊢
  obtain⟨vs,rfl,h1⟩:=hv
  exact⟨vs,rfl,qA hw hbs my cs vs.toList h h1⟩
theorem qA (hw:d.w=c.w)(hbs:d.base≤c.base)(my:∀b,RO c L b→RO d L' b):∀(xs:List AV) (vs:List Value),dz xs=true→VRs c L xs vs→VRs d L' xs vs
 | [],[],_,_=>trivial
 | x::xs,v::vs,h,hv=>by
  simp only [dz,abA] at h
  exact⟨D2 hw hbs my x v h.1 hv.1,qA hw hbs my xs vs h.2 hv.2⟩
 | [],_::_,_,h=>h.elim
 | _::_,[],_,h=>h.elim
theorem pE (hw:d.w=c.w)(hbs:d.base≤c.base)(my:∀b,RO c L b→RO d L' b):∀(xs:List AV) (b o:Nat),dz xs=true→Cells c L xs b o→Cells d L' xs b o
 | [],_,_,_,_=>trivial
 | x::xs,b,o,h,hv=>by
  simp only [dz,abA] at h
  obtain⟨⟨v,h1,h2,h3⟩,h4⟩:=hv
  exact⟨⟨v,by rw [hw]; exact h1,h2,D2 hw hbs my x v h.1 h3⟩,pE hw hbs my xs b (o+1) h.2 h4⟩
end
mutual
theorem yO (hw:d.w=c.w)(my:∀b,RO c L b→RO d L' b):∀(x:AV) (v:Value),x.fj=true→VR c L x v→VR d L' x.ki v
 | .any,_,h,_=>by simp [AV.fj] at h
 | .bool _,_,_,h=>h
 | .int _ _,_,_,h=>h
 | .str _,_,_,h=>h
 | .oO,_,_,h=>h
 | .ptr _ _,_,h,_=>by simp [AV.fj] at h
 | .lp _ _,_,h,_=>by simp [AV.fj] at h
 | .fp cs off,v,h,hv=>by
  simp only [AV.fj] at h
  simp only [VR,AV.ki] at hv ⊢
  obtain⟨b,o,rfl,hc⟩:=hv
  refine⟨b,o,rfl,?_⟩
  rcases hc with rfl | ⟨hr,hc⟩
  ·exact .inl rfl
  ·exact .inr ⟨my b hr,rO hw my cs b o h hc⟩
 | .nils,v,_,h=>by
  simp only [VR] at h
  simp only [AV.ki,VR]
  exact⟨none,0,h,abB _,by simp,.inr ⟨trivial,rfl⟩,.inl trivial⟩
 | .fz cs n ex,v,h,hv=>by
  simp only [AV.fj] at h
  simp only [VR,AV.ki] at hv ⊢
  obtain⟨a,cap,rfl,h1,h2,hs,hc⟩:=hv
  refine⟨a,cap,rfl,h1,by simp,hs.imp id fun h=>⟨by rw [h.1]; rfl,h.2⟩,?_⟩
  rcases hc with rfl | ⟨b,o,ha,hr,hex,hc⟩
  ·exact .inl rfl
  ·exact .inr ⟨b,o,ha,my b hr,by simp,rO hw my cs b o h hc⟩
 | .rs _ _ _ _,_,h,_=>by simp [AV.fj] at h
 | .nu,_,_,h=>h
 | .mp _,_,h,_=>by simp [AV.fj] at h
 | .fn f cap,v,h,hv=>by
  simp only [AV.fj] at h
  simp only [VR,AV.ki] at hv ⊢
  obtain⟨vs,rfl,h1⟩:=hv
  exact⟨vs,rfl,qB hw my cap vs.toList h h1⟩
 | .pY,_,_,h=>h
 | .agg cs,v,h,hv=>by
  simp only [AV.fj] at h
  simp only [VR,AV.ki] at hv ⊢
  obtain⟨vs,rfl,h1⟩:=hv
  exact⟨vs,rfl,qB hw my cs vs.toList h h1⟩
 | .tup cs,v,h,hv=>by
  simp only [AV.fj] at h
  simp only [VR,AV.ki] at hv ⊢
  obtain⟨vs,rfl,h1⟩:=hv
  exact⟨vs,rfl,qB hw my cs vs.toList h h1⟩
theorem qB (hw:d.w=c.w)(my:∀b,RO c L b→RO d L' b):∀(xs:List AV) (vs:List Value),dz xs=true→VRs c L xs vs→VRs d L' (eB xs) vs
 | [],[],_,_=>trivial
 | x::xs,v::vs,h,hv=>by
  simp only [dz,abA] at h
  exact⟨yO hw my x v h.1 hv.1,qB hw my xs vs h.2 hv.2⟩
 | [],_::_,_,h=>h.elim
 | _::_,[],_,h=>h.elim
theorem rO (hw:d.w=c.w)(my:∀b,RO c L b→RO d L' b):∀(xs:List AV) (b o:Nat),dz xs=true→Cells c L xs b o→Cells d L' (eB xs) b o
 | [],_,_,_,_=>trivial
 | x::xs,b,o,h,hv=>by
  simp only [dz,abA] at h
  obtain⟨⟨v,h1,h2,h3⟩,h4⟩:=hv
  exact⟨⟨v,by rw [hw]; exact h1,h2,yO hw my x v h.1 h3⟩,rO hw my xs b (o+1) h.2 h4⟩
end
mutual
theorem rP (hw:d.w=c.w)(my:∀b,RO c L b→RO d L' b)(hrel:HRel c L)(hid:∀id,Live c.h id→RO d L' (c.β id).1):∀(n:Nat) (x y:AV) (v:Value),cz c.h n x=some y→VR c L x v→VR d L' y v
 | 0,x,y,v,h,_=>by simp [cz] at h
 | n+1,x,y,v,h,hv=>by
  have TY:(if x.fj then some x.ki else none)=some y→VR d L' y v:=by
   intro h
   split at h
   ·rename_i hn; cases h; exact yO hw my x v hn hv
   ·cases h
  cases x with
  | ptr id off=>
   simp only [cz,abx] at h
   obtain⟨ob,ho,h⟩:=h
   cases ob with
   | map es=>cases h
   | row t cs=>cases h
   | cells cs=>
    simp only [aby] at h
    obtain⟨gp,hcs,rfl⟩:=h
    have hl:Live c.h id:=⟨hrel.lt _ _ ho,by simp [ho]⟩
    obtain⟨m,_,_,hc⟩:=hrel.obj _ _ ho
    simp only [VR] at hv ⊢
    obtain⟨_,a,rfl,ha⟩:=hv
    rw [ha hl]
    exact⟨_,_,rfl,.inr ⟨hid id hl,kT hw my hrel hid n cs gp _ _ hcs hc⟩⟩
  | rs id off len jj=>
   simp only [cz] at h
   split at h
   ·rename_i hid
    split at h
    rotate_left
    ·cases h
    rename_i hl0
    cases h
    simp only [VR] at hv ⊢
    rcases hv with⟨_,_,_,a,rfl⟩| hv
    ·exact⟨a,0,rfl,abB _,by simp,.inr ⟨trivial,rfl⟩,.inl trivial⟩
    ·exact absurd hid hv.1
   rename_i lf
   rw [abx] at h
   obtain⟨ob,ho,h⟩:=h
   cases ob with
   | map es=>cases h
   | row t cs=>cases h
   | cells cs=>
    simp only at h
    split at h
    rotate_left
    ·cases h
    rename_i hle
    simp only [aby] at h
    obtain⟨gp,hcs,rfl⟩:=h
    have hl:Live c.h id:=⟨hrel.lt _ _ ho,by simp [ho]⟩
    obtain⟨m,_,_,hc⟩:=hrel.obj _ _ ho
    simp only [VR] at hv ⊢
    rcases hv with hv | ⟨_,_,a,cap,rfl,h1,h2,h3⟩
    ·exact absurd hv.1 lf
    refine⟨a,cap,rfl,h1,by simp,.inl h2,?_⟩
    rcases h3 hl with⟨h4,_⟩| h4
    ·exact .inr ⟨_,_,h4,hid id hl,by simp,kT hw my hrel hid n _ gp _ _ hcs ((hc.drop off).take (len*jj))⟩
    ·left
     have hz:len=0:=by omega
     subst hz
     rw [Nat.zero_mul,List.take_zero] at hcs
     cases n with
     | zero=>simp [bF] at hcs
     | succ n=>simp only [bF,abz] at hcs; exact hcs.symm
  | agg cs=>
   simp only [cz,aby] at h
   obtain⟨gp,hcs,rfl⟩:=h
   simp only [VR] at hv ⊢
   obtain⟨vs,rfl,h1⟩:=hv
   exact⟨vs,rfl,jq hw my hrel hid n cs gp vs.toList hcs h1⟩
  | tup cs=>
   simp only [cz,aby] at h
   obtain⟨gp,hcs,rfl⟩:=h
   simp only [VR] at hv ⊢
   obtain⟨vs,rfl,h1⟩:=hv
   exact⟨vs,rfl,jq hw my hrel hid n cs gp vs.toList hcs h1⟩
  | fn f cs=>
   simp only [cz,aby] at h
   obtain⟨gp,hcs,rfl⟩:=h
   simp only [VR] at hv ⊢
   obtain⟨vs,rfl,h1⟩:=hv
   exact⟨vs,rfl,jq hw my hrel hid n cs gp vs.toList hcs h1⟩
  | _=>exact TY (by simpa only [cz] using h)
theorem jq (hw:d.w=c.w)(my:∀b,RO c L b→RO d L' b)(hrel:HRel c L)(hid:∀id,Live c.h id→RO d L' (c.β id).1):∀(n:Nat) (xs ys:List AV) (vs:List Value),bF c.h n xs=some ys→VRs c L xs vs→VRs d L' ys vs
 | 0,xs,ys,vs,h,_=>by simp [bF] at h
 | n+1,[],ys,vs,h,hv=>by
  simp only [bF,abz] at h
  subst h
  cases vs with
  | nil=>trivial
  | cons v vs=>exact hv.elim
 | n+1,x::xs,ys,vs,h,hv=>by
  simp only [bF,abx,aby] at h
  obtain⟨y,hy,zs,hz,rfl⟩:=h
  cases vs with
  | nil=>exact hv.elim
  | cons v vs=>exact⟨rP hw my hrel hid n x y v hy hv.1,jq hw my hrel hid n xs zs vs hz hv.2⟩
theorem kT (hw:d.w=c.w)(my:∀b,RO c L b→RO d L' b)(hrel:HRel c L)(hid:∀id,Live c.h id→RO d L' (c.β id).1):∀(n:Nat) (xs ys:List AV) (b o:Nat),bF c.h n xs=some ys→Cells c L xs b o→Cells d L' ys b o
 | 0,xs,ys,b,o,h,_=>by simp [bF] at h
 | n+1,[],ys,b,o,h,hv=>by
  simp only [bF,abz] at h
  subst h
  trivial
 | n+1,x::xs,ys,b,o,h,hv=>by
  simp only [bF,abx,aby] at h
  obtain⟨y,hy,zs,hz,rfl⟩:=h
  obtain⟨⟨v,h1,h2,h3⟩,h4⟩:=hv
  exact⟨⟨v,by rw [hw]; exact h1,h2,rP hw my hrel hid n x y v hy h3⟩,kT hw my hrel hid n xs zs b (o+1) hz h4⟩
end
mutual
theorem pF (hw:d.w=c.w)(hrel:HRel c L)(hid:∀id,Live c.h id→RO d L' (c.β id).1):∀(n:Nat) (x y:AV) (v:Value),gZ c.h n x=some y→VR c L x v→VR d L' y v
 | 0,x,y,v,h,_=>by simp [gZ] at h
 | n+1,x,y,v,h,hv=>by
  unfold gZ at h
  split at h
  ·cases h; exact hv
  ·cases h; exact hv
  ·cases h; exact hv
  ·cases h; exact hv
  ·cases h; exact hv
  ·cases h; exact hv
  ·cases h
   simp only [VR] at hv ⊢
   exact⟨none,0,hv,abB _,by simp,.inr ⟨trivial,rfl⟩,.inl trivial⟩
  ·cases h
   simp only [VR] at hv ⊢
   obtain⟨a,cap,rfl,h1,h2,hs,_⟩:=hv
   exact⟨a,cap,rfl,h1,by simp,hs,.inl trivial⟩
  ·rename_i id off len jj
   split at h
   ·rename_i lf
    split at h
    rotate_left
    ·cases h
    rename_i hl0
    cases h
    simp only [VR] at hv ⊢
    rcases hv with⟨_,_,_,a,rfl⟩| hv
    ·exact⟨a,0,rfl,abB _,by simp,.inr ⟨trivial,rfl⟩,.inl trivial⟩
    ·exact absurd lf hv.1
   rename_i lf
   rw [abx] at h
   obtain⟨ob,ho,h⟩:=h
   cases ob with
   | map es=>cases h
   | row t cs=>cases h
   | cells cs=>
    simp only at h
    split at h
    rotate_left
    ·cases h
    rename_i hle
    simp only [aby] at h
    obtain⟨gp,hcs,rfl⟩:=h
    have hl:Live c.h id:=⟨hrel.lt _ _ ho,by simp [ho]⟩
    obtain⟨m,_,_,hc⟩:=hrel.obj _ _ ho
    simp only [VR] at hv ⊢
    rcases hv with hv | ⟨_,_,a,cap,rfl,h1,h2,h3⟩
    ·exact absurd hv.1 lf
    refine⟨a,cap,rfl,h1,by simp,.inl h2,?_⟩
    rcases h3 hl with⟨h4,_⟩| h4
    ·exact .inr ⟨_,_,h4,hid id hl,by simp,nl hw hrel hid n _ gp _ _ hcs ((hc.drop off).take (len*jj))⟩
    ·left
     have hz:len=0:=by omega
     subst hz
     rw [Nat.zero_mul,List.take_zero] at hcs
     cases n with
     | zero=>simp [ej] at hcs
     | succ n=>simp only [ej,abz] at hcs; exact hcs.symm
  ·rename_i cs
   simp only [aby] at h
   obtain⟨gp,hcs,rfl⟩:=h
   simp only [VR] at hv ⊢
   obtain⟨vs,rfl,h1⟩:=hv
   exact⟨vs,rfl,nY hw hrel hid n cs gp vs.toList hcs h1⟩
  ·rename_i cs
   simp only [aby] at h
   obtain⟨gp,hcs,rfl⟩:=h
   simp only [VR] at hv ⊢
   obtain⟨vs,rfl,h1⟩:=hv
   exact⟨vs,rfl,nY hw hrel hid n cs gp vs.toList hcs h1⟩
  ·cases h
theorem nY (hw:d.w=c.w)(hrel:HRel c L)(hid:∀id,Live c.h id→RO d L' (c.β id).1):∀(n:Nat) (xs ys:List AV) (vs:List Value),ej c.h n xs=some ys→VRs c L xs vs→VRs d L' ys vs
 | 0,xs,ys,vs,h,_=>by simp [ej] at h
 | n+1,[],ys,vs,h,hv=>by
  simp only [ej,abz] at h
  subst h
  cases vs with
  | nil=>trivial
  | cons v vs=>exact hv.elim
 | n+1,x::xs,ys,vs,h,hv=>by
  simp only [ej,abx,aby] at h
  obtain⟨y,hy,zs,hz,rfl⟩:=h
  cases vs with
  | nil=>exact hv.elim
  | cons v vs=>exact⟨pF hw hrel hid n x y v hy hv.1,nY hw hrel hid n xs zs vs hz hv.2⟩
theorem nl (hw:d.w=c.w)(hrel:HRel c L)(hid:∀id,Live c.h id→RO d L' (c.β id).1):∀(n:Nat) (xs ys:List AV) (b o:Nat),ej c.h n xs=some ys→Cells c L xs b o→Cells d L' ys b o
 | 0,xs,ys,b,o,h,_=>by simp [ej] at h
 | n+1,[],ys,b,o,h,hv=>by
  simp only [ej,abz] at h
  subst h
  trivial
 | n+1,x::xs,ys,b,o,h,hv=>by
  simp only [ej,abx,aby] at h
  obtain⟨y,hy,zs,hz,rfl⟩:=h
  obtain⟨⟨v,h1,h2,h3⟩,h4⟩:=hv
  exact⟨⟨v,by rw [hw]; exact h1,h2,pF hw hrel hid n x y v hy h3⟩,nl hw hrel hid n xs zs b (o+1) hz h4⟩
end
end
section
variable {P:Program}
theorem Ky {cf:CallF}(hcf:CallOK P cf)(deep:Nat):CallOK P fun f args h=>if dz args then (cf f (eB args) bw).bind fun x=>(cz x.2 deep x.1).map fun r=>(r,h) else cf f args h:=by
 intro f args h r h' hc
 dsimp only at hc
 split at hc
 rotate_left
 ·exact hcf f args h r h' hc
 rename_i tT
 rw [abx] at hc
 obtain⟨⟨x,h1⟩,hx,hc⟩:=hc
 rw [aby] at hc
 obtain⟨r',hr,he⟩:=hc
 simp only [abH] at he
 obtain⟨rfl,rfl⟩:=he
 obtain⟨hin,hcall⟩:=hcf f (eB args) bw x h1 hx
 refine⟨hin,fun L0 c vs hh hb0 hrel hargs=>?_⟩
 let L1:Nat→Prop:=fun b=>L0 b∨∃id,Live c.h id∧(c.β id).1=b
 let c0:Cx:=⟨fun _=>(0,0),bw,c.w,c.w.heap.size⟩
 have hnl:∀id,¬Live c0.h id:=fun id hl=>by have:=hl.2; cases this
 have Hw:∀b,RO c L0 b→RO c0 L1 b:=fun b hb=>⟨fun id hl=>absurd hl (hnl id),fun h=>by
  rcases h with h | ⟨id,h1,h2⟩
  ·exact hb.2 h
  ·exact hb.1 id h1 h2⟩
 have uQ:HRel c0 L1:=⟨fun id o ho=>(by cases ho),fun id o ho=>(by cases ho),fun id _ hl _ _=>absurd hl (hnl id),fun id hl=>absurd hl (hnl id),fun b hb=>by
  rcases hb with h | ⟨id,h1,h2⟩
  ·exact hrel.bd b h
  ·rw [←h2]; exact hrel.block h1,fun id hl=>absurd hl (hnl id),fun _=>ac5⟩
 refine (hcall L1 c0 vs rfl (abB _) uQ (qB (c:=c) (d:=c0) rfl Hw _ _ tT hargs)).mono ?_
 rintro e w' ⟨c1,v,rfl,rfl,Pj,hv,hrel1,e1⟩
 let d:Cx:=⟨c.β,c.h,c1.w,c.base⟩
 have hk:∀b,b<c.w.heap.size→c1.w.heap[b]? = c.w.heap[b]?:=fun b hb=>e1.exact b hb
 have ed:Ext c none0 d none0:=⟨abB _,fun id _ hl=>⟨hl,rfl,iR.len (c:=c) (c':=d) (.inl (hk _ (hrel.block hl)))⟩,e1.size,fun b hb _ _=>.inl (hk b hb),fun b hb=>hk b (ab3 hb hb0),rfl,fun id hl=>.inr ⟨id,hl,rfl⟩,fun _ h=>h,fun _ h=>.inl h,e1.os,e1.tape,e1.output⟩
 have hb1:d.base≤c1.base:=by rw [e1.base]; exact hb0
 have TZ:∀b,RO c1 L1 b→RO d L0 b:=fun b hb=>⟨fun id hl he=>hb.2 (.inr ⟨id,hl,he⟩),fun h=>hb.2 (.inl h)⟩
 refine⟨d,v,rfl,rfl,hh,?_,⟨hrel.lt,fun id o ho=>?_,hrel.inj,hrel.out,fun b hb=>ab3 (hrel.bd b hb) e1.size,hrel.low,hrel.ver⟩,ed⟩
 ·refine rP (c:=c1) (d:=d) (L:=L1) rfl TZ hrel1 (fun id hl=>⟨fun lH pU he=>hrel1.out id hl (.inr ⟨lH,pU,he⟩),fun h=>hrel1.out id hl (.inl h)⟩) deep x r' v ?_ hv
  rw [Pj]; exact hr
 ·have hl:Live c.h id:=⟨hrel.lt _ _ ho,by rw [ho]; rfl⟩
  have:=(hrel.obj id o ho)
  have h2:=qe.ext (L0:=L0) ed (b:=(c.β id).1) (base:=(c.β id).2) (o:=o) (by rw [iU]; exact this) (hk _ (hrel.block hl))
  rw [iU] at h2
  exact h2
theorem qC {c:Cx}{L:Nat→Prop}:∀{xs:List AV} {vs:List Value},VRs c L xs vs→VRs c L (xs.map bh) vs
 | [],[],_=>trivial
 | x::_,_::_,h=>⟨by
   unfold bh
   cases hn:x.fj with
   | false=>exact h.1
   | true=>exact yO rfl (fun _ h=>h) x _ hn h.1,qC h.2⟩
 | [],_::_,h=>h.elim
 | _::_,[],h=>h.elim
theorem AD {cf:CallF}(hcf:CallOK P cf):CallOK P fun f args h=>cf f (args.map bh) h:=by
 intro f args h r h' hc
 obtain⟨h1,h2⟩:=hcf f _ h r h' hc
 exact⟨h1,fun L0 c vs hh hb0 hrel hargs=>h2 L0 c vs hh hb0 hrel (qC hargs)⟩
theorem Kz {cf:CallF}(hcf:CallOK P cf)(deep:Nat):CallOK P fun f args h=>(bF h deep args).bind fun as=>(cf f as bw).bind fun x=>(gZ x.2 deep x.1).map fun r=>(r,h):=by
 intro f args h r h' hc
 dsimp only at hc
 simp only [abx,aby,abH] at hc
 obtain⟨as,has,⟨x,h1⟩,hx,r',hr,rfl,rfl⟩:=hc
 obtain⟨hin,hcall⟩:=hcf f as bw x h1 hx
 refine⟨hin,fun L0 c vs hh hb0 hrel hargs=>?_⟩
 let c0:Cx:=⟨fun _=>(0,0),bw,c.w,c.w.heap.size⟩
 have hnl:∀id,¬Live c0.h id:=fun id hl=>by have:=hl.2; cases this
 have Hw:∀b,RO c L0 b→RO c0 L0 b:=fun b hb=>⟨fun id hl=>absurd hl (hnl id),hb.2⟩
 have uQ:HRel c0 L0:=⟨fun id o ho=>(by cases ho),fun id o ho=>(by cases ho),fun id _ hl _ _=>absurd hl (hnl id),fun id hl=>absurd hl (hnl id),hrel.bd,fun id hl=>absurd hl (hnl id),fun _=>ac5⟩
 have uR:VRs c0 L0 as vs:=jq (c:=c) (d:=c0) rfl Hw hrel (fun id hl=>⟨fun lH pU=>absurd pU (hnl lH),hrel.out id hl⟩) deep args as vs (by rw [hh]; exact has) hargs
 refine (hcall L0 c0 vs rfl (abB _) uQ uR).mono ?_
 rintro e w' ⟨c1,v,rfl,rfl,Pj,hv,hrel1,e1⟩
 let d:Cx:=⟨c.β,c.h,c1.w,c.base⟩
 have hk:∀b,b<c.w.heap.size→c1.w.heap[b]? = c.w.heap[b]?:=fun b hb=>e1.exact b hb
 have ed:Ext c none0 d none0:=⟨abB _,fun id _ hl=>⟨hl,rfl,iR.len (c:=c) (c':=d) (.inl (hk _ (hrel.block hl)))⟩,e1.size,fun b hb _ _=>.inl (hk b hb),fun b hb=>hk b (ab3 hb hb0),rfl,fun id hl=>.inr ⟨id,hl,rfl⟩,fun _ h=>h,fun _ h=>.inl h,e1.os,e1.tape,e1.output⟩
 refine⟨d,v,rfl,rfl,hh,?_,⟨hrel.lt,fun id o ho=>?_,hrel.inj,hrel.out,fun b hb=>ab3 (hrel.bd b hb) e1.size,hrel.low,hrel.ver⟩,ed⟩
 ·refine pF (c:=c1) (d:=d) (L:=L0) rfl hrel1 (fun id hl=>⟨fun lH pU he=>?_,hrel1.out id hl⟩) deep x r' v ?_ hv
  ·rcases e1.Kh id hl with h2 | ⟨rz,h2,_⟩
   ·have:=hrel.block pU
    have h3:(c.β lH).1=(c1.β id).1:=he
    have h4:c.w.heap.size≤(c1.β id).1:=h2
    omega
   ·exact absurd h2 (hnl rz)
  ·rw [Pj]; exact hr
 ·have hl:Live c.h id:=⟨hrel.lt _ _ ho,by rw [ho]; rfl⟩
  have:=(hrel.obj id o ho)
  have h2:=qe.ext (L0:=L0) ed (b:=(c.β id).1) (base:=(c.β id).2) (o:=o) (by rw [iU]; exact this) (hk _ (hrel.block hl))
  rw [iU] at h2
  exact h2
section
variable {c1 d:Cx}{L1:Nat→Prop}{k:Nat}
mutual
theorem uS (hw:d.w=c1.w)(hn:∀id,id<c1.h.next→id+k<d.h.next)(hl:∀id,Live d.h (id+k)→Live c1.h id∧d.β (id+k)=c1.β id):∀(x y:AV) (v:Value),dQ k x=some y→VR c1 L1 x v→VR d L1 y v
 | .any,_,_,h,_=>by simp [dQ] at h
 | .bool _,_,_,h,hv=>by simp only [dQ,abz] at h; subst h; exact hv
 | .int _ _,_,_,h,hv=>by simp only [dQ,abz] at h; subst h; exact hv
 | .str _,_,_,h,hv=>by simp only [dQ,abz] at h; subst h; exact hv
 | .oO,_,_,h,hv=>by simp only [dQ,abz] at h; subst h; exact hv
 | .nu,_,_,h,hv=>by simp only [dQ,abz] at h; subst h; exact hv
 | .pY,_,_,h,hv=>by simp only [dQ,abz] at h; subst h; exact hv
 | .nils,_,_,h,hv=>by simp only [dQ,abz] at h; subst h; exact hv
 | .ptr id off,_,_,h,hv=>by
  simp only [dQ,abz] at h
  subst h
  simp only [VR] at hv ⊢
  obtain⟨h1,a,rfl,h2⟩:=hv
  refine⟨hn _ h1,a,rfl,fun nk=>?_⟩
  obtain⟨g1,g2⟩:=hl _ nk
  rw [g2]; exact h2 g1
 | .lp _ _,_,_,h,_=>by simp [dQ] at h
 | .fp _ _,_,_,h,_=>by simp [dQ] at h
 | .fz _ _ _,_,_,h,_=>by simp [dQ] at h
 | .rs id off len z,y,v,h,hv=>by
  simp only [dQ] at h
  split at h
  ·rename_i h0
   cases h
   subst h0
   simp only [VR] at hv ⊢
   rcases hv with⟨_,h2,h3,h4⟩| h1
   ·exact .inl ⟨trivial,h2,h3,h4⟩
   ·exact absurd rfl h1.1
  ·rename_i h0
   cases h
   simp only [VR] at hv ⊢
   rcases hv with h1 | ⟨_,h1,a,cap,rfl,h2,h3,h4⟩
   ·exact absurd h1.1 h0
   refine .inr ⟨by omega,hn _ h1,a,cap,rfl,h2,h3,fun nk=>?_⟩
   obtain⟨g1,g2⟩:=hl _ nk
   have:=h4 g1
   rw [g2]
   unfold Cx.len at this ⊢
   rw [hw]; exact this
 | .mp _,_,_,h,_=>by simp [dQ] at h
 | .fn _ _,_,_,h,_=>by simp [dQ] at h
 | .agg cs,_,v,h,hv=>by
  simp only [dQ,aby] at h
  obtain⟨ys,h1,rfl⟩:=h
  simp only [VR] at hv ⊢
  obtain⟨vs,rfl,h2⟩:=hv
  exact⟨vs,rfl,rQ hw hn hl cs ys vs.toList h1 h2⟩
 | .tup cs,_,v,h,hv=>by
  simp only [dQ,aby] at h
  obtain⟨ys,h1,rfl⟩:=h
  simp only [VR] at hv ⊢
  obtain⟨vs,rfl,h2⟩:=hv
  exact⟨vs,rfl,rQ hw hn hl cs ys vs.toList h1 h2⟩
theorem rQ (hw:d.w=c1.w)(hn:∀id,id<c1.h.next→id+k<d.h.next)(hl:∀id,Live d.h (id+k)→Live c1.h id∧d.β (id+k)=c1.β id):∀(xs ys:List AV) (vs:List Value),dq k xs=some ys→VRs c1 L1 xs vs→VRs d L1 ys vs
 | [],ys,[],h,_=>by simp only [dq,abz] at h; subst h; trivial
 | x::xs,ys,v::vs,h,hv=>by
  simp only [dq,abx,aby] at h
  obtain⟨y,h1,YR,h2,rfl⟩:=h
  exact⟨uS hw hn hl x y v h1 hv.1,rQ hw hn hl xs YR vs h2 hv.2⟩
 | [],_,_::_,_,h=>h.elim
 | _::_,_,[],_,h=>h.elim
end
theorem sV (hw:d.w=c1.w)(hn:∀id,id<c1.h.next→id+k<d.h.next)(hl:∀id,Live d.h (id+k)→Live c1.h id∧d.β (id+k)=c1.β id):∀(xs:List AV) (b o:Nat),Cells c1 L1 xs b o→Cells d L1 (gH k xs) b o
 | [],_,_,_=>trivial
 | x::xs,b,o,h=>by
  obtain⟨⟨v,h1,h2,h3⟩,h4⟩:=h
  unfold gH
  cases hx:dQ k x with
  | none=>trivial
  | some y=>exact⟨⟨v,by rw [hw]; exact h1,h2,uS hw hn hl x y v hx h3⟩,sV hw hn hl xs b (o+1) h4⟩
end
theorem uT (k:Nat):∀xs:List AV,(gH k xs).length≤xs.length
 | []=>abB _
 | x::xs=>by
  unfold gH
  cases dQ k x with
  | none=>exact aco _
  | some y=>exact Nat.succ_le_succ (uT k xs)
theorem kb {h h1:AHeap}{i:Nat}(hi:i<h.next):(h.fy h1).get i=h.get i∧(h.fy h1).ver i=h.ver i:=by
 have:Nat.blt i h.next=true:=by rw [Nat.blt_eq]; exact hi
 simp only [AHeap.fy,this,cond_true,and_self]
theorem kU {h h1:AHeap}{i:Nat}(hi:h.next≤i):(h.fy h1).get i=(h1.get (i - h.next)).bind (Cs h.next)∧(h.fy h1).ver i=h.next+h1.ver (i - h.next):=by
 have:Nat.blt i h.next=false:=by
  cases hb:Nat.blt i h.next with
  | false=>rfl
  | true=>rw [Nat.blt_eq] at hb; omega
 simp only [AHeap.fy,this,cond_false,and_self]
theorem Steady.fy {h h1:AHeap}(hw:∀id,h1.ver id<h1.next):Steady h (h.fy h1):=by
 refine⟨Nat.le_add_right _ _,fun i=>?_,fun hv i=>?_⟩
 ·by_cases hi:i<h.next
  ·exact .inl ⟨(kb hi).2,(kb hi).1⟩
  ·right; rw [(kU (ab9 hi)).2]; exact Nat.le_add_right _ _
 ·show _<h.next+h1.next
  by_cases hi:i<h.next
  ·rw [(kb hi).2]; have:=hv i; omega
  ·rw [(kU (ab9 hi)).2]; have:=hw (i - h.next); omega
theorem Hx {cf:CallF}(hcf:CallOK P cf)(deep:Nat):CallOK P fun f args h=>(bF h deep args).bind fun us=>(cf f us bw).bind fun x=>(dQ h.next x.1).map fun r=>(r,h.fy x.2):=by
 intro f args h r h' hc
 dsimp only at hc
 simp only [abx,aby,abH] at hc
 obtain⟨us,has,⟨x,h1⟩,hx,r',hr,rfl,rfl⟩:=hc
 obtain⟨hin,hcall⟩:=hcf f us bw x h1 hx
 refine⟨hin,fun L0 c vs hh hb0 hrel hargs=>?_⟩
 let c0:Cx:=⟨fun _=>(0,0),bw,c.w,c.w.heap.size⟩
 have hnl:∀id,¬Live c0.h id:=fun id hl=>by have:=hl.2; cases this
 have Hw:∀b,RO c L0 b→RO c0 L0 b:=fun b hb=>⟨fun id hl=>absurd hl (hnl id),hb.2⟩
 have uQ:HRel c0 L0:=⟨fun id o ho=>(by cases ho),fun id o ho=>(by cases ho),fun id _ hl _ _=>absurd hl (hnl id),fun id hl=>absurd hl (hnl id),hrel.bd,fun id hl=>absurd hl (hnl id),fun _=>ac5⟩
 have uR:VRs c0 L0 us vs:=jq (c:=c) (d:=c0) rfl Hw hrel (fun id hl=>⟨fun lH pU=>absurd pU (hnl lH),hrel.out id hl⟩) deep args us vs (by rw [hh]; exact has) hargs
 refine (hcall L0 c0 vs rfl (abB _) uQ uR).mono ?_
 rintro e w' ⟨c1,v,rfl,rfl,Pj,hv,hrel1,e1⟩
 let d:Cx:=⟨fun i=>if i<c.h.next then c.β i else c1.β (i - c.h.next),c.h.fy c1.h,c1.w,c.base⟩
 have hk:∀b,b<c.w.heap.size→c1.w.heap[b]? = c.w.heap[b]?:=fun b hb=>e1.exact b hb
 have sJ:∀i,i<c.h.next→Live d.h i→Live c.h i:=fun i hi hl=>⟨hi,by have:=hl.2; rw [show d.h.get i=_ from (kb hi).1] at this; exact this⟩
 have Mj:∀i,c.h.next≤i→Live d.h i→Live c1.h (i - c.h.next):=fun i hi hl=>by
  have h2:=hl.2
  rw [show d.h.get i=_ from (kU hi).1] at h2
  cases hg:c1.h.get (i - c.h.next) with
  | none=>rw [hg] at h2; cases h2
  | some o=>exact⟨hrel1.lt _ _ hg,by rw [hg]; rfl⟩
 have KA:∀i,i<c.h.next→d.β i=c.β i:=fun i hi=>if_pos hi
 have Hy:∀i,c.h.next≤i→d.β i=c1.β (i - c.h.next):=fun i hi=>if_neg (by omega)
 have KB:∀i,Live c1.h i→c.w.heap.size≤(c1.β i).1:=fun i hl=>by
  rcases e1.Kh i hl with h2 | ⟨rz,h2,_⟩
  ·exact h2
  ·exact absurd h2 (hnl rz)
 have ed:Ext c none0 d none0:=⟨Nat.le_add_right _ _,fun id hi hl=>⟨sJ id hi hl,KA id hi,iR.len (c:=c) (c':=d) (.inl (hk _ (hrel.block (sJ id hi hl))))⟩,e1.size,fun b hb _ _=>.inl (hk b hb),fun b hb=>hk b (ab3 hb hb0),rfl,fun id hl=>by
  by_cases hi:id<c.h.next
  ·exact .inr ⟨id,sJ id hi hl,by rw [KA id hi]⟩
  ·rw [Hy id (ab9 hi)]
   exact .inl (KB _ (Mj id (ab9 hi) hl)),fun _ h=>h,fun _ h=>.inl h,e1.os,e1.tape,e1.output⟩
 have gn:∀id,id<c1.h.next→id+c.h.next<d.h.next:=fun id hi=>by show _<c.h.next+c1.h.next; omega
 have gl:∀id,Live d.h (id+c.h.next)→Live c1.h id∧d.β (id+c.h.next)=c1.β id:=fun id hl=>by
  have a:=Mj (id+c.h.next) (Nat.le_add_left _ _) hl
  have b:=Hy (id+c.h.next) (Nat.le_add_left _ _)
  rw [Nat.add_sub_cancel] at a b
  exact⟨a,b⟩
 refine⟨d,v,rfl,rfl,?_,?_,⟨fun id o ho=>?_,fun id o ho=>?_,fun id lH hl pU he=>?_,fun id hl=>?_,fun b hb=>ab3 (hrel.bd b hb) e1.size,fun id hl=>?_,fun id=>?_⟩,ed⟩
 ·show c.h.fy c1.h=h.fy h1
  rw [hh,Pj]
 ·refine uS (c1:=c1) (d:=d) (k:=c.h.next) rfl gn gl x r' v ?_ hv
  rw [hh]; exact hr
 ·show id<c.h.next+c1.h.next
  by_cases hi:id<c.h.next
  ·omega
  ·rw [show d.h.get id=_ from (kU (ab9 hi)).1,abx] at ho
   obtain⟨o1,Mb,_⟩:=ho
   have:=hrel1.lt _ _ Mb
   omega
 ·by_cases hi:id<c.h.next
  ·rw [show d.h.get id=_ from (kb hi).1] at ho
   have hl:Live c.h id:=⟨hi,by rw [ho]; rfl⟩
   have:=(hrel.obj id o ho)
   have h2:=qe.ext (L0:=L0) ed (b:=(c.β id).1) (base:=(c.β id).2) (o:=o) (by rw [iU]; exact this) (hk _ (hrel.block hl))
   rw [iU] at h2
   rw [KA id hi]
   exact h2
  ·rw [show d.h.get id=_ from (kU (ab9 hi)).1,abx] at ho
   obtain⟨o1,Mb,ho⟩:=ho
   rw [Hy id (ab9 hi)]
   cases o1 with
   | map es=>cases ho
   | row t cs=>cases ho
   | cells cs=>
    simp only [Cs,abz] at ho
    subst ho
    obtain⟨n,g1,g2,g3⟩:=hrel1.obj _ _ Mb
    exact⟨n,g1,acv (Nat.add_le_add_left (uT _ _) _) g2,sV (c1:=c1) (d:=d) rfl gn gl cs _ _ g3⟩
 ·by_cases hi:id<c.h.next<;>by_cases ku:lH<c.h.next
  ·rw [KA id hi,KA lH ku] at he
   exact hrel.inj id lH (sJ id hi hl) (sJ lH ku pU) he
  ·rw [KA id hi,Hy lH (ab9 ku)] at he
   have a:=hrel.block (sJ id hi hl)
   have b:=KB _ (Mj lH (ab9 ku) pU)
   omega
  ·rw [Hy id (ab9 hi),KA lH ku] at he
   have a:=hrel.block (sJ lH ku pU)
   have b:=KB _ (Mj id (ab9 hi) hl)
   omega
  ·rw [Hy id (ab9 hi),Hy lH (ab9 ku)] at he
   have:=hrel1.inj _ _ (Mj id (ab9 hi) hl) (Mj lH (ab9 ku) pU) he
   omega
 ·by_cases hi:id<c.h.next
  ·rw [KA id hi]; exact hrel.out id (sJ id hi hl)
  ·rw [Hy id (ab9 hi)]; exact hrel1.out _ (Mj id (ab9 hi) hl)
 ·show c.base≤_
  by_cases hi:id<c.h.next
  ·rw [KA id hi]; exact hrel.low id (sJ id hi hl)
  ·rw [Hy id (ab9 hi)]; exact acv hb0 (KB _ (Mj id (ab9 hi) hl))
 ·show _<c.h.next+c1.h.next
  by_cases hi:id<c.h.next
  ·rw [show d.h.ver id=_ from (kb hi).2]; have:=hrel.ver id; omega
  ·rw [show d.h.ver id=_ from (kU (ab9 hi)).2]; have:=hrel1.ver (id - c.h.next); omega
theorem mL {T:oZ}(sW:IntrOK P T.intr)(m:Nat):∀k,SteadyF (fN P T m k)
 | 0=>fun f args h r h' hc=>by simp [fN] at hc
 | k+1=>fun f args h r h' hc=>by
  have hb:=yF (P:=P) (a7:=T.a7) (m:=m) (mL sW m k)
  simp only [fN] at hc
  split at hc
  ·rename_i g hg
   exact (sW f g hg).2 _ _ _ _ hc
  ·split at hc
   ·split at hc
    ·simp only [abx] at hc
     obtain⟨us,_,x,hx,hc⟩:=hc
     obtain⟨r',_,h2⟩:=Option.map_some' hc
     cases h2
     exact Steady.fy ((hb _ _ _ _ _ hx).wf fun _=>ac5)
    split at hc
    ·rw [abx] at hc
     obtain⟨x,_,hc⟩:=hc
     obtain⟨r',_,h2⟩:=Option.map_some' hc
     cases h2
     exact Steady.refl _
    ·split at hc
     ·rw [abx] at hc
      obtain⟨x,_,hc⟩:=hc
      obtain⟨r',_,h2⟩:=Option.map_some' hc
      cases h2
      exact Steady.refl _
     ·exact hb _ _ _ _ _ hc
   ·exact hb _ _ _ _ _ hc
theorem qD (hP:Fit P){T:oZ}(sW:IntrOK P T.intr)(m:Nat):∀k,CallOK P (fN P T m k)
 | 0=>fun f args h r h' hc=>by simp [fN] at hc
 | k+1=>fun f args h r h' hc=>by
  have ih:=qD hP sW m k
  have hb:=Aw hP (a7:=T.a7) ih (AA hP.mixed ih (mL sW m k)) m
  simp only [fN] at hc
  split at hc
  ·rename_i g hg
   exact (sW f g hg).1 f args h r h' (by simpa using hc)
  ·split at hc
   ·rename_i deep _
    split at hc
    ·exact Hx hb deep f args h r h' hc
    by_cases tT:dz args=true
    ·exact Ky hb deep f args h r h' (by dsimp only; rw [if_pos tT] at hc ⊢; exact hc)
    ·rw [if_neg tT] at hc
     split at hc
     ·rename_i as has
      refine Kz hb deep f args h r h' ?_
      dsimp only
      rw [has]
      exact hc
     ·exact AD hb f args h r h' hc
   ·exact AD hb f args h r h' hc
def Qk (P : Program) : Bool := P.funcs.toList.all fun fn => fn.name != "runtime.NumGoroutine" && match fn.body with | some c => lA fn.ntmps c | none => true
theorem Nq (h1:P.follows .mixedOrders=true)(h2:Qk P=true):Fit P:=by
 refine⟨h1,fun f fn c hf hb=>?_⟩
 unfold Qk at h2
 rw [abW] at h2
 have:=h2 fn (acy.2 (Array.mem_of_getElem? hf))
 rw [hb] at this
 simp only [abA,bne_iff_ne,ne_eq] at this
 exact⟨this.2,this.1⟩
theorem oE:IntrOK P fun _=>none:=fun f g h=>by cases h
end
end Go.R
