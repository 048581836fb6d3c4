/- Part of the proof: RLocal, RSteady, RDraw, RPure. -/
import Derived.Test.YtmekcfdllhphlaaDoorK2
import Derived.StillTail
set_option linter.unusedVariables false
set_option linter.unusedSimpArgs false
set_option maxRecDepth 100000
open Array renaming getElem?_eq_some_iff → X0, mem_toList_iff → Yn
open Bool renaming and_eq_true → Xw, false_eq_true → XJ, or_eq_true → Yf, not_eq_true' → YR
open List renaming mem_append → XH, getElem?_eq_none → XL, mem_map → XQ, all_eq_true → XT, getElem?_append_left → X4, getElem?_cons_zero → X7, map_congr_left → Yy, mem_filter → YP
open Nat renaming le_refl → Xv, zero_add → XS, lt_of_lt_of_le → XX, le_trans → X9, add_assoc → Ye, eq_of_beq_eq_true → YJ, min_eq_left → Y3
open Ne renaming symm → YK
open Option renaming bind_some → Xr, bind_eq_some_iff → Xs, map_eq_some_iff → Xt, map_some → Xx, getD_some → Yl
open Option.some renaming injEq → Xu, inj → XP
open Prod.mk renaming injEq → Xz
namespace Go.R
open Go
def RS.shift (s2:RS)(f:kl)(d:Option Nat)(s':RS):RS:=
 {ρ:=match d with | none=>s2.ρ | some d=>fun t=>if t=d then s'.ρ d else s2.ρ t
  bx:=match f.wb with | none=>s2.bx | some k=>fun t=>if t=k then s'.bx k else s2.bx t
  h:=if f.wh then s'.h else s2.h}
theorem RS.ext' {s t:RS}(h1:∀i,s.ρ i=t.ρ i)(h2:∀i,s.bx i=t.bx i)(h3:s.h=t.h):s=t:=by
 cases s; cases t
 congr
 ·exact funext h1
 ·exact funext h2
theorem ic (s s2:RS)(f:kl)(d:Option Nat)(z:AV)(hw:f.wb=none)(hh:f.wh=false):s2.set d z=s2.shift f d (s.set d z):=by
 refine RS.ext' (fun i=>?_) (fun i=>?_) ?_
 ·cases d with
  | none=>rfl
  | some d=>simp only [u4,RS.shift,if_true]
 ·simp only [RS.shift,hw]; cases d<;>rfl
 ·simp only [RS.shift,hh]; cases d<;>rfl
theorem jh (s:RS)(d:Option Nat)(z:AV):(s.set d z).h=s.h:=by cases d<;>rfl
theorem J1 (s:RS)(d:Option Nat)(z:AV):(s.set d z).bx=s.bx:=by cases d<;>rfl
theorem EJ (s:RS)(k i:Nat)(cs:List AV):(s.box k cs).bx i=if i=k then some cs else s.bx i:=by
 simp only [RS.box,beq_nat]
 by_cases h:i=k<;>simp [h]
theorem gm (s s2:RS)(f:kl)(d:Option Nat)(z:AV)(h':AHeap)(hw:f.wb=none)(hh:f.wh=true):({s2 with h:=h'}:RS).set d z=s2.shift f d (({s with h:=h'}:RS).set d z):=by
 refine RS.ext' (fun i=>?_) (fun i=>?_) ?_
 ·cases d with
  | none=>rfl
  | some d=>simp only [u4,RS.shift,if_true]
 ·simp only [RS.shift,hw]; cases d<;>rfl
 ·simp only [RS.shift,hh]; cases d<;>rfl
theorem Da (s s2:RS)(f:kl)(k:Nat)(cs:List AV)(hw:f.wb=some k)(hh:f.wh=false):s2.box k cs=s2.shift f none (s.box k cs):=by
 refine RS.ext' (fun i=>rfl) (fun i=>?_) ?_
 ·simp only [EJ,RS.shift,hw,if_true]
 ·simp only [RS.shift,hh]; rfl
section
variable {P:Program}{cf:CallF}{aF ds:List Nat}{o:Oper}{s s' s2:RS}
theorem oo {cs:List AV}{f:kl}(h:hU s aF ds o cs=some s')(hf:f=(match o.dst with
  | some d=>if aF.contains d then {wb:=some d,al:=true} else {wh:=true}
  | none=>{})) (hh:f.wh=true→s2.h=s.h) (nS:f.al=true→∀d,o.dst=some d→sw d s2.ρ (ds.filter fun t=>!Nat.beq t d)=true) :
  hU s2 aF ds o cs=some (s2.shift f o.dst s'):=by
 unfold hU at h ⊢
 split at h
 rotate_left
 ·cases h
 rename_i nZ
 rw [if_pos nZ]
 cases hd:o.dst with
 | none=>rw [hd] at h; cases h
 | some d=>
  rw [hd] at h hf
  simp only at h hf ⊢
  by_cases hl:aF.contains d=true
  ·rw [if_pos hl] at h hf ⊢
   subst hf
   split at h
   rotate_left
   ·cases h
   cases h
   rw [if_pos (nS rfl d hd)]
   congr 1
   refine RS.ext' (fun i=>?_) (fun i=>?_) ?_
   ·simp only [u4,RS.shift,if_true]; rfl
   ·simp only [J1,EJ,RS.shift,if_true]
   ·simp only [jh,RS.shift]; rfl
  ·rw [if_neg hl] at h hf ⊢
   subst hf
   cases h
   rw [hh rfl]
   congr 1
   exact gm s s2 {wh:=true} (some d) _ _ rfl rfl
theorem vk {e:Operand→AV}(h:z6 P cf aF ds e s o=some s')(hb:∀k∈(aZ aF e o).rb,s2.bx k=s.bx k)(hr:∀id∈(aZ aF e o).rh,s2.h.get id=s.h.get id)
  (hh:(aZ aF e o).wh=true→s2.h=s.h) (nS:(aZ aF e o).al=true→∀d,o.dst=some d→sw d s2.ρ (ds.filter fun t=>!Nat.beq t d)=true) :
  z6 P cf aF ds e s2 o=some (s2.shift (aZ aF e o) o.dst s'):=by
 have dv:∀{x x2:Option AV} (f:kl),(x.map fun x=>s.set o.dst x)=some s'→(x2=x)→f.wb=none→f.wh=false→(x2.map fun x=>s2.set o.dst x)=some (s2.shift f o.dst s'):=by
  intro x x2 f hx h2 h3 h4
  obtain⟨z,rfl,rfl⟩:=Option.map_some' hx
  subst h2
  simp only [Xx]
  rw [←ic s s2 f o.dst z h3 h4]
 have yu:∀{α:Type} {x x2:Option α} (f:kl) (g:α→AV) (k:α→AHeap),(x.map fun y=>({s with h:=k y}:RS).set o.dst (g y))=some s'→(x2=x)→f.wb=none→f.wh=true→
   (x2.map fun y=>({s2 with h:=k y}:RS).set o.dst (g y))=some (s2.shift f o.dst s'):=by
  intro α x x2 f g k hx h2 h3 h4
  obtain⟨z,rfl,rfl⟩:=Option.map_some' hx
  subst h2
  simp only [Xx]
  rw [←gm s s2 f o.dst (g z) (k z) h3 h4]
 unfold z6 at h ⊢
 dsimp only at h ⊢
 split at h
 ·rename_i x ho; cases h; simp only [Xu]; exact ic s s2 _ _ _ (by simp [aZ,ho]) (by simp [aZ,ho])
 ·rename_i x ho; cases h; simp only [Xu]; exact ic s s2 _ _ _ (by simp [aZ,ho]) (by simp [aZ,ho])
 ·rename_i k x y ho
  obtain⟨t,ht,rfl⟩:=Option.map_some' h
  simp only [ht,Xx,Xu]
  exact ic s s2 _ _ _ (by simp [aZ,ho]) (by simp [aZ,ho])
 ·rename_i t ho
  rw [Xs] at h
  obtain⟨z,hz,h⟩:=h
  simp only [hz,Xr]
  exact oo h (by simp only [aZ,ho]; rfl) hh nS
 ·rename_i t x ho
  exact oo h (by simp only [aZ,ho]; rfl) hh nS
 ·rename_i t ps ho; exact dv _ h rfl (by simp [aZ,ho]) (by simp [aZ,ho])
 ·rename_i t k ps ho
  obtain⟨z,hz,rfl⟩:=Option.map_some' h
  simp only [hz,Xx,Xu]
  have hf:aZ aF e o=(match o.dst with | some d=>if aF.contains d then {wh:=true} else {} | none=>{}):=by simp only [aZ,ho]; rfl
  unfold pI
  cases JU:nv P aF o t z with
  | none=>
   simp only
   cases hd:o.dst with
   | none=>rw [hd] at hf; rw [hf]; exact ic s s2 _ none _ rfl rfl
   | some d=>
    rw [hd] at hf
    simp only at hf
    by_cases hl:aF.contains d=true
    ·rw [if_pos hl] at hf
     have h2:=hh (by rw [hf])
     rw [hf]
     have h3:=gm s s2 {wh:=true} (some d) z s2.h rfl rfl
     refine h3.trans ?_
     rw [h2]
    ·rw [if_neg hl] at hf
     rw [hf]; exact ic s s2 _ _ _ rfl rfl
  | some q=>
   obtain⟨d,hd,hl⟩:∃d,o.dst=some d∧aF.contains d=true:=by
    unfold nv at JU
    split at JU
    ·rename_i d _ _ _ hd
     refine⟨d,hd,?_⟩
     cases hc:aF.contains d with
     | false=>rw [hc] at JU; cases JU
     | true=>rfl
    ·cases JU
   rw [hd] at hf
   simp only [hl,if_true] at hf
   rw [hf] at hh ⊢
   simp only [hh rfl]
   exact gm s s2 _ _ _ _ rfl rfl
 ·
  rename_i t x ho
  have hf:aZ aF e o=(match e x with | .lp k _=>{rb:=[k]} | .ptr id _=>{rh:=[id]} | _=>{}):=by simp only [aZ,ho]; rfl
  refine dv _ h ?_ ?_ ?_
  ·rw [hf] at hb hr
   unfold jd
   cases hx:e x<;>rw [hx] at hb hr<;>try rfl
   ·simp only; rw [hr _ (by simp)]
   ·simp only; rw [hb _ (by simp)]
  ·rw [hf]; cases e x<;>rfl
  ·rw [hf]; cases e x<;>rfl
 ·
  rename_i t x y ho
  have hf:aZ aF e o=(match e x with | .lp k _=>{rb:=[k],wb:=some k} | _=>{wh:=true}):=by simp only [aZ,ho]; rfl
  try simp only at h ⊢
  split at h
  ·cases h
  rename_i hd
  rw [if_neg hd]
  have Hu:o.dst=none:=by simpa using hd
  cases hx:e x<;>rw [hx] at h hf<;>simp only at h hf ⊢<;>try (cases h; done)
  ·rename_i id off
   rw [hf] at hh ⊢
   rw [Xs] at h
   obtain⟨ob,hob,h⟩:=h
   rw [hh rfl,hob]
   cases ob with
   | map es=>cases h
   | row t cs=>cases h
   | cells cs=>
    obtain⟨fm,hcs,rfl⟩:=Option.map_some' h
    simp only [Xr,hcs,Xx,Hu,Xu]
    exact gm s s2 {wh:=true} none .any _ rfl rfl
  ·rename_i k off
   rw [hf] at hb ⊢
   rw [Xs] at h
   obtain⟨cs,hcs,h⟩:=h
   rw [hb k (by simp),hcs]
   obtain⟨fm,PQ,rfl⟩:=Option.map_some' h
   simp only [Xr,PQ,Xx,Hu,Xu]
   exact Da s s2 _ k fm rfl rfl
 ·rename_i ho; exact dv _ h rfl (by simp [aZ,ho]) (by simp [aZ,ho])
 ·rename_i ho; exact dv _ h rfl (by simp [aZ,ho]) (by simp [aZ,ho])
 ·rename_i ho; exact dv _ h rfl (by simp [aZ,ho]) (by simp [aZ,ho])
 ·
  rename_i a b x ho
  have hf:aZ aF e o=(match e x with | .rs id _ _ _=>{rh:=[id]} | _=>{}):=by simp only [aZ,ho]; rfl
  refine dv _ h ?_ ?_ ?_
  ·have hc:dF s2.h 1 (e x)=dF s.h 1 (e x):=by
    rw [hf] at hr
    unfold dF
    cases hx:e x<;>rw [hx] at hr<;>try rfl
    simp only; rw [hr _ (by simp)]
   unfold gS
   rw [hc]
  ·rw [hf]; cases e x<;>rfl
  ·rw [hf]; cases e x<;>rfl
 ·rename_i Ao first cap ho
  try simp only
  split at h
  ·rename_i hc
   rw [if_pos hc]
   exact dv _ h rfl (by simp [aZ,ho]) (by simp [aZ,ho])
  ·cases h
 ·rename_i ho
  have hf:(aZ aF e o).wh=true:=by simp [aZ,ho]
  cases h
  simp only [hh hf,Xu]
  exact gm s s2 _ _ _ _ (by simp [aZ,ho]) hf
 ·rename_i t l c ho
  have hf:(aZ aF e o).wh=true:=by simp [aZ,ho]
  exact yu _ (fun y:AV × AHeap=>y.1) (fun y=>y.2) h (by simp only [hh hf]) (by simp [aZ,ho]) hf
 ·rename_i ho; exact dv _ h rfl (by simp [aZ,ho]) (by simp [aZ,ho])
 ·rename_i ho; exact dv _ h rfl (by simp [aZ,ho]) (by simp [aZ,ho])
 ·rename_i ho; exact dv _ h rfl (by simp [aZ,ho]) (by simp [aZ,ho])
 ·rename_i ho; exact dv _ h rfl (by simp [aZ,ho]) (by simp [aZ,ho])
 ·rename_i ho; exact dv _ h rfl (by simp [aZ,ho]) (by simp [aZ,ho])
 ·
  rename_i t m k ok ho
  have hf:aZ aF e o=(match e m with | .mp id=>{rh:=[id]} | _=>{}):=by simp only [aZ,ho]; rfl
  refine dv _ h ?_ ?_ ?_
  ·rw [hf] at hr
   unfold fB
   cases hx:e m<;>rw [hx] at hr<;>try rfl
   simp only; rw [hr _ (by simp)]
  ·rw [hf]; cases e m<;>rfl
  ·rw [hf]; cases e m<;>rfl
 ·rename_i t m k x ho
  have hf:(aZ aF e o).wh=true:=by simp [aZ,ho]
  try simp only at h ⊢
  split at h
  ·cases h
  rename_i hd
  rw [if_neg hd]
  have Hu:o.dst=none:=by simpa using hd
  obtain⟨h',hm,rfl⟩:=Option.map_some' h
  simp only [hh hf,hm,Xx,Hu,Xu]
  exact gm s s2 _ none .any _ (by simp [aZ,ho]) hf
 ·rename_i t m k x ho
  have hf:(aZ aF e o).wh=true:=by simp [aZ,ho]
  try simp only at h ⊢
  split at h
  ·cases h
  rename_i hd
  rw [if_neg hd]
  have Hu:o.dst=none:=by simpa using hd
  obtain⟨h',hm,rfl⟩:=Option.map_some' h
  simp only [hh hf,hm,Xx,Hu,Xu]
  exact gm s s2 _ none .any _ (by simp [aZ,ho]) hf
 ·rename_i ho; exact dv _ h rfl (by simp [aZ,ho]) (by simp [aZ,ho])
 ·
  rename_i b args BC ho
  try simp only
  unfold gg at h ⊢
  generalize hargs:args.toList.map e=as at h ⊢
  generalize BC.toList=ts at h ⊢
  split at h
  ·rename_i t x
   try simp only
   have hf:aZ aF e o=(match x with | .mp id=>{rh:=[id]} | _=>{}):=by
    simp only [aZ,ho,hargs]
    cases x<;>rfl
   refine dv _ h ?_ ?_ ?_
   ·rw [hf] at hr
    unfold su
    cases x<;>try rfl
    simp only; rw [hr _ (by simp)]
   ·rw [hf]; cases x<;>rfl
   ·rw [hf]; cases x<;>rfl
  ·try simp only
   have hf:(aZ aF e o).wh=true∧(aZ aF e o).wb=none:=by simp only [aZ,ho,hargs]; simp
   exact yu _ (fun y:AV × AHeap=>y.1) (fun y=>y.2) h (by simp only [hh hf.1]) hf.2 hf.1
  ·try simp only
   have hf:(aZ aF e o).wh=true∧(aZ aF e o).wb=none:=by simp only [aZ,ho,hargs]; simp
   exact yu _ (fun y:AV × AHeap=>y.1) (fun y=>y.2) h (by simp only [hh hf.1]) hf.2 hf.1
  ·try simp only
   have hf:(aZ aF e o).wh=true∧(aZ aF e o).wb=none:=by simp only [aZ,ho,hargs]; simp
   exact yu _ (fun _:AHeap=>.tup []) (fun y=>y) h (by simp only [hh hf.1]) hf.2 hf.1
  ·try simp only
   rw [Xs] at h
   obtain⟨v,hv,h⟩:=h
   rw [Xs] at h
   obtain⟨vs,Ec,h⟩:=h
   rw [Xs] at h
   obtain⟨u,hu,h⟩:=h
   simp only [hv,Ec,hu,Xr]
   exact dv _ h rfl (by simp [aZ,ho]) (by simp [aZ,ho])
  ·try simp only
   rw [Xs] at h
   obtain⟨v,hv,h⟩:=h
   rw [Xs] at h
   obtain⟨vs,Ec,h⟩:=h
   rw [Xs] at h
   obtain⟨u,hu,h⟩:=h
   simp only [hv,Ec,hu,Xr]
   exact dv _ h rfl (by simp [aZ,ho]) (by simp [aZ,ho])
  ·cases h
 ·
  rename_i fx args BC ho
  have hf:(aZ aF e o).wh=true∧(aZ aF e o).wb=none:=by simp [aZ,ho]
  try simp only
  cases hx:e fx<;>rw [hx] at h<;>simp only at h ⊢<;>try (cases h; done)
  rename_i Ao cap
  split at h
  ·rename_i ha
   rw [if_pos ha]
   exact yu _ (fun y:AV × AHeap=>y.1) (fun y=>y.2) h (by simp only [hh hf.1]) hf.2 hf.1
  ·cases h
 ·cases h
end
end Go.R
namespace Go.R
open Go
def SteadyF (cf:CallF):Prop:=∀f args h r h',cf f args h=some (r,h')→Steady h h'
section
variable {P:Program}{cf:CallF}{aF ds:List Nat}{o:Oper}{s s':RS}
theorem sS {h h':AHeap}{t t2:TypeId}{x y z:AV}(hh:gB P h t t2 x y=some (z,h')):Steady h h':=by
 unfold gB at hh
 rw [Xs] at hh
 obtain⟨d,_,hh⟩:=hh
 cases d<;>simp only at hh<;>try (cases hh; done)
 rw [Xs] at hh
 obtain⟨i,_,hh⟩:=hh
 rw [Xs] at hh
 obtain⟨⟨new,m⟩,_,hh⟩:=hh
 simp only at hh
 split at hh
 ·cases hh
 split at hh
 ·split at hh
  ·cases hh
  ·split at hh<;>cases hh
   ·exact Steady.refl _
   ·exact Steady.put _ _ _
 ·split at hh
  ·cases hh
  ·split at hh
   ·split at hh<;>cases hh<;>exact Steady.refl _
   ·cases hh; exact Steady.put _ _ _
 ·split at hh
  ·split at hh
   ·cases hh
   ·split at hh<;>cases hh
    ·exact Steady.refl _
    ·exact Steady.put _ _ _
  rw [Xs] at hh
  obtain⟨ob,_,hh⟩:=hh
  cases ob with
  | map es=>cases hh
  | row t cs=>cases hh
  | cells cs=>
   simp only at hh
   split at hh
   ·cases hh
   ·split at hh<;>cases hh
    ·exact Steady.refl _
    ·exact (Steady.kill _ _).trans (Steady.put _ _ _)
 ·cases hh
theorem wG {h h':AHeap}{t t2:TypeId}{x y z:AV}(hh:u3 P h t t2 x y=some (z,h')):Steady h h':=by
 unfold u3 at hh
 rw [Xs] at hh
 obtain⟨d,_,hh⟩:=hh
 cases d<;>simp only at hh<;>try (cases hh; done)
 rw [Xs] at hh
 obtain⟨i,_,hh⟩:=hh
 rw [Xs] at hh
 obtain⟨⟨new,m⟩,_,hh⟩:=hh
 simp only at hh
 split at hh
 ·cases hh
 split at hh
 ·split at hh
  ·split at hh<;>cases hh
   exact Steady.refl _
  rw [Xs] at hh
  obtain⟨ob,_,hh⟩:=hh
  cases ob with
  | map es=>cases hh
  | row t cs=>cases hh
  | cells cs=>
   simp only at hh
   split at hh<;>cases hh
   exact Steady.put _ _ _
 ·split at hh<;>cases hh
  exact Steady.refl _
 ·cases hh
theorem uF {h h':AHeap}{t:TypeId}{x:AV}(hh:sv P h t x=some h'):Steady h h':=by
 unfold sv at hh
 rw [Xs] at hh
 obtain⟨d,_,hh⟩:=hh
 cases x<;>simp only at hh<;>try (cases hh; done)
 ·cases hh; exact Steady.refl _
 ·rw [Xs] at hh
  obtain⟨ob,_,hh⟩:=hh
  cases ob with
  | cells cs=>cases hh
  | row t cs=>cases hh
  | map es=>cases hh; exact Steady.put _ _ _
theorem lV {h h':AHeap}{t:TypeId}{x y z:AV}(hh:iv P h t x y z=some h'):Steady h h':=by
 unfold iv at hh
 rw [Xs] at hh
 obtain⟨d,_,hh⟩:=hh
 cases d<;>simp only at hh<;>try (cases hh; done)
 split at hh
 ·cases hh
 cases x<;>simp only at hh<;>try (cases hh; done)
 rw [Xs] at hh
 obtain⟨ob,_,hh⟩:=hh
 cases ob with
 | cells cs=>cases hh
 | row t cs=>cases hh
 | map es=>
  obtain⟨qN,_,rfl⟩:=Option.map_some' hh
  exact Steady.put _ _ _
theorem oq {h h':AHeap}{t:TypeId}{x y z:AV}(hh:gf P h t x y=some (z,h')):Steady h h':=by
 unfold gf at hh
 split at hh
 ·rw [Xs] at hh
  obtain⟨d,_,hh⟩:=hh
  cases d<;>simp only at hh<;>try (cases hh; done)
  rw [Xs] at hh
  obtain⟨i,_,hh⟩:=hh
  rw [Xs] at hh
  obtain⟨z,_,hh⟩:=hh
  split at hh<;>cases hh
  exact Steady.put _ _ _
 ·cases hh
theorem nb {cs:List AV}(h:hU s aF ds o cs=some s'):Steady s.h s'.h:=by
 unfold hU at h
 split at h
 rotate_left
 ·cases h
 split at h
 ·split at h
  ·split at h<;>cases h
   rw [jh]; exact Steady.refl _
  ·cases h
   rw [jh]; exact Steady.put _ _ _
 ·cases h
theorem sT (hcf:SteadyF cf){e:Operand→AV}(h:z6 P cf aF ds e s o=some s'):Steady s.h s'.h:=by
 have dv:∀{x:Option AV},(x.map fun x=>s.set o.dst x)=some s'→Steady s.h s'.h:=by
  intro x hx
  obtain⟨z,rfl,rfl⟩:=Option.map_some' hx
  rw [jh]; exact Steady.refl _
 unfold z6 at h
 dsimp only at h
 split at h
 ·cases h; rw [jh]; exact Steady.refl _
 ·cases h; rw [jh]; exact Steady.refl _
 ·obtain⟨z,_,rfl⟩:=Option.map_some' h; rw [jh]; exact Steady.refl _
 ·rw [Xs] at h
  obtain⟨z,_,h⟩:=h
  exact nb h
 ·exact nb h
 ·exact dv h
 ·obtain⟨z,hz,rfl⟩:=Option.map_some' h
  unfold pI
  split
  ·rw [jh]; exact Steady.refl _
  ·rw [jh]; exact Steady.put _ _ _
 ·exact dv h
 ·split at h
  ·cases h
  split at h
  ·rw [Xs] at h
   obtain⟨cs,_,h⟩:=h
   obtain⟨z,_,rfl⟩:=Option.map_some' h
   exact Steady.refl _
  ·rw [Xs] at h
   obtain⟨ob,_,h⟩:=h
   cases ob with
   | map es=>cases h
   | row t cs=>cases h
   | cells cs=>
    obtain⟨z,_,rfl⟩:=Option.map_some' h
    exact Steady.put _ _ _
  ·cases h
 ·exact dv h
 ·exact dv h
 ·exact dv h
 ·exact dv h
 ·split at h
  ·exact dv h
  ·cases h
 ·cases h; rw [jh]; exact Steady.put _ _ _
 ·obtain⟨⟨z,h'⟩,hz,rfl⟩:=Option.map_some' h
  rw [jh]; exact oq hz
 ·exact dv h
 ·exact dv h
 ·exact dv h
 ·exact dv h
 ·exact dv h
 ·exact dv h
 ·split at h
  ·cases h
  obtain⟨h',hz,rfl⟩:=Option.map_some' h
  exact lV hz
 ·split at h
  ·cases h
  obtain⟨h',hz,rfl⟩:=Option.map_some' h
  exact lV hz
 ·exact dv h
 ·unfold gg at h
  split at h
  ·exact dv h
  ·obtain⟨⟨z,h'⟩,hz,rfl⟩:=Option.map_some' h
   rw [jh]; exact sS hz
  ·obtain⟨⟨z,h'⟩,hz,rfl⟩:=Option.map_some' h
   rw [jh]; exact wG hz
  ·obtain⟨h',hz,rfl⟩:=Option.map_some' h
   rw [jh]; exact uF hz
  ·rw [Xs] at h
   obtain⟨v,_,h⟩:=h
   rw [Xs] at h
   obtain⟨vs,_,h⟩:=h
   rw [Xs] at h
   obtain⟨u,_,h⟩:=h
   exact dv h
  ·rw [Xs] at h
   obtain⟨v,_,h⟩:=h
   rw [Xs] at h
   obtain⟨vs,_,h⟩:=h
   rw [Xs] at h
   obtain⟨u,_,h⟩:=h
   exact dv h
  ·cases h
 ·split at h
  ·split at h
   ·obtain⟨⟨z,h'⟩,hz,rfl⟩:=Option.map_some' h
    rw [jh]; exact hcf _ _ _ _ _ hz
   ·cases h
  ·cases h
 ·cases h
theorem ot (hcf:SteadyF cf){ops:List Oper}(h:lM P cf aF ops s o=some s'):Steady s.h s'.h:=by
 unfold lM at h
 rw [Xs] at h
 obtain⟨w,_,h⟩:=h
 cases w with
 | true=>exact sT hcf (by simpa [wi] using h)
 | false=>
  simp only [XJ,if_false,Xu] at h
  subst h
  rw [jh]; exact Steady.refl _
theorem qX (hcf:SteadyF cf){ops:List Oper}:∀{l:List Oper} {s s':RS},rr P cf aF ops s l=some s'→Steady s.h s'.h
 | [],s,s',h=>by simp only [rr,Xu] at h; subst h; exact Steady.refl _
 | o::l,s,s',h=>by
  simp only [rr,Xs] at h
  obtain⟨s1,h1,h2⟩:=h
  exact (ot hcf h1).trans (qX hcf h2)
theorem qY (hcf:SteadyF cf){ops:List Oper}:∀{l:List Oper} {s r:RS} {es:List r8},pL P cf aF ops s l=some (es,r)→Steady s.h r.h
 | [],s,r,es,h=>by simp only [pL,Xu,Xz] at h; rw [h.2]; exact Steady.refl _
 | o::l,s,r,es,h=>by
  simp only [pL,Xs,Xt] at h
  obtain⟨w,hw,s1,h1,⟨qN,r'⟩,h2,h3⟩:=h
  simp only [Xz] at h3
  obtain⟨_,rfl⟩:=h3
  have h4:lM P cf aF ops s o=some s1:=by unfold lM; rw [hw]; exact h1
  exact (ot hcf h4).trans (qY hcf h2)
theorem uG (hcf:SteadyF cf){ops:Array Oper}(h:kQ P cf aF ops s=some s'):Steady s.h s'.h:=by
 unfold kQ at h
 dsimp only at h
 split at h
 rotate_left
 ·cases h
 rw [Xs] at h
 obtain⟨⟨es,r⟩,Ah,h⟩:=h
 simp only at h
 split at h
 ·cases h; exact qY hcf Ah
 ·cases h
theorem fE (hcf:SteadyF cf){A:cg}{m:Nat}:∀(c:Code) (st jv:St) (e:Ex),bG P cf A m c st=some (e,jv)→Steady st.h jv.h
 | .skip,st,jv,e,h=>by simp only [bG,Xu,Xz] at h; rw [h.2]; exact Steady.refl _
 | .label _,st,jv,e,h=>by simp only [bG,Xu,Xz] at h; rw [h.2]; exact Steady.refl _
 | .ret,st,jv,e,h=>by simp only [bG,Xu,Xz] at h; rw [h.2]; exact Steady.refl _
 | .exit _,st,jv,e,h=>by simp only [bG,Xu,Xz] at h; rw [h.2]; exact Steady.refl _
 | .seq x y,st,jv,e,h=>by
  simp only [bG,Xs] at h
  obtain⟨⟨e1,s1⟩,h1,h2⟩:=h
  have:=fE hcf x st s1 e1 h1
  cases e1 with
  | norm=>exact this.trans (fE hcf y s1 jv e h2)
  | exit id=>simp only [Xu,Xz] at h2; rw [←h2.2]; exact this
  | ret=>simp only [Xu,Xz] at h2; rw [←h2.2]; exact this
 | .cond k x y,st,jv,e,h=>by
  simp only [bG,Xs] at h
  obtain⟨t,_,h⟩:=h
  cases t with
  | true=>exact fE hcf x st jv e (by simpa using h)
  | false=>exact fE hcf y st jv e (by simpa using h)
 | .block id x,st,jv,e,h=>by
  simp only [bG,Xt] at h
  obtain⟨⟨e1,s1⟩,h1,h2⟩:=h
  have:=fE hcf x st s1 e1 h1
  cases e1<;>(simp only [Xz] at h2; rw [←h2.2]; exact this)
 | .loop x,st,jv,e,h=>by
  simp only [bG] at h
  have key:∀(j:Nat) (st:St),kn (bG P cf A m x) j st=some (e,jv)→Steady st.h jv.h:=by
   intro j
   induction j with
   | zero=>intro st h; simp [kn] at h
   | succ j ih=>
    intro st h
    simp only [kn,Xs] at h
    obtain⟨⟨e1,s1⟩,h1,h2⟩:=h
    have:=fE hcf x st s1 e1 h1
    cases e1 with
    | norm=>exact this.trans (ih s1 h2)
    | exit id=>simp only [Xu,Xz] at h2; rw [←h2.2]; exact this
    | ret=>simp only [Xu,Xz] at h2; rw [←h2.2]; exact this
  exact key m st h
 | .region id ops draw,st,jv,e,h=>by
  simp only [bG,Xs,Xt,Xz] at h
  obtain⟨s0,h0,s',h1,s2,h2,_,rfl⟩:=h
  rw [HX]
  refine ((lT h0).trans ?_).trans (lT h2)
  cases draw with
  | true=>exact uG (s:=s0) hcf (by simpa using h1)
  | false=>exact qX (s:=s0) hcf (by simpa using h1)
 | .rangeFunc ..,st,jv,e,h=>by simp [bG] at h
 | .scope ..,st,jv,e,h=>by simp [bG] at h
 | .goto ..,st,jv,e,h=>by simp [bG] at h
 | .refuse ..,st,jv,e,h=>by simp [bG] at h
theorem wH (hcf:SteadyF cf){aU:FuncId→cg}{m:Nat}:SteadyF (bc P aU cf m):=by
 intro f args h r h' hc
 unfold bc at hc
 rw [Xs] at hc
 obtain⟨fn,hf,hc⟩:=hc
 rw [Xs] at hc
 obtain⟨c,hb,hc⟩:=hc
 split at hc
 rotate_left
 ·cases hc
 rw [Xs] at hc
 obtain⟨⟨e,st⟩,hex,hc⟩:=hc
 have:=fE hcf c _ _ _ hex
 cases e with
 | norm=>obtain⟨r',_,h2⟩:=Option.map_some' hc; cases h2; exact this
 | ret=>obtain⟨r',_,h2⟩:=Option.map_some' hc; cases h2; exact this
 | exit id=>cases hc
end
end Go.R
namespace Go.R
open Go
section
variable {P:Program}{cf:CallF}{aF ds:List Nat}{o:Oper}{s s':RS}
theorem Db {e e':Operand→AV}(h:∀x∈o.op.operands,e x=e' x):z6 P cf aF ds e s o=z6 P cf aF ds e' s o:=by
 have MT:∀(l:List Operand),(∀x∈l,e x=e' x)→l.map e=l.map e':=fun l hl=>Yy hl
 have J2:∀(q:Option Operand),(∀x,q=some x→e x=e' x)→q.map e=q.map e':=by
  intro q hq; cases q with
  | none=>rfl
  | some x=>simp [hq x rfl]
 unfold z6
 cases BG:o.op<;>rw [BG] at h
 case build t ps=>
  have:(ps.toList.map fun (i,x)=>(i,e x))=(ps.toList.map fun (i,x)=>(i,e' x)):=
   Yy fun p hp=>by
    have:=h p.2 (by simp only [Op.operands,List.mem_toArray,XQ]; exact⟨p,hp,rfl⟩)
    simp [this]
  simp only [this]
 case buildSlice t n ps=>
  have:(ps.toList.map fun (i,x)=>(i,e x))=(ps.toList.map fun (i,x)=>(i,e' x)):=
   Yy fun p hp=>by
    have:=h p.2 (by simp only [Op.operands,List.mem_toArray,XQ]; exact⟨p,hp,rfl⟩)
    simp [this]
  simp only [this]
 case makeFunc f first cap=>
  have:cap.toList.map e=cap.toList.map e':=MT _ fun x hx=>h x (by simp only [Op.operands,Array.mem_append]; right; exact Yn.1 hx)
  cases f<;>first | rfl | simp only [this]
 case makeMap t r=>cases r<;>rfl
 case slice t x lo hi mx=>
  have h1:e x=e' x:=h x (by simp [Op.operands])
  have h2:=J2 lo fun y hy=>h y (by simp [Op.operands,hy])
  have h3:=J2 hi fun y hy=>h y (by simp [Op.operands,hy])
  have h4:=J2 mx fun y hy=>h y (by simp [Op.operands,hy])
  simp only [h1,h2,h3,h4]
 case call c=>
  obtain⟨callee,args,BC⟩:=c
  have h1:args.toList.map e=args.toList.map e':=MT _ fun x hx=>h x (by
   simp only [Op.operands,Call.operands]
   cases callee<;>simp<;>first | exact Yn.1 hx | (right; exact Yn.1 hx) | (left; exact Yn.1 hx))
  cases callee with
  | builtin b=>simp only [h1]
  | value f=>
   have h2:e f=e' f:=h f (by simp [Op.operands,Call.operands])
   simp only [h1,h2]
  | invoke r nm=>rfl
 all_goals first
  | rfl
  | (simp [Op.operands] at h; simp [h])
end
theorem ou (acc:List Nat)(i:Nat):∀(l:List Edge) (m:Nat),(l.foldl (fun m e=>bif Region.binds .any e then m ||| (2 ^ e.on ||| acc.getD e.on 0) else m) m).testBit i=true→
  m.testBit i=true∨∃e∈l,Region.binds .any e=true∧(e.on=i∨(acc.getD e.on 0).testBit i=true)
 | [],m,h=>.inl h
 | e::l,m,h=>by
  rcases ou acc i l _ h with h1 | ⟨e',he,h1⟩
  ·dsimp only at h1
   cases hb:Region.binds .any e with
   | false=>rw [hb] at h1; exact .inl h1
   | true=>
    rw [hb] at h1
    simp only [cond_true,Nat.testBit_or,Yf,Nat.testBit_two_pow,decide_eq_true_eq] at h1
    rcases h1 with h1 | h1 | h1
    ·exact .inl h1
    ·exact .inr ⟨e,by simp,hb,.inl h1⟩
    ·exact .inr ⟨e,by simp,hb,.inr h1⟩
  ·exact .inr ⟨e',by simp [he],h1⟩
theorem qZ:∀(l:List Oper) (acc:List Nat),(∀j,j<acc.length→(jD acc l).getD j 0=acc.getD j 0)∧
  ∀j i,((jD acc l).getD j 0).testBit i=true→acc.length≤j→∃o,l[j - acc.length]? = some o∧∃e∈o.after.toList,Region.binds .any e=true∧(e.on=i∨((jD acc l).getD e.on 0).testBit i=true)
 | [],acc=>⟨fun j hj=>rfl,fun j i h hj=>by simp [jD,List.getD,XL hj] at h⟩
 | o::l,acc=>by
  simp only [jD]
  generalize hm:(o.after.toList.foldl (fun m e=>bif Region.binds .any e then m ||| (2 ^ e.on ||| acc.getD e.on 0) else m) 0)=m
  obtain⟨h1,h2⟩:=qZ l (acc++[m])
  have hold:∀j,j<acc.length→(jD (acc++[m]) l).getD j 0=acc.getD j 0:=fun j hj=>by
   rw [h1 j (by simp; omega)]
   simp [List.getD,X4 hj]
  refine⟨hold,fun j i h hj=>?_⟩
  by_cases Vd:j=acc.length
  ·subst Vd
   have:(jD (acc++[m]) l).getD acc.length 0=m:=by
    rw [h1 _ (by simp)]; simp [List.getD]
   rw [this,←hm] at h
   rcases ou acc i _ _ h with h3 | ⟨e,he,hb,h3⟩
   ·simp at h3
   ·refine⟨o,by simp,e,he,hb,h3.imp id fun h4=>?_⟩
    by_cases hl:e.on<acc.length
    ·rw [hold _ hl]; exact h4
    ·simp [List.getD,XL (Nat.not_lt.1 hl)] at h4
  ·obtain⟨o',L5,h3⟩:=h2 j i h (by simp; omega)
   refine⟨o',?_,h3⟩
   rw [show j - acc.length=(j - (acc++[m]).length)+1 by simp; omega]
   simpa using L5
theorem ke {α:Type}(p:Nat→α→Nat→α→Bool):∀(l:List α) (k:Nat),nW p k l=true→∀i j x y,i<j→l[i]? = some x→l[j]? = some y→p (k+i) x (k+j) y=true
 | [],k,_,i,j,x,y,_,hx,_=>by simp at hx
 | a::l,k,h,i,j,x,y,vl,hx,hy=>by
  simp only [nW,Xw,XT] at h
  obtain⟨h1,h2⟩:=h
  cases j with
  | zero=>omega
  | succ j=>
   cases i with
   | zero=>
    simp only [X7,Xu] at hx
    subst hx
    have:=h1 (y,k+1+j) (by rw [List.mk_add_mem_zipIdx_iff_getElem?]; simpa using hy)
    simpa [Ye,Nat.add_comm 1 j] using this
   | succ i=>
    have:=ke p l (k+1) h2 i j x y (by omega) (by simpa using hx) (by simpa using hy)
    rw [show k+(i+1)=k+1+i by omega,show k+(j+1)=k+1+j by omega]
    exact this
theorem ov:∀(l:List Oper) (k:Nat),r9 k l=true→∀i o,l[i]? = some o→∀e∈o.after.toList,Region.binds .any e=true→e.on<k+i
 | [],k,_,i,o,h,_,_,_=>by simp at h
 | a::l,k,h,i,o,ho,e,he,hb=>by
  simp only [r9,Xw,XT] at h
  obtain⟨h1,h2⟩:=h
  cases i with
  | zero=>
   simp only [X7,Xu] at ho
   subst ho
   have:=h1 e he
   simp only [hb,Bool.not_true,Bool.false_or] at this
   exact Nat.blt_eq.mp this
  | succ i=>
   have:=ov l (k+1) h2 i o (by simpa using ho) e he hb
   omega
theorem ow {V:Type}{n i:Nat}(hi:i≤n){W:Nat→Prop}{S:Nat→Bool}{m x:Nat→V}(h0:m 0=x 0)(MU:∀k,k<n→W k→S k=true→m (k+1)=x (k+1))(Af:∀k,k<n→(¬W k∨S k=false)→m (k+1)=m k)
  (hx:∀k,k<n→¬W k→x (k+1)=x k) (hS:∀k,k<n→W k→(S k=true↔k<i)):m n=x i:=by
 have key:∀k,k≤n→m k=x (min k i):=by
  intro k
  induction k with
  | zero=>intro _; simpa using h0
  | succ k ih=>
   intro hk
   have ih:=ih (by omega)
   by_cases hw:W k
   ·have hs:=hS k (by omega) hw
    by_cases sd:k<i
    ·rw [MU k (by omega) hw (hs.2 sd),Y3 (by omega)]
    ·have:S k=false:=by
      cases h:S k with
      | false=>rfl
      | true=>exact absurd (hs.1 h) sd
     rw [Af k (by omega) (.inr this),ih,Nat.min_eq_right (by omega),Nat.min_eq_right (by omega)]
   ·rw [Af k (by omega) (.inl hw),ih]
    by_cases sd:k<i
    ·rw [Y3 (by omega),Y3 (by omega),hx k (by omega) hw]
    ·rw [Nat.min_eq_right (by omega),Nat.min_eq_right (by omega)]
 rw [key n (Xv n),Nat.min_eq_right hi]
open Classical in
theorem wI {V:Type}{n i:Nat}(hi:i<n){W:Nat→Prop}{S S':Nat→Bool}{m m' x:Nat→V}(h0:m' 0=m 0)(MU:∀k,k<n→W k→S k=true→m (k+1)=x (k+1))(Af:∀k,k<n→(¬W k∨S k=false)→m (k+1)=m k)
  (J3:∀k,k<n→W k→S' k=true→m' (k+1)=x (k+1)) (J4:∀k,k<n→(¬W k∨S' k=false)→m' (k+1)=m' k)
  (Dc:∀k,S' k=if k=i then true else S k) (MV:S i=false) (hl:W i→∀j,j<n→i<j→W j→S j=false):m' n=if W i then x (i+1) else m n:=by
 have key:∀k,k≤n→m' k=if i<k∧W i then x (i+1) else m k:=by
  intro k
  induction k with
  | zero=>intro _; simpa using h0
  | succ k ih=>
   intro hk
   have ih:=ih (by omega)
   by_cases sd:k=i
   ·subst sd
    by_cases hw:W k
    ·rw [J3 k (by omega) hw (by rw [Dc]; simp),if_pos ⟨by omega,hw⟩]
    ·rw [J4 k (by omega) (.inl hw),ih,if_neg (fun h=>hw h.2),if_neg (fun h=>hw h.2),Af k (by omega) (.inl hw)]
   ·have hs:S' k=S k:=by rw [Dc,if_neg sd]
    by_cases hw:W k
    ·cases pP:S k with
     | true=>
      rw [J3 k (by omega) hw (hs.trans pP)]
      by_cases Ed:i<k+1∧W i
      ·have:=hl Ed.2 k (by omega) (by omega) hw
       rw [pP] at this; cases this
      ·rw [if_neg Ed,MU k (by omega) hw pP]
     | false=>
      rw [J4 k (by omega) (.inr (hs.trans pP)),ih,Af k (by omega) (.inr pP)]
      by_cases Ed:i<k∧W i
      ·rw [if_pos Ed,if_pos ⟨by omega,Ed.2⟩]
      ·rw [if_neg Ed,if_neg (fun h=>Ed ⟨by omega,h.2⟩)]
    ·rw [J4 k (by omega) (.inl hw),ih,Af k (by omega) (.inl hw)]
     by_cases Ed:i<k∧W i
     ·rw [if_pos Ed,if_pos ⟨by omega,Ed.2⟩]
     ·rw [if_neg Ed,if_neg (fun h=>Ed ⟨by omega,h.2⟩)]
 rw [key n (Xv n)]
 by_cases hw:W i
 ·rw [if_pos ⟨hi,hw⟩,if_pos hw]
 ·rw [if_neg (fun h=>hw h.2),if_neg hw]
structure sU (P:Program)(cf:CallF)(aF:List Nat)(ops:Array Oper)(tx:Nat→RS)(ft:Nat→kl)(ord:Nat→Nat→Prop):Prop where
 op:∀k o,ops[k]? = some o→∃w,gC ops.toList (tx k).ρ o=some w∧(if w then wi P cf aF (ops.toList.filterMap (·.dst)) (tx k) o=some (tx (k+1))∧ft k=aZ aF (bN (tx k).ρ) o else tx (k+1)=(tx k).set o.dst (.tup [])∧ft k={})
 J5:∀k i,ord k i→∃o,ops[i]? = some o∧∃e∈o.after,Region.binds .any e=true∧(e.on=k∨ord k e.on)
 back:∀i o,ops[i]? = some o→∀e∈o.after,Region.binds .any e=true→e.on<i
 Jc:∀i j x y,i≠j→ops[i]? = some x→ops[j]? = some y→ord i j∨ord j i∨∀d,x.dst=some d→d∉y.looksAt ops∧y.dst≠some d
 boxes:∀i j,i<ops.size→j<ops.size→i≠j→ord i j∨ord j i∨(∀k,(ft i).wb=some k→k∉(ft j).rb∧(ft j).wb≠some k)∧((ft i).wh=true→(ft j).wh=false∧∀id∈(ft j).rh,(tx i).h.get id=(tx (i+1)).h.get id)
 PR:∀i o d,ops[i]? = some o→(ft i).al=true→o.dst=some d→(∀t∈ops.toList.filterMap (·.dst),t≠d→∀off,(tx 0).ρ t≠.lp d off)∧∀j y t,ops[j]? = some y→j≠i→ord i j∨(y.dst=some t→∀off,(tx (j+1)).ρ t≠.lp d off)
section
variable {P:Program}{cf:CallF}{aF:List Nat}{ops:Array Oper}{tx:Nat→RS}{ft:Nat→kl}{ord:Nat→Nat→Prop}
def ji (ops:Array Oper)(k:Nat):Option Nat:=(ops[k]?).bind (·.dst)
def jN (ops:Array Oper)(tx:Nat→RS)(ft:Nat→kl)(S:Nat→Bool):Nat→RS
 | 0=>tx 0
 | k+1=>if S k then (jN ops tx ft S k).shift (ft k) (ji ops k) (tx (k+1)) else jN ops tx ft S k
theorem sU.shift (T:sU P cf aF ops tx ft ord){k:Nat}(hk:k<ops.size):tx (k+1)=(tx k).shift (ft k) (ji ops k) (tx (k+1)):=by
 have ho:ops[k]? = some ops[k]:=by simp [hk]
 obtain⟨w,hw,h⟩:=T.op k _ ho
 have hd:ji ops k=ops[k].dst:=by simp [ji,hk]
 rw [hd]
 cases w with
 | true=>
  simp only [if_true] at h
  obtain⟨h1,h2⟩:=h
  have:=vk (s2:=tx k) (e:=bN (tx k).ρ) h1 (fun _ _=>rfl) (fun _ _=>rfl) (fun _=>rfl) (fun nS d zO=>by
   unfold wi z6 at h1
   dsimp only at h1
   have Jd:∀(cs:List AV) (s s':RS),hU s aF (ops.toList.filterMap (·.dst)) ops[k] cs=some s'→aF.contains d=true→sw d s.ρ ((ops.toList.filterMap (·.dst)).filter fun t=>!Nat.beq t d)=true:=by
    intro cs s s' hb hl
    unfold hU at hb
    simp only [zO,hl,if_true] at hb
    by_cases hn:sw d s.ρ ((ops.toList.filterMap (·.dst)).filter fun t=>!Nat.beq t d)=true
    ·exact hn
    ·simp [hn] at hb
   unfold aZ at nS
   split at nS
   ·rename_i t BG
    rw [zO] at nS
    simp only at nS
    split at nS
    ·rename_i hl
     rw [BG] at h1
     simp only [Xs] at h1
     obtain⟨z,_,h1⟩:=h1
     exact Jd _ _ _ h1 hl
    ·cases nS
   ·rename_i t x BG
    rw [zO] at nS
    simp only at nS
    split at nS
    ·rename_i hl
     rw [BG] at h1
     exact Jd _ _ _ h1 hl
    ·cases nS
   all_goals first
    | (split at nS<;>cases nS)
    | (split at nS<;>first | cases nS | (split at nS<;>cases nS))
    | cases nS)
  unfold wi at h1
  rw [h1] at this
  rw [h2]
  exact XP this
 | false=>
  simp only [XJ,if_false] at h
  rw [h.1,h.2]
  exact ic (tx k) (tx k) {} _ _ rfl rfl
theorem se (s2:RS)(f:kl)(d:Option Nat)(s':RS)(t:Nat):(s2.shift f d s').ρ t=if d=some t then s'.ρ t else s2.ρ t:=by
 cases d with
 | none=>simp [RS.shift]
 | some d=>
  simp only [RS.shift,Xu]
  by_cases h:t=d
  ·subst h; simp
  ·rw [if_neg h,if_neg (YK h)]
theorem ox (s2:RS)(f:kl)(d:Option Nat)(s':RS)(b:Nat):(s2.shift f d s').bx b=if f.wb=some b then s'.bx b else s2.bx b:=by
 cases hf:f.wb with
 | none=>simp [RS.shift,hf]
 | some k=>
  simp only [RS.shift,hf,Xu]
  by_cases h:b=k
  ·subst h; simp
  ·rw [if_neg h,if_neg (YK h)]
theorem sU.lt (T:sU P cf aF ops tx ft ord):∀{j k:Nat},ord k j→k<j:=by
 intro j
 induction j using Nat.strongRecOn with
 | _ j ih=>
  intro k h
  obtain⟨o,ho,e,he,hb,h1⟩:=T.J5 k j h
  have h2:=T.back j o ho e he hb
  rcases h1 with h1 | h1
  ·omega
  ·have:=ih e.on h2 h1; omega
def pR (ops:Array Oper)(S:Nat→Bool):Prop:=∀j o,ops[j]? = some o→S j=true→∀e∈o.after,Region.binds .any e=true→S e.on=true
theorem sU.down (T:sU P cf aF ops tx ft ord){S:Nat→Bool}(hc:pR ops S):∀{j k:Nat},ord k j→S j=true→S k=true:=by
 intro j
 induction j using Nat.strongRecOn with
 | _ j ih=>
  intro k h hs
  obtain⟨o,ho,e,he,hb,h1⟩:=T.J5 k j h
  have h2:=T.back j o ho e he hb
  have h3:=hc j o ho hs e he hb
  rcases h1 with h1 | h1
  ·rw [←h1]; exact h3
  ·exact ih e.on h2 h1 h3
variable {S:Nat→Bool}{i:Nat}{oi:Oper}
theorem sU.before (T:sU P cf aF ops tx ft ord)(hc:pR ops S)(ho:ops[i]? = some oi)(hr:∀e∈oi.after,Region.binds .any e=true→S e.on=true){k:Nat}(h:ord k i):S k=true:=by
 obtain⟨o,L5,e,he,hb,h1⟩:=T.J5 k i h
 rw [ho] at L5
 cases L5
 rcases h1 with h1 | h1
 ·rw [←h1]; exact hr e he hb
 ·exact T.down hc h1 (hr e he hb)
theorem sU.iff (T:sU P cf aF ops tx ft ord)(hc:pR ops S)(ho:ops[i]? = some oi)(hr:∀e∈oi.after,Region.binds .any e=true→S e.on=true)(hi:S i=false){k:Nat}(h:ord i k∨ord k i):S k=true↔k<i:=by
 rcases h with h | h
 ·have:=T.lt h
  refine⟨fun hk=>?_,fun _=>by omega⟩
  have:=T.down hc h hk
  rw [hi] at this; cases this
 ·exact⟨fun _=>T.lt h,fun _=>T.before hc ho hr h⟩
theorem wJ (t:Nat)(k:Nat)(hd:ji ops k=some t)(hs:S k=true):(jN ops tx ft S (k+1)).ρ t=(tx (k+1)).ρ t:=by
 simp only [jN,hs,if_true,se,hd]
theorem wK (t:Nat)(k:Nat)(h:¬ji ops k=some t∨S k=false):(jN ops tx ft S (k+1)).ρ t=(jN ops tx ft S k).ρ t:=by
 simp only [jN]
 split
 ·rename_i hs
  rcases h with h | h
  ·rw [se,if_neg h]
  ·rw [h] at hs; cases hs
 ·rfl
theorem wL (b:Nat)(k:Nat)(hd:(ft k).wb=some b)(hs:S k=true):(jN ops tx ft S (k+1)).bx b=(tx (k+1)).bx b:=by
 simp only [jN,hs,if_true,ox,hd]
theorem wM (b:Nat)(k:Nat)(h:¬(ft k).wb=some b∨S k=false):(jN ops tx ft S (k+1)).bx b=(jN ops tx ft S k).bx b:=by
 simp only [jN]
 split
 ·rename_i hs
  rcases h with h | h
  ·rw [ox,if_neg h]
  ·rw [h] at hs; cases hs
 ·rfl
theorem wN (k:Nat)(hd:(ft k).wh=true)(hs:S k=true):(jN ops tx ft S (k+1)).h=(tx (k+1)).h:=by
 simp only [jN,hs,if_true,RS.shift,hd]
theorem wO (k:Nat)(h:¬(ft k).wh=true∨S k=false):(jN ops tx ft S (k+1)).h=(jN ops tx ft S k).h:=by
 simp only [jN]
 split
 ·rename_i hs
  rcases h with h | h
  ·simp only [RS.shift]; rw [if_neg h]
  ·rw [h] at hs; cases hs
 ·rfl
theorem sU.PS (T:sU P cf aF ops tx ft ord)(t:Nat)(k:Nat)(hk:k<ops.size)(h:¬ji ops k=some t):(tx (k+1)).ρ t=(tx k).ρ t:=by
 rw [T.shift hk,se,if_neg h]
theorem sU.MW (T:sU P cf aF ops tx ft ord)(b:Nat)(k:Nat)(hk:k<ops.size)(h:¬(ft k).wb=some b):(tx (k+1)).bx b=(tx k).bx b:=by
 rw [T.shift hk,ox,if_neg h]
theorem sU.J6 (T:sU P cf aF ops tx ft ord)(k:Nat)(hk:k<ops.size)(h:¬(ft k).wh=true):(tx (k+1)).h=(tx k).h:=by
 rw [T.shift hk]; simp only [RS.shift]; rw [if_neg h]
theorem sU.reads (T:sU P cf aF ops tx ft ord)(hc:pR ops S)(ho:ops[i]? = some oi)(hr:∀e∈oi.after,Region.binds .any e=true→S e.on=true)(hi:S i=false) :
  (∀t∈oi.looksAt ops,(jN ops tx ft S ops.size).ρ t=(tx i).ρ t)∧(∀b∈(ft i).rb,(jN ops tx ft S ops.size).bx b=(tx i).bx b)∧
  (∀id∈(ft i).rh,(jN ops tx ft S ops.size).h.get id=(tx i).h.get id)∧((ft i).wh=true→(jN ops tx ft S ops.size).h=(tx i).h):=by
 have hin:i<ops.size:=(X0.1 ho).1
 have JO:∀k,k<ops.size→ops[k]? = some ops[k]!:=fun k hk=>by simp [hk]
 have nc:∀k,k=i→(S k=true↔k<i):=by
  rintro k rfl
  rw [hi]; simp
 refine⟨fun t ht=>?_,fun b hb=>?_,fun id hid=>?_,fun hw=>?_⟩
 ·refine ow (W:=fun k=>ji ops k=some t) (m:=fun k=>(jN ops tx ft S k).ρ t) (x:=fun k=>(tx k).ρ t) (S:=S) (Nat.le_of_lt hin) rfl (fun k _ h hs=>wJ t k h hs) (fun k _ h=>wK t k h) (fun k hk h=>T.PS t k hk h) (fun k hk h=>?_)
  by_cases sd:k=i
  ·exact nc k sd
  ·obtain⟨y,hy,J7⟩:=Xs.1 h
   rcases T.Jc k i y oi sd hy ho with h1 | h1 | h1
   ·exact T.iff hc ho hr hi (.inr h1)
   ·exact T.iff hc ho hr hi (.inl h1)
   ·exact absurd ht (h1 t J7).1
 ·refine ow (W:=fun k=>(ft k).wb=some b) (m:=fun k=>(jN ops tx ft S k).bx b) (x:=fun k=>(tx k).bx b) (S:=S) (Nat.le_of_lt hin) rfl (fun k _ h hs=>wL b k h hs) (fun k _ h=>wM b k h) (fun k hk h=>T.MW b k hk h) (fun k hk h=>?_)
  by_cases sd:k=i
  ·exact nc k sd
  ·rcases T.boxes k i hk hin sd with h1 | h1 | h1
   ·exact T.iff hc ho hr hi (.inr h1)
   ·exact T.iff hc ho hr hi (.inl h1)
   ·exact absurd hb (h1.1 b h).1
 ·
  obtain⟨p,hp,MK⟩:∃p,p≤ops.size∧∀k,k<ops.size→(ft k).wh=true→(S k=true↔k<p):=by
   have key:∀m,m≤ops.size→(∀k,k<m→(ft k).wh=true→S k=true)∨∃p,p<m∧(ft p).wh=true∧S p=false∧∀k,k<p→(ft k).wh=true→S k=true:=by
    intro m
    induction m with
    | zero=>intro _; exact .inl fun k hk=>by omega
    | succ m ih=>
     intro hm
     rcases ih (by omega) with h | ⟨p,h1,h2⟩
     ·by_cases hw:(ft m).wh=true∧S m=false
      ·exact .inr ⟨m,by omega,hw.1,hw.2,h⟩
      ·refine .inl fun k hk SY=>?_
       by_cases Ve:k=m
       ·subst Ve
        cases hs:S k with
        | true=>rfl
        | false=>exact absurd ⟨SY,hs⟩ hw
       ·exact h k (by omega) SY
     ·exact .inr ⟨p,by omega,h2⟩
   rcases key ops.size (Xv _) with h | ⟨p,h1,h2,h3,h4⟩
   ·exact⟨ops.size,Xv _,fun k hk hw=>⟨fun _=>hk,fun _=>h k hk hw⟩⟩
   ·refine⟨p,by omega,fun k hk hw=>⟨fun hs=>?_,fun OX=>h4 k OX hw⟩⟩
    rcases Nat.lt_or_ge k p with h5 | h5
    ·exact h5
    ·by_cases OX:k=p
     ·subst OX; rw [h3] at hs; cases hs
     ·rcases T.boxes p k h1 hk (YK OX) with h6 | h6 | h6
      ·have:=T.down hc h6 hs; rw [h3] at this; cases this
      ·have:=T.lt h6; omega
      ·have:=(h6.2 h2).1; rw [hw] at this; cases this
  have J8:(jN ops tx ft S ops.size).h=(tx p).h:=
   ow (W:=fun k=>(ft k).wh=true) (m:=fun k=>(jN ops tx ft S k).h) (x:=fun k=>(tx k).h) (S:=S) hp rfl (fun k _ h hs=>wN k h hs) (fun k _ h=>wO k h) (fun k hk h=>T.J6 k hk h) MK
  rw [J8]
  have Je:∀k,k<ops.size→(p≤k∧k<i)∨(i≤k∧k<p)→(tx (k+1)).h.get id=(tx k).h.get id:=by
   intro k hk hb
   by_cases hw:(ft k).wh=true
   ·have hs:=MK k hk hw
    have sd:k≠i:=by
     rintro rfl
     rcases hb with hb | hb
     ·omega
     ·have:=hs.2 hb.2; rw [hi] at this; cases this
    rcases T.boxes k i hk hin sd with h1 | h1 | h1
    ·have hlt:=T.lt h1
     have:=hs.1 (T.before hc ho hr h1)
     omega
    ·have hlt:=T.lt h1
     have:=T.down hc h1 (hs.2 (by omega))
     rw [hi] at this; cases this
    ·exact ((h1.2 hw).2 id hid).symm
   ·rw [T.J6 k hk hw]
  have walk:∀a b,a≤b→b≤ops.size→(∀k,a≤k→k<b→(tx (k+1)).h.get id=(tx k).h.get id)→(tx b).h.get id=(tx a).h.get id:=by
   intro a b PT
   induction b with
   | zero=>
     intro _ _; have:a=0:=by omega
     subst this; rfl
   | succ b ih=>
    intro hb hk
    by_cases PU:a=b+1
    ·subst PU; rfl
    ·rw [hk b (by omega) (by omega)]
     exact ih (by omega) (by omega) fun k h1 h2=>hk k h1 (by omega)
  rcases Nat.le_total p i with h | h
  ·exact (walk p i h (Nat.le_of_lt hin) fun k h1 h2=>Je k (by omega) (.inl ⟨h1,h2⟩)).symm
  ·exact walk i p h hp fun k h1 h2=>Je k (by omega) (.inr ⟨h1,h2⟩)
 ·refine ow (W:=fun k=>(ft k).wh=true) (m:=fun k=>(jN ops tx ft S k).h) (x:=fun k=>(tx k).h) (S:=S) (Nat.le_of_lt hin) rfl (fun k _ h hs=>wN k h hs) (fun k _ h=>wO k h) (fun k hk h=>T.J6 k hk h) (fun k hk h=>?_)
  by_cases sd:k=i
  ·exact nc k sd
  ·rcases T.boxes k i hk hin sd with h1 | h1 | h1
   ·exact T.iff hc ho hr hi (.inr h1)
   ·exact T.iff hc ho hr hi (.inl h1)
   ·have:=(h1.2 h).1; rw [hw] at this; cases this
theorem yv (t:Nat):∀k,(jN ops tx ft S k).ρ t=(tx 0).ρ t∨∃j,j<k∧S j=true∧ji ops j=some t∧(jN ops tx ft S k).ρ t=(tx (j+1)).ρ t
 | 0=>.inl rfl
 | k+1=>by
  by_cases h:ji ops k=some t∧S k=true
  ·exact .inr ⟨k,by omega,h.2,h.1,wJ t k h.1 h.2⟩
  ·have h':¬ji ops k=some t∨S k=false:=by
    by_cases h1:ji ops k=some t
    ·right; cases hs:S k with
     | true=>exact absurd ⟨h1,hs⟩ h
     | false=>rfl
    ·exact .inl h1
   rw [wK t k h']
   rcases yv t k with h1 | ⟨j,h1,h2⟩
   ·exact .inl h1
   ·exact .inr ⟨j,by omega,h2⟩
theorem sV {k:Nat}{ρ:Nat→AV}:∀{l:List Nat},(∀t∈l,∀off,ρ t≠.lp k off)→sw k ρ l=true
 | [],_=>rfl
 | t::l,h=>by
  simp only [sw,Xw]
  refine⟨?_,sV fun u hu=>h u (by simp [hu])⟩
  have:=h t (by simp)
  split
  ·rename_i j off heq
   simp only [bne_iff_ne,ne_eq]
   rintro rfl
   exact this off heq
  ·rfl
open Classical in
theorem sU.next (T:sU P cf aF ops tx ft ord)(hc:pR ops S)(ho:ops[i]? = some oi)(hr:∀e∈oi.after,Region.binds .any e=true→S e.on=true)(hi:S i=false){S':Nat→Bool}(Dc:∀k,S' k=if k=i then true else S k) :
  lM P cf aF ops.toList (jN ops tx ft S ops.size) oi=some (jN ops tx ft S' ops.size):=by
 have hin:i<ops.size:=(X0.1 ho).1
 obtain⟨h1,h2,h3,h4⟩:=T.reads hc ho hr hi
 obtain⟨w,hw,BG⟩:=T.op i oi ho
 have ry:ji ops i=oi.dst:=by simp [ji,ho]
 have vm:∀j,i<j→j<ops.size→(ord i j∨ord j i)→S j=false:=by
  intro j vl hj h
  cases hs:S j with
  | false=>rfl
  | true=>have:=(T.iff hc ho hr hi h).1 hs; omega
 have J8:jN ops tx ft S' ops.size=(jN ops tx ft S ops.size).shift (ft i) (ji ops i) (tx (i+1)):=by
  refine RS.ext' (fun t=>?_) (fun b=>?_) ?_
  ·rw [se]
   have:=wI (W:=fun k=>ji ops k=some t) (m:=fun k=>(jN ops tx ft S k).ρ t) (m':=fun k=>(jN ops tx ft S' k).ρ t) (x:=fun k=>(tx k).ρ t) (S:=S) (S':=S') hin rfl
    (fun k _ h hs=>wJ t k h hs) (fun k _ h=>wK t k h) (fun k _ h hs=>wJ t k h hs) (fun k _ h=>wK t k h) Dc hi (fun L6 j hj vl MX=>by
     obtain⟨y,hy,J7⟩:=Xs.1 MX
     rw [ry] at L6
     rcases T.Jc i j oi y (by omega) ho hy with h | h | h
     ·exact vm j vl hj (.inl h)
     ·exact vm j vl hj (.inr h)
     ·exact absurd J7 (h t L6).2)
   rw [this]
   by_cases hd:ji ops i=some t
   ·rw [if_pos hd,if_pos hd]
   ·rw [if_neg hd,if_neg hd]
  ·rw [ox]
   have:=wI (W:=fun k=>(ft k).wb=some b) (m:=fun k=>(jN ops tx ft S k).bx b) (m':=fun k=>(jN ops tx ft S' k).bx b) (x:=fun k=>(tx k).bx b) (S:=S) (S':=S') hin rfl
    (fun k _ h hs=>wL b k h hs) (fun k _ h=>wM b k h) (fun k _ h hs=>wL b k h hs) (fun k _ h=>wM b k h) Dc hi (fun L6 j hj vl MX=>by
     rcases T.boxes i j hin hj (by omega) with h | h | h
     ·exact vm j vl hj (.inl h)
     ·exact vm j vl hj (.inr h)
     ·exact absurd MX (h.1 b L6).2)
   rw [this]
   by_cases hd:(ft i).wb=some b
   ·rw [if_pos hd,if_pos hd]
   ·rw [if_neg hd,if_neg hd]
  ·have:=wI (W:=fun k=>(ft k).wh=true) (m:=fun k=>(jN ops tx ft S k).h) (m':=fun k=>(jN ops tx ft S' k).h) (x:=fun k=>(tx k).h) (S:=S) (S':=S') hin rfl
    (fun k _ h hs=>wN k h hs) (fun k _ h=>wO k h) (fun k _ h hs=>wN k h hs) (fun k _ h=>wO k h) Dc hi (fun L6 j hj vl MX=>by
     rcases T.boxes i j hin hj (by omega) with h | h | h
     ·exact vm j vl hj (.inl h)
     ·exact vm j vl hj (.inr h)
     ·have:=(h.2 L6).1; rw [MX] at this; cases this)
   rw [this]
   simp only [RS.shift]
   by_cases hd:(ft i).wh=true
   ·rw [if_pos hd,if_pos hd]
   ·rw [if_neg hd,if_neg hd]
 have MY:∀x∈oi.op.operands,bN (jN ops tx ft S ops.size).ρ x=bN (tx i).ρ x:=by
  intro x hx
  cases x with
  | tmp t=>
   refine h1 t ?_
   unfold Oper.looksAt
   rw [XH]
   left
   rw [List.mem_filterMap]
   exact⟨.tmp t,Yn.2 hx,rfl⟩
  | _=>rfl
 have MZ:gC ops.toList (jN ops tx ft S ops.size).ρ oi=gC ops.toList (tx i).ρ oi:=by
  unfold gC
  cases hg:oi.guard with
  | none=>rfl
  | some g=>
   obtain⟨g,want⟩:=g
   simp only
   cases hq:(ops.toList[g]?).bind (·.dst) with
   | none=>rfl
   | some d=>
    simp only [Xr]
    rw [h1 d]
    unfold Oper.looksAt
    rw [XH]
    right
    rw [hg]
    simp only
    have:(ops[g]?).bind (·.dst)=some d:=by simpa using hq
    rw [this]
    simp
 unfold lM
 rw [MZ,hw]
 simp only [Xr]
 rw [J8,ry]
 cases w with
 | false=>
  simp only [XJ,if_false] at BG ⊢
  rw [BG.1,BG.2]
  congr 1
  exact ic (tx i) _ {} _ _ rfl rfl
 | true=>
  simp only [if_true] at BG ⊢
  obtain⟨BG,L7⟩:=BG
  unfold wi at BG ⊢
  rw [Db MY,L7]
  rw [L7] at h2 h3 h4
  refine vk BG h2 h3 h4 (fun nS d zO=>sV fun t ht off he=>?_)
  rw [YP] at ht
  obtain⟨Vf,Vg⟩:=ht
  have I6:t≠d:=by simpa [beq_nat] using Vg
  obtain⟨l1,l2⟩:=T.PR i oi d ho (by rw [L7]; exact nS) zO
  rcases yv (ops:=ops) (tx:=tx) (ft:=ft) (S:=S) t ops.size with h | ⟨j,hj,hs,Vh,h⟩
  ·rw [h] at he
   exact l1 t Vf I6 off he
  ·rw [h] at he
   obtain⟨y,hy,J7⟩:=Xs.1 Vh
   have hji:j≠i:=by rintro rfl; rw [hi] at hs; cases hs
   rcases l2 j y t hy hji with h5 | h5
   ·have:=T.down hc h5 hs; rw [hi] at this; cases this
   ·exact h5 J7 off he
theorem BH (T:sU P cf aF ops tx ft ord)(kA:∀k,k<ops.size→S k=true):∀k,k≤ops.size→jN ops tx ft S k=tx k
 | 0,_=>rfl
 | k+1,hk=>by
  simp only [jN,kA k (by omega),if_true]
  rw [BH T kA k (by omega)]
  exact (T.shift (by omega)).symm
def left (n:Nat)(S:Nat→Bool):Nat:=(List.range n).countP fun j=>!S j
theorem Dd {n:Nat}{S:Nat→Bool}(h:left n S=0):∀k,k<n→S k=true:=by
 intro k hk
 unfold left at h
 rw [List.countP_eq_zero] at h
 simpa using h k (List.mem_range.2 hk)
theorem EK {n i:Nat}(hi:i<n){S S':Nat→Bool}(MV:S i=false)(Dc:∀k,S' k=if k=i then true else S k):left n S'+1=left n S:=by
 unfold left
 have:∀m,(List.range m).countP (fun j=>!S' j)+(if i<m then 1 else 0)=(List.range m).countP fun j=>!S j:=by
  intro m
  induction m with
  | zero=>simp
  | succ m ih=>
   rw [List.range_succ,List.countP_append,List.countP_append]
   simp only [List.countP_cons,List.countP_nil]
   by_cases hm:m=i
   ·subst hm
    have h1:S' m=true:=by rw [Dc]; simp
    rw [h1,MV]
    simp at ih ⊢
    omega
   ·have h1:S' m=S m:=by rw [Dc,if_neg hm]
    rw [h1]
    by_cases SZ:i<m
    ·have h3:i<m+1:=by omega
     simp only [SZ,h3,if_true] at ih ⊢
     omega
    ·have h3:¬i<m+1:=by omega
     simp only [SZ,h3,if_false] at ih ⊢
     omega
 have:=this n
 rw [if_pos hi] at this
 exact this
theorem J9 (T:sU P cf aF ops tx ft ord)(hcf:CallOK P cf){L0:Nat→Prop}{c0:Cx}{n:Nat}(hb0:c0.base≤c0.w.heap.size)(yh:vj n ops.toList=true){Q:Exit→Act→World→Prop}
  (hQ:∀a' w',Inv L0 c0 n (ops.toList.filterMap (·.dst)) (tx ops.size) a' w'→Q .normal a' w') :
  ∀(fuel:Nat) (listed:Array Bool) (a:Act) (w:World),listed.size=ops.size→pR ops (fun j=>listed.getD j false)→left ops.size (fun j=>listed.getD j false)≤fuel→
   Inv L0 c0 n (ops.toList.filterMap (·.dst)) (jN ops tx ft (fun j=>listed.getD j false) ops.size) a w→wpAny P .any ops Q fuel listed a w:=by
 intro fuel
 have EL:∀(listed:Array Bool) a w,listed.size=ops.size→Region.ready .any ops listed=[]→Inv L0 c0 n (ops.toList.filterMap (·.dst)) (jN ops tx ft (fun j=>listed.getD j false) ops.size) a w→Q .normal a w:=by
  intro listed a w hsz L8 hi
  have kA:∀k,k<ops.size→listed.getD k false=true:=by
   intro k
   induction k using Nat.strongRecOn with
   | _ k ih=>
    intro hk
    cases hl:listed.getD k false with
    | true=>rfl
    | false=>
     have:k∈Region.ready .any ops listed:=mem_ready.2 ⟨getD_in (by omega) hl,ops[k],by simp [hk],fun e he hb=>by
      have:=T.back k ops[k] (by simp [hk]) e he hb
      exact ih e.on this (by omega)⟩
     rw [L8] at this
     cases this
  rw [BH (S:=fun j=>listed.getD j false) T kA _ (Xv _)] at hi
  exact hQ a w hi
 induction fuel with
 | zero=>
  intro listed a w hsz hc hl hi
  have kA:=Dd (Nat.le_zero.1 hl)
  have L8:Region.ready .any ops listed=[]:=by
   rw [List.eq_nil_iff_forall_not_mem]
   intro j hj
   obtain⟨h1,o,ho,_⟩:=mem_ready.1 hj
   have M0:j<ops.size:=(X0.1 ho).1
   have h2:=kA j M0
   have EM:j<listed.size:=by omega
   simp [EM] at h1 h2
   rw [h1] at h2; cases h2
  exact⟨L8,EL listed a w hsz L8 hi⟩
 | succ fuel ih=>
  intro listed a w hsz hc hl hi
  refine⟨fun L8=>EL listed a w hsz L8 hi,fun i rA=>?_⟩
  obtain⟨h1,o,ho,M3⟩:=mem_ready.1 rA
  have hin:i<ops.size:=(X0.1 ho).1
  have Au:i<listed.size:=by omega
  have MV:listed.getD i false=false:=by simp [Au] at h1 ⊢; exact h1
  have Dc:∀k,(listed.setIfInBounds i true).getD k false=if k=i then true else listed.getD k false:=by
   intro k
   by_cases hk:k=i
   ·subst hk
    rw [if_pos rfl]
    simp [Au]
   ·rw [if_neg hk,getD_set_ne false (YK hk)]
  have hst:=T.next (S:=fun j=>listed.getD j false) (S':=fun k=>(listed.setIfInBounds i true).getD k false) hc ho M3 MV Dc
  unfold wpOp
  rw [ho]
  simp only
  have M4:o∈ops.toList:=Yn.2 (Array.mem_of_getElem? ho)
  have:=yq (Q:=Q) (K:=wpAny P .any ops Q fuel (listed.setIfInBounds i true)) hcf hb0 rfl (yr yh M4) hst hi (fun a' w' lu=>by
   refine ih _ a' w' (by simpa using hsz) ?_ ?_ lu
   ·intro j oj PV hj e he hb
    dsimp only at hj ⊢
    rw [Dc] at hj ⊢
    by_cases hji:j=i
    ·subst hji
     rw [ho] at PV
     cases PV
     have:=M3 e he hb
     rw [this]; simp
    ·rw [if_neg hji] at hj
     have:=hc j oj PV hj e he hb
     simp only at this
     rw [this]; simp
   ·have:=EK hin (S:=fun j=>listed.getD j false) MV Dc
    omega)
  split
  ·rename_i hw; rw [if_pos hw] at this; exact .inl this
  ·rename_i hw; rw [if_neg hw] at this; exact this
theorem vn {opsL:List Oper}:∀(l:List Oper) (s r:RS) (es:List r8),pL P cf aF opsL s l=some (es,r)→∃tx:Nat→RS,tx 0=s∧tx l.length=r∧
  ∀k o,l[k]? = some o→∃w,gC opsL (tx k).ρ o=some w∧(if w then wi P cf aF (opsL.filterMap (·.dst)) (tx k) o=some (tx (k+1)) else tx (k+1)=(tx k).set o.dst (.tup []))∧
   es[k]? = some {o,f:=if w then aZ aF (bN (tx k).ρ) o else {},s:=tx k,s':=tx (k+1)}
 | [],s,r,es,h=>by
  simp only [pL,Xu,Xz] at h
  obtain⟨rfl,rfl⟩:=h
  exact⟨fun _=>s,rfl,rfl,fun k o ho=>by simp at ho⟩
 | o::l,s,r,es,h=>by
  simp only [pL,Xs,Xt] at h
  obtain⟨w,hw,s1,h1,⟨qN,r'⟩,h2,h3⟩:=h
  simp only [Xz] at h3
  obtain⟨rfl,rfl⟩:=h3
  obtain⟨tx,t0,tn,ht⟩:=vn l s1 r' qN h2
  refine⟨fun | 0=>s | k+1=>tx k,rfl,tn,fun k o' ho=>?_⟩
  cases k with
  | zero=>
   simp only [X7,Xu] at ho
   subst ho
   refine⟨w,hw,?_,?_⟩
   ·cases w with
    | true=>simpa [t0] using h1
    | false=>
     simp only [XJ,if_false,Xu] at h1 ⊢
     rw [t0]; exact h1.symm
   ·simp [t0]
  | succ k=>
   obtain⟨w',h4,h5,h6⟩:=ht k o' (by simpa using ho)
   exact⟨w',h4,h5,by simpa using h6⟩
theorem EN {e:Operand→AV}{o:Oper}(h:(aZ aF e o).al=true):(aZ aF e o).wb.isSome=true:=by
 unfold aZ at h ⊢
 split at h<;>try (cases h; done)
 all_goals (split at h<;>try (cases h; done))
 all_goals (split at h<;>try (cases h; done))
 all_goals simp_all
theorem De {k:Nat}{x:AV}(h:JN k x=false):∀off,x≠.lp k off:=by
 rintro off rfl
 simp [JN] at h
theorem EO (hm:P.follows .mixedOrders=true)(hcf:CallOK P cf)(Vi:SteadyF cf):Ar P cf:=by
 intro L0 c0 n aF id ops s s' h hb0 yh a w Q hi hQ
 unfold kQ at h
 dsimp only at h
 split at h
 rotate_left
 ·cases h
 rename_i wP
 rw [Xs] at h
 obtain⟨⟨es,r⟩,Ah,h⟩:=h
 simp only at h
 split at h
 rotate_left
 ·cases h
 rename_i yw
 cases h
 obtain⟨tx,t0,tn,ht⟩:=vn ops.toList s s' es Ah
 generalize Mt:jD [] ops.toList=ms at wP yw
 have PW:∀k i,(ms.getD i 0).testBit k=true→∃o,ops[i]? = some o∧∃e∈o.after,Region.binds .any e=true∧(e.on=k∨(ms.getD e.on 0).testBit k=true):=by
  intro k i hk
  obtain⟨o,ho,e,he,hb,h1⟩:=(qZ ops.toList []).2 i k (by rw [Mt]; exact hk) (by simp)
  refine⟨o,by simpa using ho,e,Yn.1 he,hb,?_⟩
  rw [Mt] at h1
  exact h1
 unfold pK at wP
 simp only [Xw] at wP
 obtain⟨Ka,EP⟩:=wP
 let ft:Nat→kl:=fun k=>((es[k]?).map (·.f)).getD {}
 have sG:∀k o,ops[k]? = some o→∃w,gC ops.toList (tx k).ρ o=some w∧(if w then wi P cf aF (ops.toList.filterMap (·.dst)) (tx k) o=some (tx (k+1)) else tx (k+1)=(tx k).set o.dst (.tup []))∧
   es[k]? = some {o,f:=ft k,s:=tx k,s':=tx (k+1)}∧ft k=if w then aZ aF (bN (tx k).ρ) o else {}:=by
  intro k o ho
  obtain⟨w,h1,h2,h3⟩:=ht k o (by simpa using ho)
  have L7:ft k=if w then aZ aF (bN (tx k).ρ) o else {}:=by simp only [ft,h3,Xx,Yl]
  exact⟨w,h1,h2,by rw [L7]; exact h3,L7⟩
 have rA:∀k o,ops[k]? = some o→((⟨o,ft k,tx k,tx (k+1)⟩:r8),k)∈es.zipIdx:=by
  intro k o ho
  obtain⟨w,_,_,h3,_⟩:=sG k o ho
  exact List.mk_mem_zipIdx_iff_getElem?.2 h3
 simp only [XT,YP,Xw] at yw
 have zL:∀k o,ops[k]? = some o→(ft k).quiet=false→(((⟨o,ft k,tx k,tx (k+1)⟩:r8),k)∈es.zipIdx∧(!(ft k).quiet)=true):=fun k o ho hq=>⟨rA k o ho,by rw [hq]; rfl⟩
 have JO:∀k,k<ops.size→ops[k]? = some ops[k]!:=fun k hk=>by simp [hk]
 have Kb:∀i j x y,ops[i]? = some x→ops[j]? = some y→i≠j→(ft i).quiet=false→(ft j).quiet=false→(ms.getD j 0).testBit i=true∨(ms.getD i 0).testBit j=true∨
   r8.pJ ⟨x,ft i,tx i,tx (i+1)⟩ ⟨y,ft j,tx j,tx (j+1)⟩=true:=by
  intro i j x y hx hy vl Hv Hw
  rcases Nat.lt_or_ge i j with hlt | hge
  ·have:=(yw _ (zL i x hx Hv)).2 _ (zL j y hy Hw)
   simp only [Yf,Xw] at this
   rcases this with (h1 | h1) | h1
   ·have:=Nat.le_of_ble_eq_true h1; omega
   ·exact .inl h1
   ·exact .inr (.inr h1.1)
  ·have:=(yw _ (zL j y hy Hw)).2 _ (zL i x hx Hv)
   simp only [Yf,Xw] at this
   rcases this with (h1 | h1) | h1
   ·have:=Nat.le_of_ble_eq_true h1; omega
   ·exact .inr (.inl h1)
   ·exact .inr (.inr h1.2)
 have PX:∀id,(tx 0).h.ver id<(tx 0).h.next:=by
  obtain⟨_,c,Lo,lam,_,f,_⟩:=hi
  rw [t0,←f.h]; exact f.rel.ver
 have hst:∀k,k<ops.size→Steady (tx k).h (tx (k+1)).h:=by
  intro k hk
  obtain⟨w,h1,h2,_⟩:=sG k _ (JO k hk)
  cases w with
  | true=>exact sT Vi (by simpa [wi] using h2)
  | false=>
   simp only [XJ,if_false] at h2
   rw [h2,jh]; exact Steady.refl _
 have OY:∀k,k≤ops.size→∀id,(tx k).h.ver id<(tx k).h.next:=by
  intro k
  induction k with
  | zero=>intro _; exact PX
  | succ k ih=>intro hk; exact (hst k (by omega)).wf (ih (by omega))
 have T:sU P cf aF ops tx ft (fun k i=>(ms.getD i 0).testBit k=true):=by
  refine⟨fun k o ho=>?_,PW,fun i o ho e he hb=>?_,fun i j x y vl hx hy=>?_,fun i j hin M0 vl=>?_,fun i o d ho nS hd=>?_⟩
  ·obtain⟨w,h1,h2,h3,h4⟩:=sG k o ho
   refine⟨w,h1,?_⟩
   cases w with
   | true=>exact⟨h2,h4⟩
   | false=>exact⟨h2,h4⟩
  ·have:=ov _ 0 Ka i o (by simpa using ho) e (Yn.2 he) hb
   omega
  ·have ly:∀x y:Oper,wj ops x y=true→∀d,x.dst=some d→d∉y.looksAt ops∧y.dst≠some d:=by
    intro x y h d hd
    unfold wj at h
    rw [hd] at h
    simpa using h
   rcases Nat.lt_or_ge i j with hlt | hge
   ·have:=ke _ _ 0 EP i j x y hlt (by simpa using hx) (by simpa using hy)
    simp only [XS,Yf,Xw] at this
    rcases this with h1 | h1
    ·exact .inl h1
    ·exact .inr (.inr (ly _ _ h1.1))
   ·have:=ke _ _ 0 EP j i y x (by omega) (by simpa using hy) (by simpa using hx)
    simp only [XS,Yf,Xw] at this
    rcases this with h1 | h1
    ·exact .inr (.inl h1)
    ·exact .inr (.inr (ly _ _ h1.2))
  ·cases Hv:(ft i).quiet with
   | true=>
    unfold kl.quiet at Hv
    simp only [Xw,Option.isNone_iff_eq_none,YR] at Hv
    exact .inr (.inr ⟨fun k hk=>(by rw [Hv.1.1.2] at hk; cases hk),fun hk=>(by rw [Hv.2] at hk; cases hk)⟩)
   | false=>
    cases Hw:(ft j).quiet with
    | true=>
     unfold kl.quiet at Hw
     simp only [Xw,Option.isNone_iff_eq_none,YR,List.isEmpty_iff] at Hw
     obtain⟨⟨⟨q1,q2⟩,q3⟩,q4⟩:=Hw
     exact .inr (.inr ⟨fun k hk=>⟨by rw [q1]; simp,by rw [q2]; simp⟩,fun hk=>⟨q4,by rw [q3]; simp⟩⟩)
    | false=>
     rcases Kb i j _ _ (JO i hin) (JO j M0) vl Hv Hw with h1 | h1 | h1
     ·exact .inl h1
     ·exact .inr (.inl h1)
     ·refine .inr (.inr ?_)
      unfold r8.pJ at h1
      simp only [Xw,Yf,YR,XT] at h1
      obtain⟨h2,h3⟩:=h1
      refine⟨fun k hk=>?_,fun hk=>?_⟩
      ·rw [hk] at h2
       simpa using h2
      ·rcases h3 with h3 | h3
       ·rw [hk] at h3; cases h3
       ·refine⟨h3.1,fun id hid=>?_⟩
        have hv:=YJ (h3.2 id hid)
        rcases (hst i hin).keep id with⟨_,h5⟩| h5
        ·exact h5.symm
        ·have:=OY i (by omega) id; omega
  ·obtain⟨w,h1,h2,h3,h4⟩:=sG i o ho
   have hq:(ft i).quiet=false:=by
    cases w with
    | false=>rw [h4] at nS; cases nS
    | true=>
     rw [h4] at nS ⊢
     have:=EN nS
     unfold kl.quiet
     simp only [if_true] at this ⊢
     cases hwb:(aZ aF (bN (tx i).ρ) o).wb with
     | none=>rw [hwb] at this; cases this
     | some k=>simp
   have:=(yw _ (zL i o ho hq)).1
   unfold wk at this
   simp only [nS,hd] at this
   simp only [Xw,XT,Yf] at this
   obtain⟨k1,k2⟩:=this
   refine⟨fun t ht I6 off=>?_,fun j y t hy hji=>?_⟩
   ·rw [t0]
    exact pN k1 t (by rw [YP]; exact⟨ht,by simpa [beq_nat] using I6⟩) off
   ·have:=k2 _ (rA j y hy)
    rcases this with (h5 | h5) | h5
    ·have:=YJ h5; omega
    ·exact .inl h5
    ·right
     intro J7 off
     simp only [r8.out,J7,YR] at h5
     exact De h5 off
 have hlen:tx ops.size=s':=by simpa using tn
 refine wp_region_any hm ?_
 refine J9 T hcf hb0 yh (fun a' w' lu=>hQ a' w' (by rw [hlen] at lu; exact lu)) ops.size _ _ _ (by simp) ?_ ?_ ?_
 ·intro j o _ hj
  simp only [getD_replicate_false] at hj
  cases hj
 ·unfold left
  exact X9 (List.countP_le_length) (by simp)
 ·have Ez:∀k,jN ops tx ft (fun j=>(Array.replicate ops.size false).getD j false) k=tx 0:=by
   intro k
   induction k with
   | zero=>rfl
   | succ k ih=>
    rw [jN,getD_replicate_false,if_neg (by simp)]
    exact ih
  rw [Ez,t0]
  exact hi.drew
end
end Go.R
namespace Go.R
open Go
section
variable {c d:Cx}{L L':Nat→Prop}
mutual
theorem BI (hw:d.w=c.w)(hbs:d.base≤c.base)(kW:∀b,RO c L b→RO d L' b):∀(x:AV) (v:Value),x.dN=true→VR c L x v→VR d L' x v
 | .any,_,h,_=>by simp [AV.dN] at h
 | .bool _,_,_,h=>h
 | .int _ _,_,_,h=>h
 | .str _,_,_,h=>h
 | .rq,_,_,h=>h
 | .ptr _ _,_,h,_=>by simp [AV.dN] at h
 | .lp _ _,_,h,_=>by simp [AV.dN] at h
 | .fp cs off,v,h,hv=>by
  simp only [AV.dN] at h
  simp only [VR] at hv ⊢
  obtain⟨b,o,rfl,hc⟩:=hv
  exact⟨b,o,rfl,hc.imp id fun ⟨hr,hc⟩=>⟨kW b hr,nC hw hbs kW cs b o h hc⟩⟩
 | .nils,_,_,h=>h
 | .fz cs n ex,v,h,hv=>by
  simp only [AV.dN] at h
  simp only [VR] at hv ⊢
  obtain⟨a,cap,rfl,h1,h2,hs,hc⟩:=hv
  exact⟨a,cap,rfl,h1,h2,hs,hc.imp id fun ⟨b,o,ha,hr,hex,hc⟩=>⟨b,o,ha,kW b hr,fun h=>X9 hbs (hex h),nC hw hbs kW cs b o h hc⟩⟩
 | .rs _ _ _ _,_,h,_=>by simp [AV.dN] at h
 | .nq,_,_,h=>h
 | .mp _,_,h,_=>by simp [AV.dN] at h
 | .fn f cap,v,h,hv=>by
  simp only [AV.dN] at h
  simp only [VR] at hv ⊢
  obtain⟨vs,rfl,h1⟩:=hv
  exact⟨vs,rfl,oy hw hbs kW cap vs.toList h h1⟩
 | .sr,_,_,h=>h
 | .agg cs,v,h,hv=>by
  simp only [AV.dN] at h
  simp only [VR] at hv ⊢
  obtain⟨vs,rfl,h1⟩:=hv
  exact⟨vs,rfl,oy hw hbs kW cs vs.toList h h1⟩
 | .tup cs,v,h,hv=>by
  simp only [AV.dN] at h
  simp only [VR] at hv ⊢
  obtain⟨vs,rfl,h1⟩:=hv
  exact⟨vs,rfl,oy hw hbs kW cs vs.toList h h1⟩
theorem oy (hw:d.w=c.w)(hbs:d.base≤c.base)(kW:∀b,RO c L b→RO d L' b):∀(xs:List AV) (vs:List Value),cH xs=true→VRs c L xs vs→VRs d L' xs vs
 | [],[],_,_=>trivial
 | x::xs,v::vs,h,hv=>by
  simp only [cH,Xw] at h
  exact⟨BI hw hbs kW x v h.1 hv.1,oy hw hbs kW xs vs h.2 hv.2⟩
 | [],_::_,_,h=>h.elim
 | _::_,[],_,h=>h.elim
theorem nC (hw:d.w=c.w)(hbs:d.base≤c.base)(kW:∀b,RO c L b→RO d L' b):∀(xs:List AV) (b o:Nat),cH xs=true→Cells c L xs b o→Cells d L' xs b o
 | [],_,_,_,_=>trivial
 | x::xs,b,o,h,hv=>by
  simp only [cH,Xw] at h
  obtain⟨⟨v,h1,h2,h3⟩,h4⟩:=hv
  exact⟨⟨v,by rw [hw]; exact h1,h2,BI hw hbs kW x v h.1 h3⟩,nC hw hbs kW xs b (o+1) h.2 h4⟩
end
mutual
theorem wQ (hw:d.w=c.w)(kW:∀b,RO c L b→RO d L' b):∀(x:AV) (v:Value),x.dN=true→VR c L x v→VR d L' x.jO v
 | .any,_,h,_=>by simp [AV.dN] at h
 | .bool _,_,_,h=>h
 | .int _ _,_,_,h=>h
 | .str _,_,_,h=>h
 | .rq,_,_,h=>h
 | .ptr _ _,_,h,_=>by simp [AV.dN] at h
 | .lp _ _,_,h,_=>by simp [AV.dN] at h
 | .fp cs off,v,h,hv=>by
  simp only [AV.dN] at h
  simp only [VR,AV.jO] at hv ⊢
  obtain⟨b,o,rfl,hc⟩:=hv
  refine⟨b,o,rfl,?_⟩
  rcases hc with rfl | ⟨hr,hc⟩
  ·exact .inl rfl
  ·exact .inr ⟨kW b hr,pS hw kW cs b o h hc⟩
 | .nils,v,_,h=>by
  simp only [VR] at h
  simp only [AV.jO,VR]
  exact⟨none,0,h,Xv _,by simp,.inr ⟨trivial,rfl⟩,.inl trivial⟩
 | .fz cs n ex,v,h,hv=>by
  simp only [AV.dN] at h
  simp only [VR,AV.jO] at hv ⊢
  obtain⟨a,cap,rfl,h1,h2,hs,hc⟩:=hv
  refine⟨a,cap,rfl,h1,by simp,hs.imp id fun h=>⟨by rw [h.1]; rfl,h.2⟩,?_⟩
  rcases hc with rfl | ⟨b,o,ha,hr,hex,hc⟩
  ·exact .inl rfl
  ·exact .inr ⟨b,o,ha,kW b hr,by simp,pS hw kW cs b o h hc⟩
 | .rs _ _ _ _,_,h,_=>by simp [AV.dN] at h
 | .nq,_,_,h=>h
 | .mp _,_,h,_=>by simp [AV.dN] at h
 | .fn f cap,v,h,hv=>by
  simp only [AV.dN] at h
  simp only [VR,AV.jO] at hv ⊢
  obtain⟨vs,rfl,h1⟩:=hv
  exact⟨vs,rfl,oz hw kW cap vs.toList h h1⟩
 | .sr,_,_,h=>h
 | .agg cs,v,h,hv=>by
  simp only [AV.dN] at h
  simp only [VR,AV.jO] at hv ⊢
  obtain⟨vs,rfl,h1⟩:=hv
  exact⟨vs,rfl,oz hw kW cs vs.toList h h1⟩
 | .tup cs,v,h,hv=>by
  simp only [AV.dN] at h
  simp only [VR,AV.jO] at hv ⊢
  obtain⟨vs,rfl,h1⟩:=hv
  exact⟨vs,rfl,oz hw kW cs vs.toList h h1⟩
theorem oz (hw:d.w=c.w)(kW:∀b,RO c L b→RO d L' b):∀(xs:List AV) (vs:List Value),cH xs=true→VRs c L xs vs→VRs d L' (dq xs) vs
 | [],[],_,_=>trivial
 | x::xs,v::vs,h,hv=>by
  simp only [cH,Xw] at h
  exact⟨wQ hw kW x v h.1 hv.1,oz hw kW xs vs h.2 hv.2⟩
 | [],_::_,_,h=>h.elim
 | _::_,[],_,h=>h.elim
theorem pS (hw:d.w=c.w)(kW:∀b,RO c L b→RO d L' b):∀(xs:List AV) (b o:Nat),cH xs=true→Cells c L xs b o→Cells d L' (dq xs) b o
 | [],_,_,_,_=>trivial
 | x::xs,b,o,h,hv=>by
  simp only [cH,Xw] at h
  obtain⟨⟨v,h1,h2,h3⟩,h4⟩:=hv
  exact⟨⟨v,by rw [hw]; exact h1,h2,wQ hw kW x v h.1 h3⟩,pS hw kW xs b (o+1) h.2 h4⟩
end
mutual
theorem pT (hw:d.w=c.w)(kW:∀b,RO c L b→RO d L' b)(hrel:HRel c L)(hid:∀id,Live c.h id→RO d L' (c.β id).1):∀(n:Nat) (x y:AV) (v:Value),ck c.h n x=some y→VR c L x v→VR d L' y v
 | 0,x,y,v,h,_=>by simp [ck] at h
 | n+1,x,y,v,h,hv=>by
  have PY:(if x.dN then some x.jO else none)=some y→VR d L' y v:=by
   intro h
   split at h
   ·rename_i hn; cases h; exact wQ hw kW x v hn hv
   ·cases h
  cases x with
  | ptr id off=>
   simp only [ck,Xs] at h
   obtain⟨ob,ho,h⟩:=h
   cases ob with
   | map es=>cases h
   | row t cs=>cases h
   | cells cs=>
    simp only [Xt] at h
    obtain⟨fm,hcs,rfl⟩:=h
    have hl:Live c.h id:=⟨hrel.lt _ _ ho,by simp [ho]⟩
    obtain⟨m,_,_,hc⟩:=hrel.obj _ _ ho
    simp only [VR] at hv ⊢
    obtain⟨_,a,rfl,ha⟩:=hv
    rw [ha hl]
    exact⟨_,_,rfl,.inr ⟨hid id hl,jK hw kW hrel hid n cs fm _ _ hcs hc⟩⟩
  | rs id off len iL=>
   simp only [ck] at h
   split at h
   ·rename_i hid
    split at h
    rotate_left
    ·cases h
    rename_i hl0
    cases h
    simp only [VR] at hv ⊢
    rcases hv with⟨_,_,_,a,rfl⟩| hv
    ·exact⟨a,0,rfl,Xv _,by simp,.inr ⟨trivial,rfl⟩,.inl trivial⟩
    ·exact absurd hid hv.1
   rename_i ku
   rw [Xs] at h
   obtain⟨ob,ho,h⟩:=h
   cases ob with
   | map es=>cases h
   | row t cs=>cases h
   | cells cs=>
    simp only at h
    split at h
    rotate_left
    ·cases h
    rename_i hle
    simp only [Xt] at h
    obtain⟨fm,hcs,rfl⟩:=h
    have hl:Live c.h id:=⟨hrel.lt _ _ ho,by simp [ho]⟩
    obtain⟨m,_,_,hc⟩:=hrel.obj _ _ ho
    simp only [VR] at hv ⊢
    rcases hv with hv | ⟨_,_,a,cap,rfl,h1,h2,h3⟩
    ·exact absurd hv.1 ku
    refine⟨a,cap,rfl,h1,by simp,.inl h2,?_⟩
    rcases h3 hl with⟨h4,_⟩| h4
    ·exact .inr ⟨_,_,h4,hid id hl,by simp,jK hw kW hrel hid n _ fm _ _ hcs ((hc.drop off).take (len*iL))⟩
    ·left
     have hz:len=0:=by omega
     subst hz
     rw [Nat.zero_mul,List.take_zero] at hcs
     cases n with
     | zero=>simp [bH] at hcs
     | succ n=>simp only [bH,Xu] at hcs; exact hcs.symm
  | agg cs=>
   simp only [ck,Xt] at h
   obtain⟨fm,hcs,rfl⟩:=h
   simp only [VR] at hv ⊢
   obtain⟨vs,rfl,h1⟩:=hv
   exact⟨vs,rfl,jX hw kW hrel hid n cs fm vs.toList hcs h1⟩
  | tup cs=>
   simp only [ck,Xt] at h
   obtain⟨fm,hcs,rfl⟩:=h
   simp only [VR] at hv ⊢
   obtain⟨vs,rfl,h1⟩:=hv
   exact⟨vs,rfl,jX hw kW hrel hid n cs fm vs.toList hcs h1⟩
  | _=>exact PY (by simpa only [ck] using h)
theorem jX (hw:d.w=c.w)(kW:∀b,RO c L b→RO d L' b)(hrel:HRel c L)(hid:∀id,Live c.h id→RO d L' (c.β id).1):∀(n:Nat) (xs ys:List AV) (vs:List Value),bH c.h n xs=some ys→VRs c L xs vs→VRs d L' ys vs
 | 0,xs,ys,vs,h,_=>by simp [bH] at h
 | n+1,[],ys,vs,h,hv=>by
  simp only [bH,Xu] at h
  subst h
  cases vs with
  | nil=>trivial
  | cons v vs=>exact hv.elim
 | n+1,x::xs,ys,vs,h,hv=>by
  simp only [bH,Xs,Xt] at h
  obtain⟨y,hy,zs,hz,rfl⟩:=h
  cases vs with
  | nil=>exact hv.elim
  | cons v vs=>exact⟨pT hw kW hrel hid n x y v hy hv.1,jX hw kW hrel hid n xs zs vs hz hv.2⟩
theorem jK (hw:d.w=c.w)(kW:∀b,RO c L b→RO d L' b)(hrel:HRel c L)(hid:∀id,Live c.h id→RO d L' (c.β id).1):∀(n:Nat) (xs ys:List AV) (b o:Nat),bH c.h n xs=some ys→Cells c L xs b o→Cells d L' ys b o
 | 0,xs,ys,b,o,h,_=>by simp [bH] at h
 | n+1,[],ys,b,o,h,hv=>by
  simp only [bH,Xu] at h
  subst h
  trivial
 | n+1,x::xs,ys,b,o,h,hv=>by
  simp only [bH,Xs,Xt] at h
  obtain⟨y,hy,zs,hz,rfl⟩:=h
  obtain⟨⟨v,h1,h2,h3⟩,h4⟩:=hv
  exact⟨⟨v,by rw [hw]; exact h1,h2,pT hw kW hrel hid n x y v hy h3⟩,jK hw kW hrel hid n xs zs b (o+1) hz h4⟩
end
mutual
theorem nD (hw:d.w=c.w)(hrel:HRel c L)(hid:∀id,Live c.h id→RO d L' (c.β id).1):∀(n:Nat) (x y:AV) (v:Value),fC c.h n x=some y→VR c L x v→VR d L' y v
 | 0,x,y,v,h,_=>by simp [fC] at h
 | n+1,x,y,v,h,hv=>by
  unfold fC at h
  split at h
  ·cases h; exact hv
  ·cases h; exact hv
  ·cases h; exact hv
  ·cases h; exact hv
  ·cases h; exact hv
  ·cases h; exact hv
  ·cases h
   simp only [VR] at hv ⊢
   exact⟨none,0,hv,Xv _,by simp,.inr ⟨trivial,rfl⟩,.inl trivial⟩
  ·cases h
   simp only [VR] at hv ⊢
   obtain⟨a,cap,rfl,h1,h2,hs,_⟩:=hv
   exact⟨a,cap,rfl,h1,by simp,hs,.inl trivial⟩
  ·rename_i id off len iL
   split at h
   ·rename_i ku
    split at h
    rotate_left
    ·cases h
    rename_i hl0
    cases h
    simp only [VR] at hv ⊢
    rcases hv with⟨_,_,_,a,rfl⟩| hv
    ·exact⟨a,0,rfl,Xv _,by simp,.inr ⟨trivial,rfl⟩,.inl trivial⟩
    ·exact absurd ku hv.1
   rename_i ku
   rw [Xs] at h
   obtain⟨ob,ho,h⟩:=h
   cases ob with
   | map es=>cases h
   | row t cs=>cases h
   | cells cs=>
    simp only at h
    split at h
    rotate_left
    ·cases h
    rename_i hle
    simp only [Xt] at h
    obtain⟨fm,hcs,rfl⟩:=h
    have hl:Live c.h id:=⟨hrel.lt _ _ ho,by simp [ho]⟩
    obtain⟨m,_,_,hc⟩:=hrel.obj _ _ ho
    simp only [VR] at hv ⊢
    rcases hv with hv | ⟨_,_,a,cap,rfl,h1,h2,h3⟩
    ·exact absurd hv.1 ku
    refine⟨a,cap,rfl,h1,by simp,.inl h2,?_⟩
    rcases h3 hl with⟨h4,_⟩| h4
    ·exact .inr ⟨_,_,h4,hid id hl,by simp,lz hw hrel hid n _ fm _ _ hcs ((hc.drop off).take (len*iL))⟩
    ·left
     have hz:len=0:=by omega
     subst hz
     rw [Nat.zero_mul,List.take_zero] at hcs
     cases n with
     | zero=>simp [cX] at hcs
     | succ n=>simp only [cX,Xu] at hcs; exact hcs.symm
  ·rename_i cs
   simp only [Xt] at h
   obtain⟨fm,hcs,rfl⟩:=h
   simp only [VR] at hv ⊢
   obtain⟨vs,rfl,h1⟩:=hv
   exact⟨vs,rfl,lW hw hrel hid n cs fm vs.toList hcs h1⟩
  ·rename_i cs
   simp only [Xt] at h
   obtain⟨fm,hcs,rfl⟩:=h
   simp only [VR] at hv ⊢
   obtain⟨vs,rfl,h1⟩:=hv
   exact⟨vs,rfl,lW hw hrel hid n cs fm vs.toList hcs h1⟩
  ·cases h
theorem lW (hw:d.w=c.w)(hrel:HRel c L)(hid:∀id,Live c.h id→RO d L' (c.β id).1):∀(n:Nat) (xs ys:List AV) (vs:List Value),cX c.h n xs=some ys→VRs c L xs vs→VRs d L' ys vs
 | 0,xs,ys,vs,h,_=>by simp [cX] at h
 | n+1,[],ys,vs,h,hv=>by
  simp only [cX,Xu] at h
  subst h
  cases vs with
  | nil=>trivial
  | cons v vs=>exact hv.elim
 | n+1,x::xs,ys,vs,h,hv=>by
  simp only [cX,Xs,Xt] at h
  obtain⟨y,hy,zs,hz,rfl⟩:=h
  cases vs with
  | nil=>exact hv.elim
  | cons v vs=>exact⟨nD hw hrel hid n x y v hy hv.1,lW hw hrel hid n xs zs vs hz hv.2⟩
theorem lz (hw:d.w=c.w)(hrel:HRel c L)(hid:∀id,Live c.h id→RO d L' (c.β id).1):∀(n:Nat) (xs ys:List AV) (b o:Nat),cX c.h n xs=some ys→Cells c L xs b o→Cells d L' ys b o
 | 0,xs,ys,b,o,h,_=>by simp [cX] at h
 | n+1,[],ys,b,o,h,hv=>by
  simp only [cX,Xu] at h
  subst h
  trivial
 | n+1,x::xs,ys,b,o,h,hv=>by
  simp only [cX,Xs,Xt] at h
  obtain⟨y,hy,zs,hz,rfl⟩:=h
  obtain⟨⟨v,h1,h2,h3⟩,h4⟩:=hv
  exact⟨⟨v,by rw [hw]; exact h1,h2,nD hw hrel hid n x y v hy h3⟩,lz hw hrel hid n xs zs b (o+1) hz h4⟩
end
end
section
variable {P:Program}
theorem HY {cf:CallF}(hcf:CallOK P cf)(deep:Nat):CallOK P fun f args h=>if cH args then (cf f (dq args) bL).bind fun x=>(ck x.2 deep x.1).map fun r=>(r,h) else cf f args h:=by
 intro f args h r h' hc
 dsimp only at hc
 split at hc
 rotate_left
 ·exact hcf f args h r h' hc
 rename_i sJ
 rw [Xs] at hc
 obtain⟨⟨x,h1⟩,hx,hc⟩:=hc
 rw [Xt] at hc
 obtain⟨r',hr,he⟩:=hc
 simp only [Xz] at he
 obtain⟨rfl,rfl⟩:=he
 obtain⟨hin,hcall⟩:=hcf f (dq args) bL x h1 hx
 refine⟨hin,fun L0 c vs hh hb0 hrel hargs=>?_⟩
 let L1:Nat→Prop:=fun b=>L0 b∨∃id,Live c.h id∧(c.β id).1=b
 let c0:Cx:=⟨fun _=>(0,0),bL,c.w,c.w.heap.size⟩
 have hnl:∀id,¬Live c0.h id:=fun id hl=>by have:=hl.2; cases this
 have Kc:∀b,RO c L0 b→RO c0 L1 b:=fun b hb=>⟨fun id hl=>absurd hl (hnl id),fun h=>by
  rcases h with h | ⟨id,h1,h2⟩
  ·exact hb.2 h
  ·exact hb.1 id h1 h2⟩
 have ER:HRel c0 L1:=⟨fun id o ho=>(by cases ho),fun id o ho=>(by cases ho),fun id _ hl _ _=>absurd hl (hnl id),fun id hl=>absurd hl (hnl id),fun b hb=>by
  rcases hb with h | ⟨id,h1,h2⟩
  ·exact hrel.bd b h
  ·rw [←h2]; exact hrel.block h1,fun id hl=>absurd hl (hnl id),fun _=>Nat.zero_lt_one⟩
 refine (hcall L1 c0 vs rfl (Xv _) ER (oz (c:=c) (d:=c0) rfl Kc _ _ sJ hargs)).mono ?_
 rintro e w' ⟨c1,v,rfl,rfl,PZ,hv,hrel1,e1⟩
 let d:Cx:=⟨c.β,c.h,c1.w,c.base⟩
 have hk:∀b,b<c.w.heap.size→c1.w.heap[b]? = c.w.heap[b]?:=fun b hb=>e1.exact b hb
 have ed:Ext c none0 d none0:=⟨Xv _,fun id _ hl=>⟨hl,rfl,iw.len (c:=c) (c':=d) (.inl (hk _ (hrel.block hl)))⟩,e1.size,fun b hb _ _=>.inl (hk b hb),fun b hb=>hk b (XX hb hb0),rfl,fun id hl=>.inr ⟨id,hl,rfl⟩,fun _ h=>h,fun _ h=>.inl h,e1.os,e1.tape,e1.output⟩
 have hb1:d.base≤c1.base:=by rw [e1.base]; exact hb0
 have P4:∀b,RO c1 L1 b→RO d L0 b:=fun b hb=>⟨fun id hl he=>hb.2 (.inr ⟨id,hl,he⟩),fun h=>hb.2 (.inl h)⟩
 refine⟨d,v,rfl,rfl,hh,?_,⟨hrel.lt,fun id o ho=>?_,hrel.inj,hrel.out,fun b hb=>XX (hrel.bd b hb) e1.size,hrel.low,hrel.ver⟩,ed⟩
 ·refine pT (c:=c1) (d:=d) (L:=L1) rfl P4 hrel1 (fun id hl=>⟨fun nY u6 he=>hrel1.out id hl (.inr ⟨nY,u6,he⟩),fun h=>hrel1.out id hl (.inl h)⟩) deep x r' v ?_ hv
  rw [PZ]; exact hr
 ·have hl:Live c.h id:=⟨hrel.lt _ _ ho,by rw [ho]; rfl⟩
  have:=(hrel.obj id o ho)
  have h2:=ru.ext (L0:=L0) ed (b:=(c.β id).1) (base:=(c.β id).2) (o:=o) (by rw [kB]; exact this) (hk _ (hrel.block hl))
  rw [kB] at h2
  exact h2
theorem oA {c:Cx}{L:Nat→Prop}:∀{xs:List AV} {vs:List Value},VRs c L xs vs→VRs c L (xs.map az) vs
 | [],[],_=>trivial
 | x::_,_::_,h=>⟨by
   unfold az
   cases hn:x.dN with
   | false=>exact h.1
   | true=>exact wQ rfl (fun _ h=>h) x _ hn h.1,oA h.2⟩
 | [],_::_,h=>h.elim
 | _::_,[],h=>h.elim
theorem yx {cf:CallF}(hcf:CallOK P cf):CallOK P fun f args h=>cf f (args.map az) h:=by
 intro f args h r h' hc
 obtain⟨h1,h2⟩:=hcf f _ h r h' hc
 exact⟨h1,fun L0 c vs hh hb0 hrel hargs=>h2 L0 c vs hh hb0 hrel (oA hargs)⟩
theorem HZ {cf:CallF}(hcf:CallOK P cf)(deep:Nat):CallOK P fun f args h=>(bH h deep args).bind fun as=>(cf f as bL).bind fun x=>(fC x.2 deep x.1).map fun r=>(r,h):=by
 intro f args h r h' hc
 dsimp only at hc
 simp only [Xs,Xt,Xz] at hc
 obtain⟨as,has,⟨x,h1⟩,hx,r',hr,rfl,rfl⟩:=hc
 obtain⟨hin,hcall⟩:=hcf f as bL x h1 hx
 refine⟨hin,fun L0 c vs hh hb0 hrel hargs=>?_⟩
 let c0:Cx:=⟨fun _=>(0,0),bL,c.w,c.w.heap.size⟩
 have hnl:∀id,¬Live c0.h id:=fun id hl=>by have:=hl.2; cases this
 have Kc:∀b,RO c L0 b→RO c0 L0 b:=fun b hb=>⟨fun id hl=>absurd hl (hnl id),hb.2⟩
 have ER:HRel c0 L0:=⟨fun id o ho=>(by cases ho),fun id o ho=>(by cases ho),fun id _ hl _ _=>absurd hl (hnl id),fun id hl=>absurd hl (hnl id),hrel.bd,fun id hl=>absurd hl (hnl id),fun _=>Nat.zero_lt_one⟩
 have Kd:VRs c0 L0 as vs:=jX (c:=c) (d:=c0) rfl Kc hrel (fun id hl=>⟨fun nY u6=>absurd u6 (hnl nY),hrel.out id hl⟩) deep args as vs (by rw [hh]; exact has) hargs
 refine (hcall L0 c0 vs rfl (Xv _) ER Kd).mono ?_
 rintro e w' ⟨c1,v,rfl,rfl,PZ,hv,hrel1,e1⟩
 let d:Cx:=⟨c.β,c.h,c1.w,c.base⟩
 have hk:∀b,b<c.w.heap.size→c1.w.heap[b]? = c.w.heap[b]?:=fun b hb=>e1.exact b hb
 have ed:Ext c none0 d none0:=⟨Xv _,fun id _ hl=>⟨hl,rfl,iw.len (c:=c) (c':=d) (.inl (hk _ (hrel.block hl)))⟩,e1.size,fun b hb _ _=>.inl (hk b hb),fun b hb=>hk b (XX hb hb0),rfl,fun id hl=>.inr ⟨id,hl,rfl⟩,fun _ h=>h,fun _ h=>.inl h,e1.os,e1.tape,e1.output⟩
 refine⟨d,v,rfl,rfl,hh,?_,⟨hrel.lt,fun id o ho=>?_,hrel.inj,hrel.out,fun b hb=>XX (hrel.bd b hb) e1.size,hrel.low,hrel.ver⟩,ed⟩
 ·refine nD (c:=c1) (d:=d) (L:=L0) rfl hrel1 (fun id hl=>⟨fun nY u6 he=>?_,hrel1.out id hl⟩) deep x r' v ?_ hv
  ·rcases e1.I3 id hl with h2 | ⟨qO,h2,_⟩
   ·have:=hrel.block u6
    have h3:(c.β nY).1=(c1.β id).1:=he
    have h4:c.w.heap.size≤(c1.β id).1:=h2
    omega
   ·exact absurd h2 (hnl qO)
  ·rw [PZ]; exact hr
 ·have hl:Live c.h id:=⟨hrel.lt _ _ ho,by rw [ho]; rfl⟩
  have:=(hrel.obj id o ho)
  have h2:=ru.ext (L0:=L0) ed (b:=(c.β id).1) (base:=(c.β id).2) (o:=o) (by rw [kB]; exact this) (hk _ (hrel.block hl))
  rw [kB] at h2
  exact h2
theorem kX {T:nX}(q6:IntrOK P T.intr)(m:Nat):∀k,SteadyF (eM P T m k)
 | 0=>fun f args h r h' hc=>by simp [eM] at hc
 | k+1=>fun f args h r h' hc=>by
  have hb:=wH (P:=P) (aU:=T.aU) (m:=m) (kX q6 m k)
  simp only [eM] at hc
  split at hc
  ·rename_i g hg
   exact (q6 f g hg).2 _ _ _ _ hc
  ·split at hc
   ·split at hc
    ·rw [Xs] at hc
     obtain⟨x,_,hc⟩:=hc
     obtain⟨r',_,h2⟩:=Option.map_some' hc
     cases h2
     exact Steady.refl _
    ·split at hc
     ·rw [Xs] at hc
      obtain⟨x,_,hc⟩:=hc
      obtain⟨r',_,h2⟩:=Option.map_some' hc
      cases h2
      exact Steady.refl _
     ·exact hb _ _ _ _ _ hc
   ·exact hb _ _ _ _ _ hc
theorem sW (hP:Fit P){T:nX}(q6:IntrOK P T.intr)(m:Nat):∀k,CallOK P (eM P T m k)
 | 0=>fun f args h r h' hc=>by simp [eM] at hc
 | k+1=>fun f args h r h' hc=>by
  have ih:=sW hP q6 m k
  have hb:=EH hP (aU:=T.aU) ih (EO hP.mixed ih (kX q6 m k)) m
  simp only [eM] at hc
  split at hc
  ·rename_i g hg
   exact (q6 f g hg).1 f args h r h' (by simpa using hc)
  ·split at hc
   ·rename_i deep _
    by_cases sJ:cH args=true
    ·exact HY hb deep f args h r h' (by dsimp only; rw [if_pos sJ] at hc ⊢; exact hc)
    ·rw [if_neg sJ] at hc
     split at hc
     ·rename_i as has
      refine HZ hb deep f args h r h' ?_
      dsimp only
      rw [has]
      exact hc
     ·exact yx hb f args h r h' hc
   ·exact yx hb f args h r h' hc
def M8 (P : Program) : Bool := P.funcs.toList.all fun fn => fn.name != "runtime.NumGoroutine" && match fn.body with | some c => jW fn.ntmps c | none => true
theorem Ke (h1:P.follows .mixedOrders=true)(h2:M8 P=true):Fit P:=by
 refine⟨h1,fun f fn c hf hb=>?_⟩
 unfold M8 at h2
 rw [XT] at h2
 have:=h2 fn (Yn.2 (Array.mem_of_getElem? hf))
 rw [hb] at this
 simp only [Xw,bne_iff_ne,ne_eq] at this
 exact⟨this.2,this.1⟩
theorem Df:IntrOK P fun _=>none:=fun f g h=>by cases h
end
end Go.R
