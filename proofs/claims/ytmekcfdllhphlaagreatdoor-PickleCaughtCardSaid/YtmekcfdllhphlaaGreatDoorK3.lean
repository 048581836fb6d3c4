/- Part of the proof: RLocal, RSteady, RDraw, RPure. -/
import Derived.Test.YtmekcfdllhphlaaGreatDoorK2
import Derived.StillTail
set_option linter.unusedVariables false
set_option linter.unusedSimpArgs false
set_option maxRecDepth 100000
open Array renaming getElem?_eq_some_iff → YT, mem_toList_iff → Zh
open Bool renaming and_eq_true → Yo, false_eq_true → YA, or_eq_true → Za, not_eq_true' → ZF
open List renaming mem_append → Yy, getElem?_eq_none → YC, mem_map → YH, all_eq_true → YK, getElem?_append_left → YV, getElem?_cons_zero → Y1, map_congr_left → Zo, mem_filter → ZM
open Nat renaming le_refl → Yn, zero_add → YG, lt_of_lt_of_le → YN, le_trans → Y0, add_assoc → Y7, eq_of_beq_eq_true → ZA, min_eq_left → ZW
open Ne renaming symm → ZB
open Option renaming bind_some → Yj, bind_eq_some_iff → Yk, map_eq_some_iff → Yl, map_some → Yp, getD_some → Zi
open Option.some renaming injEq → Ym, inj → YI
open Prod.mk renaming injEq → Yr
namespace Go.R
open Go
def RS.shift (s2:RS)(f:kL)(d:Option Nat)(s':RS):RS:=
 {ρ:=match d with | none=>s2.ρ | some d=>fun t=>if t=d then s'.ρ d else s2.ρ t
  bx:=match f.wb with | none=>s2.bx | some k=>fun t=>if t=k then s'.bx k else s2.bx t
  h:=if f.wh then s'.h else s2.h}
theorem RS.ext' {s t:RS}(h1:∀i,s.ρ i=t.ρ i)(h2:∀i,s.bx i=t.bx i)(h3:s.h=t.h):s=t:=by
 cases s; cases t
 congr
 ·exact funext h1
 ·exact funext h2
theorem iD (s s2:RS)(f:kL)(d:Option Nat)(z:AV)(hw:f.wb=none)(hh:f.wh=false):s2.set d z=s2.shift f d (s.set d z):=by
 refine RS.ext' (fun i=>?_) (fun i=>?_) ?_
 ·cases d with
  | none=>rfl
  | some d=>simp only [vG,RS.shift,if_true]
 ·simp only [RS.shift,hw]; cases d<;>rfl
 ·simp only [RS.shift,hh]; cases d<;>rfl
theorem jx (s:RS)(d:Option Nat)(z:AV):(s.set d z).h=s.h:=by cases d<;>rfl
theorem KX (s:RS)(d:Option Nat)(z:AV):(s.set d z).bx=s.bx:=by cases d<;>rfl
theorem FB (s:RS)(k i:Nat)(cs:List AV):(s.box k cs).bx i=if i=k then some cs else s.bx i:=by
 simp only [RS.box,beq_nat]
 by_cases h:i=k<;>simp [h]
theorem gH (s s2:RS)(f:kL)(d:Option Nat)(z:AV)(h':AHeap)(hw:f.wb=none)(hh:f.wh=true):({s2 with h:=h'}:RS).set d z=s2.shift f d (({s with h:=h'}:RS).set d z):=by
 refine RS.ext' (fun i=>?_) (fun i=>?_) ?_
 ·cases d with
  | none=>rfl
  | some d=>simp only [vG,RS.shift,if_true]
 ·simp only [RS.shift,hw]; cases d<;>rfl
 ·simp only [RS.shift,hh]; cases d<;>rfl
theorem DT (s s2:RS)(f:kL)(k:Nat)(cs:List AV)(hw:f.wb=some k)(hh:f.wh=false):s2.box k cs=s2.shift f none (s.box k cs):=by
 refine RS.ext' (fun i=>rfl) (fun i=>?_) ?_
 ·simp only [FB,RS.shift,hw,if_true]
 ·simp only [RS.shift,hh]; rfl
section
variable {P:Program}{cf:CallF}{aF ds:List Nat}{o:Oper}{s s' s2:RS}
theorem oU {cs:List AV}{f:kL}(h:iw s aF ds o cs=some s')(hf:f=(match o.dst with
  | some d=>if aF.contains d then {wb:=some d,al:=true} else {wh:=true}
  | none=>{})) (hh:f.wh=true→s2.h=s.h) (oG:f.al=true→∀d,o.dst=some d→sT d s2.ρ (ds.filter fun t=>!Nat.beq t d)=true) :
  iw s2 aF ds o cs=some (s2.shift f o.dst s'):=by
 unfold iw at h ⊢
 split at h
 rotate_left
 ·cases h
 rename_i oN
 rw [if_pos oN]
 cases hd:o.dst with
 | none=>rw [hd] at h; cases h
 | some d=>
  rw [hd] at h hf
  simp only at h hf ⊢
  by_cases hl:aF.contains d=true
  ·rw [if_pos hl] at h hf ⊢
   subst hf
   split at h
   rotate_left
   ·cases h
   cases h
   rw [if_pos (oG rfl d hd)]
   congr 1
   refine RS.ext' (fun i=>?_) (fun i=>?_) ?_
   ·simp only [vG,RS.shift,if_true]; rfl
   ·simp only [KX,FB,RS.shift,if_true]
   ·simp only [jx,RS.shift]; rfl
  ·rw [if_neg hl] at h hf ⊢
   subst hf
   cases h
   rw [hh rfl]
   congr 1
   exact gH s s2 {wh:=true} (some d) _ _ rfl rfl
theorem vU {e:Operand→AV}(h:AK P cf aF ds e s o=some s')(hb:∀k∈(a8 aF e o).rb,s2.bx k=s.bx k)(hr:∀id∈(a8 aF e o).rh,s2.h.get id=s.h.get id)
  (hh:(a8 aF e o).wh=true→s2.h=s.h) (oG:(a8 aF e o).al=true→∀d,o.dst=some d→sT d s2.ρ (ds.filter fun t=>!Nat.beq t d)=true) :
  AK P cf aF ds e s2 o=some (s2.shift (a8 aF e o) o.dst s'):=by
 have dF:∀{x x2:Option AV} (f:kL),(x.map fun x=>s.set o.dst x)=some s'→(x2=x)→f.wb=none→f.wh=false→(x2.map fun x=>s2.set o.dst x)=some (s2.shift f o.dst s'):=by
  intro x x2 f hx h2 h3 h4
  obtain⟨z,rfl,rfl⟩:=Option.map_some' hx
  subst h2
  simp only [Yp]
  rw [←iD s s2 f o.dst z h3 h4]
 have y5:∀{α:Type} {x x2:Option α} (f:kL) (g:α→AV) (k:α→AHeap),(x.map fun y=>({s with h:=k y}:RS).set o.dst (g y))=some s'→(x2=x)→f.wb=none→f.wh=true→
   (x2.map fun y=>({s2 with h:=k y}:RS).set o.dst (g y))=some (s2.shift f o.dst s'):=by
  intro α x x2 f g k hx h2 h3 h4
  obtain⟨z,rfl,rfl⟩:=Option.map_some' hx
  subst h2
  simp only [Yp]
  rw [←gH s s2 f o.dst (g z) (k z) h3 h4]
 unfold AK at h ⊢
 dsimp only at h ⊢
 split at h
 ·rename_i x ho; cases h; simp only [Ym]; exact iD s s2 _ _ _ (by simp [a8,ho]) (by simp [a8,ho])
 ·rename_i x ho; cases h; simp only [Ym]; exact iD s s2 _ _ _ (by simp [a8,ho]) (by simp [a8,ho])
 ·rename_i k x y ho
  obtain⟨t,ht,rfl⟩:=Option.map_some' h
  simp only [ht,Yp,Ym]
  exact iD s s2 _ _ _ (by simp [a8,ho]) (by simp [a8,ho])
 ·rename_i t ho
  rw [Yk] at h
  obtain⟨z,hz,h⟩:=h
  simp only [hz,Yj]
  exact oU h (by simp only [a8,ho]; rfl) hh oG
 ·rename_i t x ho
  exact oU h (by simp only [a8,ho]; rfl) hh oG
 ·rename_i t ps ho; exact dF _ h rfl (by simp [a8,ho]) (by simp [a8,ho])
 ·rename_i t k ps ho
  obtain⟨z,hz,rfl⟩:=Option.map_some' h
  simp only [hz,Yp,Ym]
  have hf:a8 aF e o=(match o.dst with | some d=>if aF.contains d then {wh:=true} else {} | none=>{}):=by simp only [a8,ho]; rfl
  unfold qh
  cases KQ:nW P aF o t z with
  | none=>
   simp only
   cases hd:o.dst with
   | none=>rw [hd] at hf; rw [hf]; exact iD s s2 _ none _ rfl rfl
   | some d=>
    rw [hd] at hf
    simp only at hf
    by_cases hl:aF.contains d=true
    ·rw [if_pos hl] at hf
     have h2:=hh (by rw [hf])
     rw [hf]
     have h3:=gH s s2 {wh:=true} (some d) z s2.h rfl rfl
     refine h3.trans ?_
     rw [h2]
    ·rw [if_neg hl] at hf
     rw [hf]; exact iD s s2 _ _ _ rfl rfl
  | some q=>
   obtain⟨d,hd,hl⟩:∃d,o.dst=some d∧aF.contains d=true:=by
    unfold nW at KQ
    split at KQ
    ·rename_i d _ _ _ hd
     refine⟨d,hd,?_⟩
     cases hc:aF.contains d with
     | false=>rw [hc] at KQ; cases KQ
     | true=>rfl
    ·cases KQ
   rw [hd] at hf
   simp only [hl,if_true] at hf
   rw [hf] at hh ⊢
   simp only [hh rfl]
   exact gH s s2 _ _ _ _ rfl rfl
 ·
  rename_i t x ho
  have hf:a8 aF e o=(match e x with | .lp k _=>{rb:=[k]} | .ptr id _=>{rh:=[id]} | _=>{}):=by simp only [a8,ho]; rfl
  refine dF _ h ?_ ?_ ?_
  ·rw [hf] at hb hr
   unfold ju
   cases hx:e x<;>rw [hx] at hb hr<;>try rfl
   ·simp only; rw [hr _ (by simp)]
   ·simp only; rw [hb _ (by simp)]
  ·rw [hf]; cases e x<;>rfl
  ·rw [hf]; cases e x<;>rfl
 ·
  rename_i t x y ho
  have hf:a8 aF e o=(match e x with | .lp k _=>{rb:=[k],wb:=some k} | _=>{wh:=true}):=by simp only [a8,ho]; rfl
  try simp only at h ⊢
  split at h
  ·cases h
  rename_i hd
  rw [if_neg hd]
  have Io:o.dst=none:=by simpa using hd
  cases hx:e x<;>rw [hx] at h hf<;>simp only at h hf ⊢<;>try (cases h; done)
  ·rename_i id off
   rw [hf] at hh ⊢
   rw [Yk] at h
   obtain⟨ob,hob,h⟩:=h
   rw [hh rfl,hob]
   cases ob with
   | map es=>cases h
   | row t cs=>cases h
   | cells cs=>
    obtain⟨fF,hcs,rfl⟩:=Option.map_some' h
    simp only [Yj,hcs,Yp,Io,Ym]
    exact gH s s2 {wh:=true} none .any _ rfl rfl
  ·rename_i k off
   rw [hf] at hb ⊢
   rw [Yk] at h
   obtain⟨cs,hcs,h⟩:=h
   rw [hb k (by simp),hcs]
   obtain⟨fF,QL,rfl⟩:=Option.map_some' h
   simp only [Yj,QL,Yp,Io,Ym]
   exact DT s s2 _ k fF rfl rfl
 ·rename_i ho; exact dF _ h rfl (by simp [a8,ho]) (by simp [a8,ho])
 ·rename_i ho; exact dF _ h rfl (by simp [a8,ho]) (by simp [a8,ho])
 ·rename_i ho; exact dF _ h rfl (by simp [a8,ho]) (by simp [a8,ho])
 ·
  rename_i a b x ho
  have hf:a8 aF e o=(match e x with | .rs id _ _ _=>{rh:=[id]} | _=>{}):=by simp only [a8,ho]; rfl
  refine dF _ h ?_ ?_ ?_
  ·have hc:dR s2.h 1 (e x)=dR s.h 1 (e x):=by
    rw [hf] at hr
    unfold dR
    cases hx:e x<;>rw [hx] at hr<;>try rfl
    simp only; rw [hr _ (by simp)]
   unfold ib
   rw [hc]
  ·rw [hf]; cases e x<;>rfl
  ·rw [hf]; cases e x<;>rfl
 ·rename_i A6 first cap ho
  try simp only
  split at h
  ·rename_i hc
   rw [if_pos hc]
   exact dF _ h rfl (by simp [a8,ho]) (by simp [a8,ho])
  ·cases h
 ·rename_i ho
  have hf:(a8 aF e o).wh=true:=by simp [a8,ho]
  cases h
  simp only [hh hf,Ym]
  exact gH s s2 _ _ _ _ (by simp [a8,ho]) hf
 ·rename_i t l c ho
  have hf:(a8 aF e o).wh=true:=by simp [a8,ho]
  exact y5 _ (fun y:AV × AHeap=>y.1) (fun y=>y.2) h (by simp only [hh hf]) (by simp [a8,ho]) hf
 ·rename_i ho; exact dF _ h rfl (by simp [a8,ho]) (by simp [a8,ho])
 ·rename_i ho; exact dF _ h rfl (by simp [a8,ho]) (by simp [a8,ho])
 ·rename_i ho; exact dF _ h rfl (by simp [a8,ho]) (by simp [a8,ho])
 ·rename_i ho; exact dF _ h rfl (by simp [a8,ho]) (by simp [a8,ho])
 ·rename_i ho; exact dF _ h rfl (by simp [a8,ho]) (by simp [a8,ho])
 ·
  rename_i t m k ok ho
  have hf:a8 aF e o=(match e m with | .mp id=>{rh:=[id]} | _=>{}):=by simp only [a8,ho]; rfl
  refine dF _ h ?_ ?_ ?_
  ·rw [hf] at hr
   unfold fL
   cases hx:e m<;>rw [hx] at hr<;>try rfl
   simp only; rw [hr _ (by simp)]
  ·rw [hf]; cases e m<;>rfl
  ·rw [hf]; cases e m<;>rfl
 ·rename_i t m k x ho
  have hf:(a8 aF e o).wh=true:=by simp [a8,ho]
  try simp only at h ⊢
  split at h
  ·cases h
  rename_i hd
  rw [if_neg hd]
  have Io:o.dst=none:=by simpa using hd
  obtain⟨h',hm,rfl⟩:=Option.map_some' h
  simp only [hh hf,hm,Yp,Io,Ym]
  exact gH s s2 _ none .any _ (by simp [a8,ho]) hf
 ·rename_i t m k x ho
  have hf:(a8 aF e o).wh=true:=by simp [a8,ho]
  try simp only at h ⊢
  split at h
  ·cases h
  rename_i hd
  rw [if_neg hd]
  have Io:o.dst=none:=by simpa using hd
  obtain⟨h',hm,rfl⟩:=Option.map_some' h
  simp only [hh hf,hm,Yp,Io,Ym]
  exact gH s s2 _ none .any _ (by simp [a8,ho]) hf
 ·rename_i ho; exact dF _ h rfl (by simp [a8,ho]) (by simp [a8,ho])
 ·
  rename_i b args Cg ho
  try simp only
  unfold gE at h ⊢
  generalize hargs:args.toList.map e=as at h ⊢
  generalize Cg.toList=ts at h ⊢
  split at h
  ·rename_i t x
   try simp only
   have hf:a8 aF e o=(match x with | .mp id=>{rh:=[id]} | _=>{}):=by
    simp only [a8,ho,hargs]
    cases x<;>rfl
   refine dF _ h ?_ ?_ ?_
   ·rw [hf] at hr
    unfold sR
    cases x<;>try rfl
    simp only; rw [hr _ (by simp)]
   ·rw [hf]; cases x<;>rfl
   ·rw [hf]; cases x<;>rfl
  ·try simp only
   have hf:(a8 aF e o).wh=true∧(a8 aF e o).wb=none:=by simp only [a8,ho,hargs]; simp
   exact y5 _ (fun y:AV × AHeap=>y.1) (fun y=>y.2) h (by simp only [hh hf.1]) hf.2 hf.1
  ·try simp only
   have hf:(a8 aF e o).wh=true∧(a8 aF e o).wb=none:=by simp only [a8,ho,hargs]; simp
   exact y5 _ (fun y:AV × AHeap=>y.1) (fun y=>y.2) h (by simp only [hh hf.1]) hf.2 hf.1
  ·try simp only
   have hf:(a8 aF e o).wh=true∧(a8 aF e o).wb=none:=by simp only [a8,ho,hargs]; simp
   exact y5 _ (fun _:AHeap=>.tup []) (fun y=>y) h (by simp only [hh hf.1]) hf.2 hf.1
  ·try simp only
   rw [Yk] at h
   obtain⟨v,hv,h⟩:=h
   rw [Yk] at h
   obtain⟨vs,EZ,h⟩:=h
   rw [Yk] at h
   obtain⟨u,hu,h⟩:=h
   simp only [hv,EZ,hu,Yj]
   exact dF _ h rfl (by simp [a8,ho]) (by simp [a8,ho])
  ·try simp only
   rw [Yk] at h
   obtain⟨v,hv,h⟩:=h
   rw [Yk] at h
   obtain⟨vs,EZ,h⟩:=h
   rw [Yk] at h
   obtain⟨u,hu,h⟩:=h
   simp only [hv,EZ,hu,Yj]
   exact dF _ h rfl (by simp [a8,ho]) (by simp [a8,ho])
  ·cases h
 ·
  rename_i fx args Cg ho
  have hf:(a8 aF e o).wh=true∧(a8 aF e o).wb=none:=by simp [a8,ho]
  try simp only
  cases hx:e fx<;>rw [hx] at h<;>simp only at h ⊢<;>try (cases h; done)
  rename_i A6 cap
  split at h
  ·rename_i ha
   rw [if_pos ha]
   exact y5 _ (fun y:AV × AHeap=>y.1) (fun y=>y.2) h (by simp only [hh hf.1]) hf.2 hf.1
  ·cases h
 ·cases h
end
end Go.R
namespace Go.R
open Go
def SteadyF (cf:CallF):Prop:=∀f args h r h',cf f args h=some (r,h')→Steady h h'
section
variable {P:Program}{cf:CallF}{aF ds:List Nat}{o:Oper}{s s':RS}
theorem tj {h h':AHeap}{t t2:TypeId}{x y z:AV}(hh:eJ P h t t2 x y=some (z,h')):Steady h h':=by
 unfold eJ at hh
 rw [Yk] at hh
 obtain⟨d,_,hh⟩:=hh
 cases d<;>simp only at hh<;>try (cases hh; done)
 rw [Yk] at hh
 obtain⟨i,_,hh⟩:=hh
 rw [Yk] at hh
 obtain⟨⟨new,m⟩,_,hh⟩:=hh
 simp only at hh
 split at hh
 ·cases hh
 split at hh
 ·split at hh
  ·cases hh
  ·split at hh<;>cases hh
   ·exact Steady.refl _
   ·exact Steady.put _ _ _
 ·split at hh
  ·cases hh
  ·split at hh
   ·split at hh<;>cases hh<;>exact Steady.refl _
   ·cases hh; exact Steady.put _ _ _
 ·split at hh
  ·split at hh
   ·cases hh
   ·split at hh<;>cases hh
    ·exact Steady.refl _
    ·exact Steady.put _ _ _
  rw [Yk] at hh
  obtain⟨ob,_,hh⟩:=hh
  cases ob with
  | map es=>cases hh
  | row t cs=>cases hh
  | cells cs=>
   simp only at hh
   split at hh
   ·cases hh
   ·split at hh<;>cases hh
    ·exact Steady.refl _
    ·exact (Steady.kill _ _).trans (Steady.put _ _ _)
 ·cases hh
theorem xd {h h':AHeap}{t t2:TypeId}{x y z:AV}(hh:vF P h t t2 x y=some (z,h')):Steady h h':=by
 unfold vF at hh
 rw [Yk] at hh
 obtain⟨d,_,hh⟩:=hh
 cases d<;>simp only at hh<;>try (cases hh; done)
 rw [Yk] at hh
 obtain⟨i,_,hh⟩:=hh
 rw [Yk] at hh
 obtain⟨⟨new,m⟩,_,hh⟩:=hh
 simp only at hh
 split at hh
 ·cases hh
 split at hh
 ·split at hh
  ·split at hh<;>cases hh
   exact Steady.refl _
  rw [Yk] at hh
  obtain⟨ob,_,hh⟩:=hh
  cases ob with
  | map es=>cases hh
  | row t cs=>cases hh
  | cells cs=>
   simp only at hh
   split at hh<;>cases hh
   exact Steady.put _ _ _
 ·split at hh<;>cases hh
  exact Steady.refl _
 ·cases hh
theorem vd {h h':AHeap}{t:TypeId}{x:AV}(hh:sS P h t x=some h'):Steady h h':=by
 unfold sS at hh
 rw [Yk] at hh
 obtain⟨d,_,hh⟩:=hh
 cases x<;>simp only at hh<;>try (cases hh; done)
 ·cases hh; exact Steady.refl _
 ·rw [Yk] at hh
  obtain⟨ob,_,hh⟩:=hh
  cases ob with
  | cells cs=>cases hh
  | row t cs=>cases hh
  | map es=>cases hh; exact Steady.put _ _ _
theorem mG {h h':AHeap}{t:TypeId}{x y z:AV}(hh:iN P h t x y z=some h'):Steady h h':=by
 unfold iN at hh
 rw [Yk] at hh
 obtain⟨d,_,hh⟩:=hh
 cases d<;>simp only at hh<;>try (cases hh; done)
 split at hh
 ·cases hh
 cases x<;>simp only at hh<;>try (cases hh; done)
 rw [Yk] at hh
 obtain⟨ob,_,hh⟩:=hh
 cases ob with
 | cells cs=>cases hh
 | row t cs=>cases hh
 | map es=>
  obtain⟨rj,_,rfl⟩:=Option.map_some' hh
  exact Steady.put _ _ _
theorem oV {h h':AHeap}{t:TypeId}{x y z:AV}(hh:gD P h t x y=some (z,h')):Steady h h':=by
 unfold gD at hh
 split at hh
 ·rw [Yk] at hh
  obtain⟨d,_,hh⟩:=hh
  cases d<;>simp only at hh<;>try (cases hh; done)
  rw [Yk] at hh
  obtain⟨i,_,hh⟩:=hh
  rw [Yk] at hh
  obtain⟨z,_,hh⟩:=hh
  split at hh<;>cases hh
  exact Steady.put _ _ _
 ·cases hh
theorem nJ {cs:List AV}(h:iw s aF ds o cs=some s'):Steady s.h s'.h:=by
 unfold iw at h
 split at h
 rotate_left
 ·cases h
 split at h
 ·split at h
  ·split at h<;>cases h
   rw [jx]; exact Steady.refl _
  ·cases h
   rw [jx]; exact Steady.put _ _ _
 ·cases h
theorem tk (hcf:SteadyF cf){e:Operand→AV}(h:AK P cf aF ds e s o=some s'):Steady s.h s'.h:=by
 have dF:∀{x:Option AV},(x.map fun x=>s.set o.dst x)=some s'→Steady s.h s'.h:=by
  intro x hx
  obtain⟨z,rfl,rfl⟩:=Option.map_some' hx
  rw [jx]; exact Steady.refl _
 unfold AK at h
 dsimp only at h
 split at h
 ·cases h; rw [jx]; exact Steady.refl _
 ·cases h; rw [jx]; exact Steady.refl _
 ·obtain⟨z,_,rfl⟩:=Option.map_some' h; rw [jx]; exact Steady.refl _
 ·rw [Yk] at h
  obtain⟨z,_,h⟩:=h
  exact nJ h
 ·exact nJ h
 ·exact dF h
 ·obtain⟨z,hz,rfl⟩:=Option.map_some' h
  unfold qh
  split
  ·rw [jx]; exact Steady.refl _
  ·rw [jx]; exact Steady.put _ _ _
 ·exact dF h
 ·split at h
  ·cases h
  split at h
  ·rw [Yk] at h
   obtain⟨cs,_,h⟩:=h
   obtain⟨z,_,rfl⟩:=Option.map_some' h
   exact Steady.refl _
  ·rw [Yk] at h
   obtain⟨ob,_,h⟩:=h
   cases ob with
   | map es=>cases h
   | row t cs=>cases h
   | cells cs=>
    obtain⟨z,_,rfl⟩:=Option.map_some' h
    exact Steady.put _ _ _
  ·cases h
 ·exact dF h
 ·exact dF h
 ·exact dF h
 ·exact dF h
 ·split at h
  ·exact dF h
  ·cases h
 ·cases h; rw [jx]; exact Steady.put _ _ _
 ·obtain⟨⟨z,h'⟩,hz,rfl⟩:=Option.map_some' h
  rw [jx]; exact oV hz
 ·exact dF h
 ·exact dF h
 ·exact dF h
 ·exact dF h
 ·exact dF h
 ·exact dF h
 ·split at h
  ·cases h
  obtain⟨h',hz,rfl⟩:=Option.map_some' h
  exact mG hz
 ·split at h
  ·cases h
  obtain⟨h',hz,rfl⟩:=Option.map_some' h
  exact mG hz
 ·exact dF h
 ·unfold gE at h
  split at h
  ·exact dF h
  ·obtain⟨⟨z,h'⟩,hz,rfl⟩:=Option.map_some' h
   rw [jx]; exact tj hz
  ·obtain⟨⟨z,h'⟩,hz,rfl⟩:=Option.map_some' h
   rw [jx]; exact xd hz
  ·obtain⟨h',hz,rfl⟩:=Option.map_some' h
   rw [jx]; exact vd hz
  ·rw [Yk] at h
   obtain⟨v,_,h⟩:=h
   rw [Yk] at h
   obtain⟨vs,_,h⟩:=h
   rw [Yk] at h
   obtain⟨u,_,h⟩:=h
   exact dF h
  ·rw [Yk] at h
   obtain⟨v,_,h⟩:=h
   rw [Yk] at h
   obtain⟨vs,_,h⟩:=h
   rw [Yk] at h
   obtain⟨u,_,h⟩:=h
   exact dF h
  ·cases h
 ·split at h
  ·split at h
   ·obtain⟨⟨z,h'⟩,hz,rfl⟩:=Option.map_some' h
    rw [jx]; exact hcf _ _ _ _ _ hz
   ·cases h
  ·cases h
 ·cases h
theorem oW (hcf:SteadyF cf){ops:List Oper}(h:mw P cf aF ops s o=some s'):Steady s.h s'.h:=by
 unfold mw at h
 rw [Yk] at h
 obtain⟨w,_,h⟩:=h
 cases w with
 | true=>exact tk hcf (by simpa [wS] using h)
 | false=>
  simp only [YA,if_false,Ym] at h
  subst h
  rw [jx]; exact Steady.refl _
theorem rA (hcf:SteadyF cf){ops:List Oper}:∀{l:List Oper} {s s':RS},rP P cf aF ops s l=some s'→Steady s.h s'.h
 | [],s,s',h=>by simp only [rP,Ym] at h; subst h; exact Steady.refl _
 | o::l,s,s',h=>by
  simp only [rP,Yk] at h
  obtain⟨s1,h1,h2⟩:=h
  exact (oW hcf h1).trans (rA hcf h2)
theorem rB (hcf:SteadyF cf){ops:List Oper}:∀{l:List Oper} {s r:RS} {es:List su},qn P cf aF ops s l=some (es,r)→Steady s.h r.h
 | [],s,r,es,h=>by simp only [qn,Ym,Yr] at h; rw [h.2]; exact Steady.refl _
 | o::l,s,r,es,h=>by
  simp only [qn,Yk,Yl] at h
  obtain⟨w,hw,s1,h1,⟨rj,r'⟩,h2,h3⟩:=h
  simp only [Yr] at h3
  obtain⟨_,rfl⟩:=h3
  have h4:mw P cf aF ops s o=some s1:=by unfold mw; rw [hw]; exact h1
  exact (oW hcf h4).trans (rB hcf h2)
theorem ve (hcf:SteadyF cf){ops:Array Oper}(h:lG P cf aF ops s=some s'):Steady s.h s'.h:=by
 unfold lG at h
 dsimp only at h
 split at h
 rotate_left
 ·cases h
 rw [Yk] at h
 obtain⟨⟨es,r⟩,AT,h⟩:=h
 simp only at h
 split at h
 ·cases h; exact rB hcf AT
 ·cases h
theorem fO (hcf:SteadyF cf){A:cm}{m:Nat}:∀(c:Code) (st jN:St) (e:Ex),bN P cf A m c st=some (e,jN)→Steady st.h jN.h
 | .skip,st,jN,e,h=>by simp only [bN,Ym,Yr] at h; rw [h.2]; exact Steady.refl _
 | .label _,st,jN,e,h=>by simp only [bN,Ym,Yr] at h; rw [h.2]; exact Steady.refl _
 | .ret,st,jN,e,h=>by simp only [bN,Ym,Yr] at h; rw [h.2]; exact Steady.refl _
 | .exit _,st,jN,e,h=>by simp only [bN,Ym,Yr] at h; rw [h.2]; exact Steady.refl _
 | .seq x y,st,jN,e,h=>by
  simp only [bN,Yk] at h
  obtain⟨⟨e1,s1⟩,h1,h2⟩:=h
  have:=fO hcf x st s1 e1 h1
  cases e1 with
  | norm=>exact this.trans (fO hcf y s1 jN e h2)
  | exit id=>simp only [Ym,Yr] at h2; rw [←h2.2]; exact this
  | ret=>simp only [Ym,Yr] at h2; rw [←h2.2]; exact this
 | .cond k x y,st,jN,e,h=>by
  simp only [bN,Yk] at h
  obtain⟨t,_,h⟩:=h
  cases t with
  | true=>exact fO hcf x st jN e (by simpa using h)
  | false=>exact fO hcf y st jN e (by simpa using h)
 | .block id x,st,jN,e,h=>by
  simp only [bN,Yl] at h
  obtain⟨⟨e1,s1⟩,h1,h2⟩:=h
  have:=fO hcf x st s1 e1 h1
  cases e1<;>(simp only [Yr] at h2; rw [←h2.2]; exact this)
 | .loop x,st,jN,e,h=>by
  simp only [bN] at h
  have key:∀(j:Nat) (st:St),kN (bN P cf A m x) j st=some (e,jN)→Steady st.h jN.h:=by
   intro j
   induction j with
   | zero=>intro st h; simp [kN] at h
   | succ j ih=>
    intro st h
    simp only [kN,Yk] at h
    obtain⟨⟨e1,s1⟩,h1,h2⟩:=h
    have:=fO hcf x st s1 e1 h1
    cases e1 with
    | norm=>exact this.trans (ih s1 h2)
    | exit id=>simp only [Ym,Yr] at h2; rw [←h2.2]; exact this
    | ret=>simp only [Ym,Yr] at h2; rw [←h2.2]; exact this
  exact key m st h
 | .region id ops draw,st,jN,e,h=>by
  simp only [bN,Yk,Yl,Yr] at h
  obtain⟨s0,h0,s',h1,s2,h2,_,rfl⟩:=h
  rw [IT]
  refine ((mE h0).trans ?_).trans (mE h2)
  cases draw with
  | true=>exact ve (s:=s0) hcf (by simpa using h1)
  | false=>exact rA (s:=s0) hcf (by simpa using h1)
 | .rangeFunc ..,st,jN,e,h=>by simp [bN] at h
 | .scope ..,st,jN,e,h=>by simp [bN] at h
 | .goto ..,st,jN,e,h=>by simp [bN] at h
 | .refuse ..,st,jN,e,h=>by simp [bN] at h
theorem xe (hcf:SteadyF cf){aU:FuncId→cm}{m:Nat}:SteadyF (be P aU cf m):=by
 intro f args h r h' hc
 unfold be at hc
 rw [Yk] at hc
 obtain⟨fn,hf,hc⟩:=hc
 rw [Yk] at hc
 obtain⟨c,hb,hc⟩:=hc
 split at hc
 rotate_left
 ·cases hc
 rw [Yk] at hc
 obtain⟨⟨e,st⟩,hex,hc⟩:=hc
 have:=fO hcf c _ _ _ hex
 cases e with
 | norm=>obtain⟨r',_,h2⟩:=Option.map_some' hc; cases h2; exact this
 | ret=>obtain⟨r',_,h2⟩:=Option.map_some' hc; cases h2; exact this
 | exit id=>cases hc
end
end Go.R
namespace Go.R
open Go
section
variable {P:Program}{cf:CallF}{aF ds:List Nat}{o:Oper}{s s':RS}
theorem DU {e e':Operand→AV}(h:∀x∈o.op.operands,e x=e' x):AK P cf aF ds e s o=AK P cf aF ds e' s o:=by
 have NV:∀(l:List Operand),(∀x∈l,e x=e' x)→l.map e=l.map e':=fun l hl=>Zo hl
 have KY:∀(q:Option Operand),(∀x,q=some x→e x=e' x)→q.map e=q.map e':=by
  intro q hq; cases q with
  | none=>rfl
  | some x=>simp [hq x rfl]
 unfold AK
 cases Ck:o.op<;>rw [Ck] at h
 case build t ps=>
  have:(ps.toList.map fun (i,x)=>(i,e x))=(ps.toList.map fun (i,x)=>(i,e' x)):=
   Zo fun p hp=>by
    have:=h p.2 (by simp only [Op.operands,List.mem_toArray,YH]; exact⟨p,hp,rfl⟩)
    simp [this]
  simp only [this]
 case buildSlice t n ps=>
  have:(ps.toList.map fun (i,x)=>(i,e x))=(ps.toList.map fun (i,x)=>(i,e' x)):=
   Zo fun p hp=>by
    have:=h p.2 (by simp only [Op.operands,List.mem_toArray,YH]; exact⟨p,hp,rfl⟩)
    simp [this]
  simp only [this]
 case makeFunc f first cap=>
  have:cap.toList.map e=cap.toList.map e':=NV _ fun x hx=>h x (by simp only [Op.operands,Array.mem_append]; right; exact Zh.1 hx)
  cases f<;>first | rfl | simp only [this]
 case makeMap t r=>cases r<;>rfl
 case slice t x lo hi mx=>
  have h1:e x=e' x:=h x (by simp [Op.operands])
  have h2:=KY lo fun y hy=>h y (by simp [Op.operands,hy])
  have h3:=KY hi fun y hy=>h y (by simp [Op.operands,hy])
  have h4:=KY mx fun y hy=>h y (by simp [Op.operands,hy])
  simp only [h1,h2,h3,h4]
 case call c=>
  obtain⟨callee,args,Cg⟩:=c
  have h1:args.toList.map e=args.toList.map e':=NV _ fun x hx=>h x (by
   simp only [Op.operands,Call.operands]
   cases callee<;>simp<;>first | exact Zh.1 hx | (right; exact Zh.1 hx) | (left; exact Zh.1 hx))
  cases callee with
  | builtin b=>simp only [h1]
  | value f=>
   have h2:e f=e' f:=h f (by simp [Op.operands,Call.operands])
   simp only [h1,h2]
  | invoke r nm=>rfl
 all_goals first
  | rfl
  | (simp [Op.operands] at h; simp [h])
end
theorem oX (acc:List Nat)(i:Nat):∀(l:List Edge) (m:Nat),(l.foldl (fun m e=>bif Region.binds .any e then m ||| (2 ^ e.on ||| acc.getD e.on 0) else m) m).testBit i=true→
  m.testBit i=true∨∃e∈l,Region.binds .any e=true∧(e.on=i∨(acc.getD e.on 0).testBit i=true)
 | [],m,h=>.inl h
 | e::l,m,h=>by
  rcases oX acc i l _ h with h1 | ⟨e',he,h1⟩
  ·dsimp only at h1
   cases hb:Region.binds .any e with
   | false=>rw [hb] at h1; exact .inl h1
   | true=>
    rw [hb] at h1
    simp only [cond_true,Nat.testBit_or,Za,Nat.testBit_two_pow,decide_eq_true_eq] at h1
    rcases h1 with h1 | h1 | h1
    ·exact .inl h1
    ·exact .inr ⟨e,by simp,hb,.inl h1⟩
    ·exact .inr ⟨e,by simp,hb,.inr h1⟩
  ·exact .inr ⟨e',by simp [he],h1⟩
theorem rC:∀(l:List Oper) (acc:List Nat),(∀j,j<acc.length→(jV acc l).getD j 0=acc.getD j 0)∧
  ∀j i,((jV acc l).getD j 0).testBit i=true→acc.length≤j→∃o,l[j - acc.length]? = some o∧∃e∈o.after.toList,Region.binds .any e=true∧(e.on=i∨((jV acc l).getD e.on 0).testBit i=true)
 | [],acc=>⟨fun j hj=>rfl,fun j i h hj=>by simp [jV,List.getD,YC hj] at h⟩
 | o::l,acc=>by
  simp only [jV]
  generalize hm:(o.after.toList.foldl (fun m e=>bif Region.binds .any e then m ||| (2 ^ e.on ||| acc.getD e.on 0) else m) 0)=m
  obtain⟨h1,h2⟩:=rC l (acc++[m])
  have hold:∀j,j<acc.length→(jV (acc++[m]) l).getD j 0=acc.getD j 0:=fun j hj=>by
   rw [h1 j (by simp; omega)]
   simp [List.getD,YV hj]
  refine⟨hold,fun j i h hj=>?_⟩
  by_cases V6:j=acc.length
  ·subst V6
   have:(jV (acc++[m]) l).getD acc.length 0=m:=by
    rw [h1 _ (by simp)]; simp [List.getD]
   rw [this,←hm] at h
   rcases oX acc i _ _ h with h3 | ⟨e,he,hb,h3⟩
   ·simp at h3
   ·refine⟨o,by simp,e,he,hb,h3.imp id fun h4=>?_⟩
    by_cases hl:e.on<acc.length
    ·rw [hold _ hl]; exact h4
    ·simp [List.getD,YC (Nat.not_lt.1 hl)] at h4
  ·obtain⟨o',MZ,h3⟩:=h2 j i h (by simp; omega)
   refine⟨o',?_,h3⟩
   rw [show j - acc.length=(j - (acc++[m]).length)+1 by simp; omega]
   simpa using MZ
theorem kF {α:Type}(p:Nat→α→Nat→α→Bool):∀(l:List α) (k:Nat),oJ p k l=true→∀i j x y,i<j→l[i]? = some x→l[j]? = some y→p (k+i) x (k+j) y=true
 | [],k,_,i,j,x,y,_,hx,_=>by simp at hx
 | a::l,k,h,i,j,x,y,y6,hx,hy=>by
  simp only [oJ,Yo,YK] at h
  obtain⟨h1,h2⟩:=h
  cases j with
  | zero=>omega
  | succ j=>
   cases i with
   | zero=>
    simp only [Y1,Ym] at hx
    subst hx
    have:=h1 (y,k+1+j) (by rw [List.mk_add_mem_zipIdx_iff_getElem?]; simpa using hy)
    simpa [Y7,Nat.add_comm 1 j] using this
   | succ i=>
    have:=kF p l (k+1) h2 i j x y (by omega) (by simpa using hx) (by simpa using hy)
    rw [show k+(i+1)=k+1+i by omega,show k+(j+1)=k+1+j by omega]
    exact this
theorem oY:∀(l:List Oper) (k:Nat),sv k l=true→∀i o,l[i]? = some o→∀e∈o.after.toList,Region.binds .any e=true→e.on<k+i
 | [],k,_,i,o,h,_,_,_=>by simp at h
 | a::l,k,h,i,o,ho,e,he,hb=>by
  simp only [sv,Yo,YK] at h
  obtain⟨h1,h2⟩:=h
  cases i with
  | zero=>
   simp only [Y1,Ym] at ho
   subst ho
   have:=h1 e he
   simp only [hb,Bool.not_true,Bool.false_or] at this
   exact Nat.blt_eq.mp this
  | succ i=>
   have:=oY l (k+1) h2 i o (by simpa using ho) e he hb
   omega
theorem oZ {V:Type}{n i:Nat}(hi:i≤n){W:Nat→Prop}{S:Nat→Bool}{m x:Nat→V}(h0:m 0=x 0)(NW:∀k,k<n→W k→S k=true→m (k+1)=x (k+1))(AR:∀k,k<n→(¬W k∨S k=false)→m (k+1)=m k)
  (hx:∀k,k<n→¬W k→x (k+1)=x k) (hS:∀k,k<n→W k→(S k=true↔k<i)):m n=x i:=by
 have key:∀k,k≤n→m k=x (min k i):=by
  intro k
  induction k with
  | zero=>intro _; simpa using h0
  | succ k ih=>
   intro hk
   have ih:=ih (by omega)
   by_cases hw:W k
   ·have hs:=hS k (by omega) hw
    by_cases sB:k<i
    ·rw [NW k (by omega) hw (hs.2 sB),ZW (by omega)]
    ·have:S k=false:=by
      cases h:S k with
      | false=>rfl
      | true=>exact absurd (hs.1 h) sB
     rw [AR k (by omega) (.inr this),ih,Nat.min_eq_right (by omega),Nat.min_eq_right (by omega)]
   ·rw [AR k (by omega) (.inl hw),ih]
    by_cases sB:k<i
    ·rw [ZW (by omega),ZW (by omega),hx k (by omega) hw]
    ·rw [Nat.min_eq_right (by omega),Nat.min_eq_right (by omega)]
 rw [key n (Yn n),Nat.min_eq_right hi]
open Classical in
theorem xf {V:Type}{n i:Nat}(hi:i<n){W:Nat→Prop}{S S':Nat→Bool}{m m' x:Nat→V}(h0:m' 0=m 0)(NW:∀k,k<n→W k→S k=true→m (k+1)=x (k+1))(AR:∀k,k<n→(¬W k∨S k=false)→m (k+1)=m k)
  (KZ:∀k,k<n→W k→S' k=true→m' (k+1)=x (k+1)) (IU:∀k,k<n→(¬W k∨S' k=false)→m' (k+1)=m' k)
  (DV:∀k,S' k=if k=i then true else S k) (NX:S i=false) (hl:W i→∀j,j<n→i<j→W j→S j=false):m' n=if W i then x (i+1) else m n:=by
 have key:∀k,k≤n→m' k=if i<k∧W i then x (i+1) else m k:=by
  intro k
  induction k with
  | zero=>intro _; simpa using h0
  | succ k ih=>
   intro hk
   have ih:=ih (by omega)
   by_cases sB:k=i
   ·subst sB
    by_cases hw:W k
    ·rw [KZ k (by omega) hw (by rw [DV]; simp),if_pos ⟨by omega,hw⟩]
    ·rw [IU k (by omega) (.inl hw),ih,if_neg (fun h=>hw h.2),if_neg (fun h=>hw h.2),AR k (by omega) (.inl hw)]
   ·have hs:S' k=S k:=by rw [DV,if_neg sB]
    by_cases hw:W k
    ·cases qv:S k with
     | true=>
      rw [KZ k (by omega) hw (hs.trans qv)]
      by_cases E0:i<k+1∧W i
      ·have:=hl E0.2 k (by omega) (by omega) hw
       rw [qv] at this; cases this
      ·rw [if_neg E0,NW k (by omega) hw qv]
     | false=>
      rw [IU k (by omega) (.inr (hs.trans qv)),ih,AR k (by omega) (.inr qv)]
      by_cases E0:i<k∧W i
      ·rw [if_pos E0,if_pos ⟨by omega,E0.2⟩]
      ·rw [if_neg E0,if_neg (fun h=>E0 ⟨by omega,h.2⟩)]
    ·rw [IU k (by omega) (.inl hw),ih,AR k (by omega) (.inl hw)]
     by_cases E0:i<k∧W i
     ·rw [if_pos E0,if_pos ⟨by omega,E0.2⟩]
     ·rw [if_neg E0,if_neg (fun h=>E0 ⟨by omega,h.2⟩)]
 rw [key n (Yn n)]
 by_cases hw:W i
 ·rw [if_pos ⟨hi,hw⟩,if_pos hw]
 ·rw [if_neg (fun h=>hw h.2),if_neg hw]
structure tl (P:Program)(cf:CallF)(aF:List Nat)(ops:Array Oper)(tx:Nat→RS)(ft:Nat→kL)(ord:Nat→Nat→Prop):Prop where
 op:∀k o,ops[k]? = some o→∃w,gS ops.toList (tx k).ρ o=some w∧(if w then wS P cf aF (ops.toList.filterMap (·.dst)) (tx k) o=some (tx (k+1))∧ft k=a8 aF (bS (tx k).ρ) o else tx (k+1)=(tx k).set o.dst (.tup [])∧ft k={})
 La:∀k i,ord k i→∃o,ops[i]? = some o∧∃e∈o.after,Region.binds .any e=true∧(e.on=k∨ord k e.on)
 back:∀i o,ops[i]? = some o→∀e∈o.after,Region.binds .any e=true→e.on<i
 J6:∀i j x y,i≠j→ops[i]? = some x→ops[j]? = some y→ord i j∨ord j i∨∀d,x.dst=some d→d∉y.looksAt ops∧y.dst≠some d
 boxes:∀i j,i<ops.size→j<ops.size→i≠j→ord i j∨ord j i∨(∀k,(ft i).wb=some k→k∉(ft j).rb∧(ft j).wb≠some k)∧((ft i).wh=true→(ft j).wh=false∧∀id∈(ft j).rh,(tx i).h.get id=(tx (i+1)).h.get id)
 QM:∀i o d,ops[i]? = some o→(ft i).al=true→o.dst=some d→(∀t∈ops.toList.filterMap (·.dst),t≠d→∀off,(tx 0).ρ t≠.lp d off)∧∀j y t,ops[j]? = some y→j≠i→ord i j∨(y.dst=some t→∀off,(tx (j+1)).ρ t≠.lp d off)
section
variable {P:Program}{cf:CallF}{aF:List Nat}{ops:Array Oper}{tx:Nat→RS}{ft:Nat→kL}{ord:Nat→Nat→Prop}
def jy (ops:Array Oper)(k:Nat):Option Nat:=(ops[k]?).bind (·.dst)
def ki (ops:Array Oper)(tx:Nat→RS)(ft:Nat→kL)(S:Nat→Bool):Nat→RS
 | 0=>tx 0
 | k+1=>if S k then (ki ops tx ft S k).shift (ft k) (jy ops k) (tx (k+1)) else ki ops tx ft S k
theorem tl.shift (T:tl P cf aF ops tx ft ord){k:Nat}(hk:k<ops.size):tx (k+1)=(tx k).shift (ft k) (jy ops k) (tx (k+1)):=by
 have ho:ops[k]? = some ops[k]:=by simp [hk]
 obtain⟨w,hw,h⟩:=T.op k _ ho
 have hd:jy ops k=ops[k].dst:=by simp [jy,hk]
 rw [hd]
 cases w with
 | true=>
  simp only [if_true] at h
  obtain⟨h1,h2⟩:=h
  have:=vU (s2:=tx k) (e:=bS (tx k).ρ) h1 (fun _ _=>rfl) (fun _ _=>rfl) (fun _=>rfl) (fun oG d Ay=>by
   unfold wS AK at h1
   dsimp only at h1
   have J7:∀(cs:List AV) (s s':RS),iw s aF (ops.toList.filterMap (·.dst)) ops[k] cs=some s'→aF.contains d=true→sT d s.ρ ((ops.toList.filterMap (·.dst)).filter fun t=>!Nat.beq t d)=true:=by
    intro cs s s' hb hl
    unfold iw at hb
    simp only [Ay,hl,if_true] at hb
    by_cases hn:sT d s.ρ ((ops.toList.filterMap (·.dst)).filter fun t=>!Nat.beq t d)=true
    ·exact hn
    ·simp [hn] at hb
   unfold a8 at oG
   split at oG
   ·rename_i t Ck
    rw [Ay] at oG
    simp only at oG
    split at oG
    ·rename_i hl
     rw [Ck] at h1
     simp only [Yk] at h1
     obtain⟨z,_,h1⟩:=h1
     exact J7 _ _ _ h1 hl
    ·cases oG
   ·rename_i t x Ck
    rw [Ay] at oG
    simp only at oG
    split at oG
    ·rename_i hl
     rw [Ck] at h1
     exact J7 _ _ _ h1 hl
    ·cases oG
   all_goals first
    | (split at oG<;>cases oG)
    | (split at oG<;>first | cases oG | (split at oG<;>cases oG))
    | cases oG)
  unfold wS at h1
  rw [h1] at this
  rw [h2]
  exact YI this
 | false=>
  simp only [YA,if_false] at h
  rw [h.1,h.2]
  exact iD (tx k) (tx k) {} _ _ rfl rfl
theorem sC (s2:RS)(f:kL)(d:Option Nat)(s':RS)(t:Nat):(s2.shift f d s').ρ t=if d=some t then s'.ρ t else s2.ρ t:=by
 cases d with
 | none=>simp [RS.shift]
 | some d=>
  simp only [RS.shift,Ym]
  by_cases h:t=d
  ·subst h; simp
  ·rw [if_neg h,if_neg (ZB h)]
theorem pa (s2:RS)(f:kL)(d:Option Nat)(s':RS)(b:Nat):(s2.shift f d s').bx b=if f.wb=some b then s'.bx b else s2.bx b:=by
 cases hf:f.wb with
 | none=>simp [RS.shift,hf]
 | some k=>
  simp only [RS.shift,hf,Ym]
  by_cases h:b=k
  ·subst h; simp
  ·rw [if_neg h,if_neg (ZB h)]
theorem tl.lt (T:tl P cf aF ops tx ft ord):∀{j k:Nat},ord k j→k<j:=by
 intro j
 induction j using Nat.strongRecOn with
 | _ j ih=>
  intro k h
  obtain⟨o,ho,e,he,hb,h1⟩:=T.La k j h
  have h2:=T.back j o ho e he hb
  rcases h1 with h1 | h1
  ·omega
  ·have:=ih e.on h2 h1; omega
def qy (ops:Array Oper)(S:Nat→Bool):Prop:=∀j o,ops[j]? = some o→S j=true→∀e∈o.after,Region.binds .any e=true→S e.on=true
theorem tl.down (T:tl P cf aF ops tx ft ord){S:Nat→Bool}(hc:qy ops S):∀{j k:Nat},ord k j→S j=true→S k=true:=by
 intro j
 induction j using Nat.strongRecOn with
 | _ j ih=>
  intro k h hs
  obtain⟨o,ho,e,he,hb,h1⟩:=T.La k j h
  have h2:=T.back j o ho e he hb
  have h3:=hc j o ho hs e he hb
  rcases h1 with h1 | h1
  ·rw [←h1]; exact h3
  ·exact ih e.on h2 h1 h3
variable {S:Nat→Bool}{i:Nat}{oi:Oper}
theorem tl.before (T:tl P cf aF ops tx ft ord)(hc:qy ops S)(ho:ops[i]? = some oi)(hr:∀e∈oi.after,Region.binds .any e=true→S e.on=true){k:Nat}(h:ord k i):S k=true:=by
 obtain⟨o,MZ,e,he,hb,h1⟩:=T.La k i h
 rw [ho] at MZ
 cases MZ
 rcases h1 with h1 | h1
 ·rw [←h1]; exact hr e he hb
 ·exact T.down hc h1 (hr e he hb)
theorem tl.iff (T:tl P cf aF ops tx ft ord)(hc:qy ops S)(ho:ops[i]? = some oi)(hr:∀e∈oi.after,Region.binds .any e=true→S e.on=true)(hi:S i=false){k:Nat}(h:ord i k∨ord k i):S k=true↔k<i:=by
 rcases h with h | h
 ·have:=T.lt h
  refine⟨fun hk=>?_,fun _=>by omega⟩
  have:=T.down hc h hk
  rw [hi] at this; cases this
 ·exact⟨fun _=>T.lt h,fun _=>T.before hc ho hr h⟩
theorem xg (t:Nat)(k:Nat)(hd:jy ops k=some t)(hs:S k=true):(ki ops tx ft S (k+1)).ρ t=(tx (k+1)).ρ t:=by
 simp only [ki,hs,if_true,sC,hd]
theorem xh (t:Nat)(k:Nat)(h:¬jy ops k=some t∨S k=false):(ki ops tx ft S (k+1)).ρ t=(ki ops tx ft S k).ρ t:=by
 simp only [ki]
 split
 ·rename_i hs
  rcases h with h | h
  ·rw [sC,if_neg h]
  ·rw [h] at hs; cases hs
 ·rfl
theorem xi (b:Nat)(k:Nat)(hd:(ft k).wb=some b)(hs:S k=true):(ki ops tx ft S (k+1)).bx b=(tx (k+1)).bx b:=by
 simp only [ki,hs,if_true,pa,hd]
theorem xj (b:Nat)(k:Nat)(h:¬(ft k).wb=some b∨S k=false):(ki ops tx ft S (k+1)).bx b=(ki ops tx ft S k).bx b:=by
 simp only [ki]
 split
 ·rename_i hs
  rcases h with h | h
  ·rw [pa,if_neg h]
  ·rw [h] at hs; cases hs
 ·rfl
theorem xk (k:Nat)(hd:(ft k).wh=true)(hs:S k=true):(ki ops tx ft S (k+1)).h=(tx (k+1)).h:=by
 simp only [ki,hs,if_true,RS.shift,hd]
theorem xl (k:Nat)(h:¬(ft k).wh=true∨S k=false):(ki ops tx ft S (k+1)).h=(ki ops tx ft S k).h:=by
 simp only [ki]
 split
 ·rename_i hs
  rcases h with h | h
  ·simp only [RS.shift]; rw [if_neg h]
  ·rw [h] at hs; cases hs
 ·rfl
theorem tl.QN (T:tl P cf aF ops tx ft ord)(t:Nat)(k:Nat)(hk:k<ops.size)(h:¬jy ops k=some t):(tx (k+1)).ρ t=(tx k).ρ t:=by
 rw [T.shift hk,sC,if_neg h]
theorem tl.NY (T:tl P cf aF ops tx ft ord)(b:Nat)(k:Nat)(hk:k<ops.size)(h:¬(ft k).wb=some b):(tx (k+1)).bx b=(tx k).bx b:=by
 rw [T.shift hk,pa,if_neg h]
theorem tl.Lb (T:tl P cf aF ops tx ft ord)(k:Nat)(hk:k<ops.size)(h:¬(ft k).wh=true):(tx (k+1)).h=(tx k).h:=by
 rw [T.shift hk]; simp only [RS.shift]; rw [if_neg h]
theorem tl.reads (T:tl P cf aF ops tx ft ord)(hc:qy ops S)(ho:ops[i]? = some oi)(hr:∀e∈oi.after,Region.binds .any e=true→S e.on=true)(hi:S i=false) :
  (∀t∈oi.looksAt ops,(ki ops tx ft S ops.size).ρ t=(tx i).ρ t)∧(∀b∈(ft i).rb,(ki ops tx ft S ops.size).bx b=(tx i).bx b)∧
  (∀id∈(ft i).rh,(ki ops tx ft S ops.size).h.get id=(tx i).h.get id)∧((ft i).wh=true→(ki ops tx ft S ops.size).h=(tx i).h):=by
 have hin:i<ops.size:=(YT.1 ho).1
 have KK:∀k,k<ops.size→ops[k]? = some ops[k]!:=fun k hk=>by simp [hk]
 have nK:∀k,k=i→(S k=true↔k<i):=by
  rintro k rfl
  rw [hi]; simp
 refine⟨fun t ht=>?_,fun b hb=>?_,fun id hid=>?_,fun hw=>?_⟩
 ·refine oZ (W:=fun k=>jy ops k=some t) (m:=fun k=>(ki ops tx ft S k).ρ t) (x:=fun k=>(tx k).ρ t) (S:=S) (Nat.le_of_lt hin) rfl (fun k _ h hs=>xg t k h hs) (fun k _ h=>xh t k h) (fun k hk h=>T.QN t k hk h) (fun k hk h=>?_)
  by_cases sB:k=i
  ·exact nK k sB
  ·obtain⟨y,hy,Lc⟩:=Yk.1 h
   rcases T.J6 k i y oi sB hy ho with h1 | h1 | h1
   ·exact T.iff hc ho hr hi (.inr h1)
   ·exact T.iff hc ho hr hi (.inl h1)
   ·exact absurd ht (h1 t Lc).1
 ·refine oZ (W:=fun k=>(ft k).wb=some b) (m:=fun k=>(ki ops tx ft S k).bx b) (x:=fun k=>(tx k).bx b) (S:=S) (Nat.le_of_lt hin) rfl (fun k _ h hs=>xi b k h hs) (fun k _ h=>xj b k h) (fun k hk h=>T.NY b k hk h) (fun k hk h=>?_)
  by_cases sB:k=i
  ·exact nK k sB
  ·rcases T.boxes k i hk hin sB with h1 | h1 | h1
   ·exact T.iff hc ho hr hi (.inr h1)
   ·exact T.iff hc ho hr hi (.inl h1)
   ·exact absurd hb (h1.1 b h).1
 ·
  obtain⟨p,hp,NM⟩:∃p,p≤ops.size∧∀k,k<ops.size→(ft k).wh=true→(S k=true↔k<p):=by
   have key:∀m,m≤ops.size→(∀k,k<m→(ft k).wh=true→S k=true)∨∃p,p<m∧(ft p).wh=true∧S p=false∧∀k,k<p→(ft k).wh=true→S k=true:=by
    intro m
    induction m with
    | zero=>intro _; exact .inl fun k hk=>by omega
    | succ m ih=>
     intro hm
     rcases ih (by omega) with h | ⟨p,h1,h2⟩
     ·by_cases hw:(ft m).wh=true∧S m=false
      ·exact .inr ⟨m,by omega,hw.1,hw.2,h⟩
      ·refine .inl fun k hk TZ=>?_
       by_cases V7:k=m
       ·subst V7
        cases hs:S k with
        | true=>rfl
        | false=>exact absurd ⟨TZ,hs⟩ hw
       ·exact h k (by omega) TZ
     ·exact .inr ⟨p,by omega,h2⟩
   rcases key ops.size (Yn _) with h | ⟨p,h1,h2,h3,h4⟩
   ·exact⟨ops.size,Yn _,fun k hk hw=>⟨fun _=>hk,fun _=>h k hk hw⟩⟩
   ·refine⟨p,by omega,fun k hk hw=>⟨fun hs=>?_,fun PN=>h4 k PN hw⟩⟩
    rcases Nat.lt_or_ge k p with h5 | h5
    ·exact h5
    ·by_cases PN:k=p
     ·subst PN; rw [h3] at hs; cases hs
     ·rcases T.boxes p k h1 hk (ZB PN) with h6 | h6 | h6
      ·have:=T.down hc h6 hs; rw [h3] at this; cases this
      ·have:=T.lt h6; omega
      ·have:=(h6.2 h2).1; rw [hw] at this; cases this
  have Ld:(ki ops tx ft S ops.size).h=(tx p).h:=
   oZ (W:=fun k=>(ft k).wh=true) (m:=fun k=>(ki ops tx ft S k).h) (x:=fun k=>(tx k).h) (S:=S) hp rfl (fun k _ h hs=>xk k h hs) (fun k _ h=>xl k h) (fun k hk h=>T.Lb k hk h) NM
  rw [Ld]
  have J8:∀k,k<ops.size→(p≤k∧k<i)∨(i≤k∧k<p)→(tx (k+1)).h.get id=(tx k).h.get id:=by
   intro k hk hb
   by_cases hw:(ft k).wh=true
   ·have hs:=NM k hk hw
    have sB:k≠i:=by
     rintro rfl
     rcases hb with hb | hb
     ·omega
     ·have:=hs.2 hb.2; rw [hi] at this; cases this
    rcases T.boxes k i hk hin sB with h1 | h1 | h1
    ·have hlt:=T.lt h1
     have:=hs.1 (T.before hc ho hr h1)
     omega
    ·have hlt:=T.lt h1
     have:=T.down hc h1 (hs.2 (by omega))
     rw [hi] at this; cases this
    ·exact ((h1.2 hw).2 id hid).symm
   ·rw [T.Lb k hk hw]
  have walk:∀a b,a≤b→b≤ops.size→(∀k,a≤k→k<b→(tx (k+1)).h.get id=(tx k).h.get id)→(tx b).h.get id=(tx a).h.get id:=by
   intro a b QP
   induction b with
   | zero=>
     intro _ _; have:a=0:=by omega
     subst this; rfl
   | succ b ih=>
    intro hb hk
    by_cases QQ:a=b+1
    ·subst QQ; rfl
    ·rw [hk b (by omega) (by omega)]
     exact ih (by omega) (by omega) fun k h1 h2=>hk k h1 (by omega)
  rcases Nat.le_total p i with h | h
  ·exact (walk p i h (Nat.le_of_lt hin) fun k h1 h2=>J8 k (by omega) (.inl ⟨h1,h2⟩)).symm
  ·exact walk i p h hp fun k h1 h2=>J8 k (by omega) (.inr ⟨h1,h2⟩)
 ·refine oZ (W:=fun k=>(ft k).wh=true) (m:=fun k=>(ki ops tx ft S k).h) (x:=fun k=>(tx k).h) (S:=S) (Nat.le_of_lt hin) rfl (fun k _ h hs=>xk k h hs) (fun k _ h=>xl k h) (fun k hk h=>T.Lb k hk h) (fun k hk h=>?_)
  by_cases sB:k=i
  ·exact nK k sB
  ·rcases T.boxes k i hk hin sB with h1 | h1 | h1
   ·exact T.iff hc ho hr hi (.inr h1)
   ·exact T.iff hc ho hr hi (.inl h1)
   ·have:=(h1.2 h).1; rw [hw] at this; cases this
theorem y7 (t:Nat):∀k,(ki ops tx ft S k).ρ t=(tx 0).ρ t∨∃j,j<k∧S j=true∧jy ops j=some t∧(ki ops tx ft S k).ρ t=(tx (j+1)).ρ t
 | 0=>.inl rfl
 | k+1=>by
  by_cases h:jy ops k=some t∧S k=true
  ·exact .inr ⟨k,by omega,h.2,h.1,xg t k h.1 h.2⟩
  ·have h':¬jy ops k=some t∨S k=false:=by
    by_cases h1:jy ops k=some t
    ·right; cases hs:S k with
     | true=>exact absurd ⟨h1,hs⟩ h
     | false=>rfl
    ·exact .inl h1
   rw [xh t k h']
   rcases y7 t k with h1 | ⟨j,h1,h2⟩
   ·exact .inl h1
   ·exact .inr ⟨j,by omega,h2⟩
theorem tm {k:Nat}{ρ:Nat→AV}:∀{l:List Nat},(∀t∈l,∀off,ρ t≠.lp k off)→sT k ρ l=true
 | [],_=>rfl
 | t::l,h=>by
  simp only [sT,Yo]
  refine⟨?_,tm fun u hu=>h u (by simp [hu])⟩
  have:=h t (by simp)
  split
  ·rename_i j off heq
   simp only [bne_iff_ne,ne_eq]
   rintro rfl
   exact this off heq
  ·rfl
open Classical in
theorem tl.next (T:tl P cf aF ops tx ft ord)(hc:qy ops S)(ho:ops[i]? = some oi)(hr:∀e∈oi.after,Region.binds .any e=true→S e.on=true)(hi:S i=false){S':Nat→Bool}(DV:∀k,S' k=if k=i then true else S k) :
  mw P cf aF ops.toList (ki ops tx ft S ops.size) oi=some (ki ops tx ft S' ops.size):=by
 have hin:i<ops.size:=(YT.1 ho).1
 obtain⟨h1,h2,h3,h4⟩:=T.reads hc ho hr hi
 obtain⟨w,hw,Ck⟩:=T.op i oi ho
 have rS:jy ops i=oi.dst:=by simp [jy,ho]
 have vV:∀j,i<j→j<ops.size→(ord i j∨ord j i)→S j=false:=by
  intro j y6 hj h
  cases hs:S j with
  | false=>rfl
  | true=>have:=(T.iff hc ho hr hi h).1 hs; omega
 have Ld:ki ops tx ft S' ops.size=(ki ops tx ft S ops.size).shift (ft i) (jy ops i) (tx (i+1)):=by
  refine RS.ext' (fun t=>?_) (fun b=>?_) ?_
  ·rw [sC]
   have:=xf (W:=fun k=>jy ops k=some t) (m:=fun k=>(ki ops tx ft S k).ρ t) (m':=fun k=>(ki ops tx ft S' k).ρ t) (x:=fun k=>(tx k).ρ t) (S:=S) (S':=S') hin rfl
    (fun k _ h hs=>xg t k h hs) (fun k _ h=>xh t k h) (fun k _ h hs=>xg t k h hs) (fun k _ h=>xh t k h) DV hi (fun M0 j hj y6 NZ=>by
     obtain⟨y,hy,Lc⟩:=Yk.1 NZ
     rw [rS] at M0
     rcases T.J6 i j oi y (by omega) ho hy with h | h | h
     ·exact vV j y6 hj (.inl h)
     ·exact vV j y6 hj (.inr h)
     ·exact absurd Lc (h t M0).2)
   rw [this]
   by_cases hd:jy ops i=some t
   ·rw [if_pos hd,if_pos hd]
   ·rw [if_neg hd,if_neg hd]
  ·rw [pa]
   have:=xf (W:=fun k=>(ft k).wb=some b) (m:=fun k=>(ki ops tx ft S k).bx b) (m':=fun k=>(ki ops tx ft S' k).bx b) (x:=fun k=>(tx k).bx b) (S:=S) (S':=S') hin rfl
    (fun k _ h hs=>xi b k h hs) (fun k _ h=>xj b k h) (fun k _ h hs=>xi b k h hs) (fun k _ h=>xj b k h) DV hi (fun M0 j hj y6 NZ=>by
     rcases T.boxes i j hin hj (by omega) with h | h | h
     ·exact vV j y6 hj (.inl h)
     ·exact vV j y6 hj (.inr h)
     ·exact absurd NZ (h.1 b M0).2)
   rw [this]
   by_cases hd:(ft i).wb=some b
   ·rw [if_pos hd,if_pos hd]
   ·rw [if_neg hd,if_neg hd]
  ·have:=xf (W:=fun k=>(ft k).wh=true) (m:=fun k=>(ki ops tx ft S k).h) (m':=fun k=>(ki ops tx ft S' k).h) (x:=fun k=>(tx k).h) (S:=S) (S':=S') hin rfl
    (fun k _ h hs=>xk k h hs) (fun k _ h=>xl k h) (fun k _ h hs=>xk k h hs) (fun k _ h=>xl k h) DV hi (fun M0 j hj y6 NZ=>by
     rcases T.boxes i j hin hj (by omega) with h | h | h
     ·exact vV j y6 hj (.inl h)
     ·exact vV j y6 hj (.inr h)
     ·have:=(h.2 M0).1; rw [NZ] at this; cases this)
   rw [this]
   simp only [RS.shift]
   by_cases hd:(ft i).wh=true
   ·rw [if_pos hd,if_pos hd]
   ·rw [if_neg hd,if_neg hd]
 have N0:∀x∈oi.op.operands,bS (ki ops tx ft S ops.size).ρ x=bS (tx i).ρ x:=by
  intro x hx
  cases x with
  | tmp t=>
   refine h1 t ?_
   unfold Oper.looksAt
   rw [Yy]
   left
   rw [List.mem_filterMap]
   exact⟨.tmp t,Zh.2 hx,rfl⟩
  | _=>rfl
 have N1:gS ops.toList (ki ops tx ft S ops.size).ρ oi=gS ops.toList (tx i).ρ oi:=by
  unfold gS
  cases hg:oi.guard with
  | none=>rfl
  | some g=>
   obtain⟨g,want⟩:=g
   simp only
   cases hq:(ops.toList[g]?).bind (·.dst) with
   | none=>rfl
   | some d=>
    simp only [Yj]
    rw [h1 d]
    unfold Oper.looksAt
    rw [Yy]
    right
    rw [hg]
    simp only
    have:(ops[g]?).bind (·.dst)=some d:=by simpa using hq
    rw [this]
    simp
 unfold mw
 rw [N1,hw]
 simp only [Yj]
 rw [Ld,rS]
 cases w with
 | false=>
  simp only [YA,if_false] at Ck ⊢
  rw [Ck.1,Ck.2]
  congr 1
  exact iD (tx i) _ {} _ _ rfl rfl
 | true=>
  simp only [if_true] at Ck ⊢
  obtain⟨Ck,M3⟩:=Ck
  unfold wS at Ck ⊢
  rw [DU N0,M3]
  rw [M3] at h2 h3 h4
  refine vU Ck h2 h3 h4 (fun oG d Ay=>tm fun t ht off he=>?_)
  rw [ZM] at ht
  obtain⟨V8,V9⟩:=ht
  have J0:t≠d:=by simpa [beq_nat] using V9
  obtain⟨l1,l2⟩:=T.QM i oi d ho (by rw [M3]; exact oG) Ay
  rcases y7 (ops:=ops) (tx:=tx) (ft:=ft) (S:=S) t ops.size with h | ⟨j,hj,hs,Wa,h⟩
  ·rw [h] at he
   exact l1 t V8 J0 off he
  ·rw [h] at he
   obtain⟨y,hy,Lc⟩:=Yk.1 Wa
   have hji:j≠i:=by rintro rfl; rw [hi] at hs; cases hs
   rcases l2 j y t hy hji with h5 | h5
   ·have:=T.down hc h5 hs; rw [hi] at this; cases this
   ·exact h5 Lc off he
theorem Cl (T:tl P cf aF ops tx ft ord)(kW:∀k,k<ops.size→S k=true):∀k,k≤ops.size→ki ops tx ft S k=tx k
 | 0,_=>rfl
 | k+1,hk=>by
  simp only [ki,kW k (by omega),if_true]
  rw [Cl T kW k (by omega)]
  exact (T.shift (by omega)).symm
def left (n:Nat)(S:Nat→Bool):Nat:=(List.range n).countP fun j=>!S j
theorem DW {n:Nat}{S:Nat→Bool}(h:left n S=0):∀k,k<n→S k=true:=by
 intro k hk
 unfold left at h
 rw [List.countP_eq_zero] at h
 simpa using h k (List.mem_range.2 hk)
theorem FC {n i:Nat}(hi:i<n){S S':Nat→Bool}(NX:S i=false)(DV:∀k,S' k=if k=i then true else S k):left n S'+1=left n S:=by
 unfold left
 have:∀m,(List.range m).countP (fun j=>!S' j)+(if i<m then 1 else 0)=(List.range m).countP fun j=>!S j:=by
  intro m
  induction m with
  | zero=>simp
  | succ m ih=>
   rw [List.range_succ,List.countP_append,List.countP_append]
   simp only [List.countP_cons,List.countP_nil]
   by_cases hm:m=i
   ·subst hm
    have h1:S' m=true:=by rw [DV]; simp
    rw [h1,NX]
    simp at ih ⊢
    omega
   ·have h1:S' m=S m:=by rw [DV,if_neg hm]
    rw [h1]
    by_cases T0:i<m
    ·have h3:i<m+1:=by omega
     simp only [T0,h3,if_true] at ih ⊢
     omega
    ·have h3:¬i<m+1:=by omega
     simp only [T0,h3,if_false] at ih ⊢
     omega
 have:=this n
 rw [if_pos hi] at this
 exact this
theorem Le (T:tl P cf aF ops tx ft ord)(hcf:CallOK P cf){L0:Nat→Prop}{c0:Cx}{n:Nat}(hb0:c0.base≤c0.w.heap.size)(yN:vT n ops.toList=true){Q:Exit→Act→World→Prop}
  (hQ:∀a' w',Inv L0 c0 n (ops.toList.filterMap (·.dst)) (tx ops.size) a' w'→Q .normal a' w') :
  ∀(fuel:Nat) (listed:Array Bool) (a:Act) (w:World),listed.size=ops.size→qy ops (fun j=>listed.getD j false)→left ops.size (fun j=>listed.getD j false)≤fuel→
   Inv L0 c0 n (ops.toList.filterMap (·.dst)) (ki ops tx ft (fun j=>listed.getD j false) ops.size) a w→wpAny P .any ops Q fuel listed a w:=by
 intro fuel
 have FD:∀(listed:Array Bool) a w,listed.size=ops.size→Region.ready .any ops listed=[]→Inv L0 c0 n (ops.toList.filterMap (·.dst)) (ki ops tx ft (fun j=>listed.getD j false) ops.size) a w→Q .normal a w:=by
  intro listed a w hsz M4 hi
  have kW:∀k,k<ops.size→listed.getD k false=true:=by
   intro k
   induction k using Nat.strongRecOn with
   | _ k ih=>
    intro hk
    cases hl:listed.getD k false with
    | true=>rfl
    | false=>
     have:k∈Region.ready .any ops listed:=mem_ready.2 ⟨getD_in (by omega) hl,ops[k],by simp [hk],fun e he hb=>by
      have:=T.back k ops[k] (by simp [hk]) e he hb
      exact ih e.on this (by omega)⟩
     rw [M4] at this
     cases this
  rw [Cl (S:=fun j=>listed.getD j false) T kW _ (Yn _)] at hi
  exact hQ a w hi
 induction fuel with
 | zero=>
  intro listed a w hsz hc hl hi
  have kW:=DW (Nat.le_zero.1 hl)
  have M4:Region.ready .any ops listed=[]:=by
   rw [List.eq_nil_iff_forall_not_mem]
   intro j hj
   obtain⟨h1,o,ho,_⟩:=mem_ready.1 hj
   have N2:j<ops.size:=(YT.1 ho).1
   have h2:=kW j N2
   have FE:j<listed.size:=by omega
   simp [FE] at h1 h2
   rw [h1] at h2; cases h2
  exact⟨M4,FD listed a w hsz M4 hi⟩
 | succ fuel ih=>
  intro listed a w hsz hc hl hi
  refine⟨fun M4=>FD listed a w hsz M4 hi,fun i xm=>?_⟩
  obtain⟨h1,o,ho,N3⟩:=mem_ready.1 xm
  have hin:i<ops.size:=(YT.1 ho).1
  have Bb:i<listed.size:=by omega
  have NX:listed.getD i false=false:=by simp [Bb] at h1 ⊢; exact h1
  have DV:∀k,(listed.setIfInBounds i true).getD k false=if k=i then true else listed.getD k false:=by
   intro k
   by_cases hk:k=i
   ·subst hk
    rw [if_pos rfl]
    simp [Bb]
   ·rw [if_neg hk,getD_set_ne false (ZB hk)]
  have hst:=T.next (S:=fun j=>listed.getD j false) (S':=fun k=>(listed.setIfInBounds i true).getD k false) hc ho N3 NX DV
  unfold wpOp
  rw [ho]
  simp only
  have N4:o∈ops.toList:=Zh.2 (Array.mem_of_getElem? ho)
  have:=yX (Q:=Q) (K:=wpAny P .any ops Q fuel (listed.setIfInBounds i true)) hcf hb0 rfl (yY yN N4) hst hi (fun a' w' lY=>by
   refine ih _ a' w' (by simpa using hsz) ?_ ?_ lY
   ·intro j oj QR hj e he hb
    dsimp only at hj ⊢
    rw [DV] at hj ⊢
    by_cases hji:j=i
    ·subst hji
     rw [ho] at QR
     cases QR
     have:=N3 e he hb
     rw [this]; simp
    ·rw [if_neg hji] at hj
     have:=hc j oj QR hj e he hb
     simp only at this
     rw [this]; simp
   ·have:=FC hin (S:=fun j=>listed.getD j false) NX DV
    omega)
  split
  ·rename_i hw; rw [if_pos hw] at this; exact .inl this
  ·rename_i hw; rw [if_neg hw] at this; exact this
theorem vW {opsL:List Oper}:∀(l:List Oper) (s r:RS) (es:List su),qn P cf aF opsL s l=some (es,r)→∃tx:Nat→RS,tx 0=s∧tx l.length=r∧
  ∀k o,l[k]? = some o→∃w,gS opsL (tx k).ρ o=some w∧(if w then wS P cf aF (opsL.filterMap (·.dst)) (tx k) o=some (tx (k+1)) else tx (k+1)=(tx k).set o.dst (.tup []))∧
   es[k]? = some {o,f:=if w then a8 aF (bS (tx k).ρ) o else {},s:=tx k,s':=tx (k+1)}
 | [],s,r,es,h=>by
  simp only [qn,Ym,Yr] at h
  obtain⟨rfl,rfl⟩:=h
  exact⟨fun _=>s,rfl,rfl,fun k o ho=>by simp at ho⟩
 | o::l,s,r,es,h=>by
  simp only [qn,Yk,Yl] at h
  obtain⟨w,hw,s1,h1,⟨rj,r'⟩,h2,h3⟩:=h
  simp only [Yr] at h3
  obtain⟨rfl,rfl⟩:=h3
  obtain⟨tx,t0,tn,ht⟩:=vW l s1 r' rj h2
  refine⟨fun | 0=>s | k+1=>tx k,rfl,tn,fun k o' ho=>?_⟩
  cases k with
  | zero=>
   simp only [Y1,Ym] at ho
   subst ho
   refine⟨w,hw,?_,?_⟩
   ·cases w with
    | true=>simpa [t0] using h1
    | false=>
     simp only [YA,if_false,Ym] at h1 ⊢
     rw [t0]; exact h1.symm
   ·simp [t0]
  | succ k=>
   obtain⟨w',h4,h5,h6⟩:=ht k o' (by simpa using ho)
   exact⟨w',h4,h5,by simpa using h6⟩
theorem FF {e:Operand→AV}{o:Oper}(h:(a8 aF e o).al=true):(a8 aF e o).wb.isSome=true:=by
 unfold a8 at h ⊢
 split at h<;>try (cases h; done)
 all_goals (split at h<;>try (cases h; done))
 all_goals (split at h<;>try (cases h; done))
 all_goals simp_all
theorem DX {k:Nat}{x:AV}(h:KJ k x=false):∀off,x≠.lp k off:=by
 rintro off rfl
 simp [KJ] at h
theorem FG (hm:P.follows .mixedOrders=true)(hcf:CallOK P cf)(Wb:SteadyF cf):Ba P cf:=by
 intro L0 c0 n aF id ops s s' h hb0 yN a w Q hi hQ
 unfold lG at h
 dsimp only at h
 split at h
 rotate_left
 ·cases h
 rename_i xn
 rw [Yk] at h
 obtain⟨⟨es,r⟩,AT,h⟩:=h
 simp only at h
 split at h
 rotate_left
 ·cases h
 rename_i y8
 cases h
 obtain⟨tx,t0,tn,ht⟩:=vW ops.toList s s' es AT
 generalize Nv:jV [] ops.toList=ms at xn y8
 have QS:∀k i,(ms.getD i 0).testBit k=true→∃o,ops[i]? = some o∧∃e∈o.after,Region.binds .any e=true∧(e.on=k∨(ms.getD e.on 0).testBit k=true):=by
  intro k i hk
  obtain⟨o,ho,e,he,hb,h1⟩:=(rC ops.toList []).2 i k (by rw [Nv]; exact hk) (by simp)
  refine⟨o,by simpa using ho,e,Zh.1 he,hb,?_⟩
  rw [Nv] at h1
  exact h1
 unfold qm at xn
 simp only [Yo] at xn
 obtain⟨Lg,FH⟩:=xn
 let ft:Nat→kL:=fun k=>((es[k]?).map (·.f)).getD {}
 have s5:∀k o,ops[k]? = some o→∃w,gS ops.toList (tx k).ρ o=some w∧(if w then wS P cf aF (ops.toList.filterMap (·.dst)) (tx k) o=some (tx (k+1)) else tx (k+1)=(tx k).set o.dst (.tup []))∧
   es[k]? = some {o,f:=ft k,s:=tx k,s':=tx (k+1)}∧ft k=if w then a8 aF (bS (tx k).ρ) o else {}:=by
  intro k o ho
  obtain⟨w,h1,h2,h3⟩:=ht k o (by simpa using ho)
  have M3:ft k=if w then a8 aF (bS (tx k).ρ) o else {}:=by simp only [ft,h3,Yp,Zi]
  exact⟨w,h1,h2,by rw [M3]; exact h3,M3⟩
 have xm:∀k o,ops[k]? = some o→((⟨o,ft k,tx k,tx (k+1)⟩:su),k)∈es.zipIdx:=by
  intro k o ho
  obtain⟨w,_,_,h3,_⟩:=s5 k o ho
  exact List.mk_mem_zipIdx_iff_getElem?.2 h3
 simp only [YK,ZM,Yo] at y8
 have Av:∀k o,ops[k]? = some o→(ft k).quiet=false→(((⟨o,ft k,tx k,tx (k+1)⟩:su),k)∈es.zipIdx∧(!(ft k).quiet)=true):=fun k o ho hq=>⟨xm k o ho,by rw [hq]; rfl⟩
 have KK:∀k,k<ops.size→ops[k]? = some ops[k]!:=fun k hk=>by simp [hk]
 have Lh:∀i j x y,ops[i]? = some x→ops[j]? = some y→i≠j→(ft i).quiet=false→(ft j).quiet=false→(ms.getD j 0).testBit i=true∨(ms.getD i 0).testBit j=true∨
   su.qi ⟨x,ft i,tx i,tx (i+1)⟩ ⟨y,ft j,tx j,tx (j+1)⟩=true:=by
  intro i j x y hx hy y6 Ip Iq
  rcases Nat.lt_or_ge i j with hlt | hge
  ·have:=(y8 _ (Av i x hx Ip)).2 _ (Av j y hy Iq)
   simp only [Za,Yo] at this
   rcases this with (h1 | h1) | h1
   ·have:=Nat.le_of_ble_eq_true h1; omega
   ·exact .inl h1
   ·exact .inr (.inr h1.1)
  ·have:=(y8 _ (Av j y hy Iq)).2 _ (Av i x hx Ip)
   simp only [Za,Yo] at this
   rcases this with (h1 | h1) | h1
   ·have:=Nat.le_of_ble_eq_true h1; omega
   ·exact .inr (.inl h1)
   ·exact .inr (.inr h1.2)
 have QT:∀id,(tx 0).h.ver id<(tx 0).h.next:=by
  obtain⟨_,c,Lo,lam,_,f,_⟩:=hi
  rw [t0,←f.h]; exact f.rel.ver
 have hst:∀k,k<ops.size→Steady (tx k).h (tx (k+1)).h:=by
  intro k hk
  obtain⟨w,h1,h2,_⟩:=s5 k _ (KK k hk)
  cases w with
  | true=>exact tk Wb (by simpa [wS] using h2)
  | false=>
   simp only [YA,if_false] at h2
   rw [h2,jx]; exact Steady.refl _
 have PO:∀k,k≤ops.size→∀id,(tx k).h.ver id<(tx k).h.next:=by
  intro k
  induction k with
  | zero=>intro _; exact QT
  | succ k ih=>intro hk; exact (hst k (by omega)).wf (ih (by omega))
 have T:tl P cf aF ops tx ft (fun k i=>(ms.getD i 0).testBit k=true):=by
  refine⟨fun k o ho=>?_,QS,fun i o ho e he hb=>?_,fun i j x y y6 hx hy=>?_,fun i j hin N2 y6=>?_,fun i o d ho oG hd=>?_⟩
  ·obtain⟨w,h1,h2,h3,h4⟩:=s5 k o ho
   refine⟨w,h1,?_⟩
   cases w with
   | true=>exact⟨h2,h4⟩
   | false=>exact⟨h2,h4⟩
  ·have:=oY _ 0 Lg i o (by simpa using ho) e (Zh.2 he) hb
   omega
  ·have jS:∀x y:Oper,wT ops x y=true→∀d,x.dst=some d→d∉y.looksAt ops∧y.dst≠some d:=by
    intro x y h d hd
    unfold wT at h
    rw [hd] at h
    simpa using h
   rcases Nat.lt_or_ge i j with hlt | hge
   ·have:=kF _ _ 0 FH i j x y hlt (by simpa using hx) (by simpa using hy)
    simp only [YG,Za,Yo] at this
    rcases this with h1 | h1
    ·exact .inl h1
    ·exact .inr (.inr (jS _ _ h1.1))
   ·have:=kF _ _ 0 FH j i y x (by omega) (by simpa using hy) (by simpa using hx)
    simp only [YG,Za,Yo] at this
    rcases this with h1 | h1
    ·exact .inr (.inl h1)
    ·exact .inr (.inr (jS _ _ h1.2))
  ·cases Ip:(ft i).quiet with
   | true=>
    unfold kL.quiet at Ip
    simp only [Yo,Option.isNone_iff_eq_none,ZF] at Ip
    exact .inr (.inr ⟨fun k hk=>(by rw [Ip.1.1.2] at hk; cases hk),fun hk=>(by rw [Ip.2] at hk; cases hk)⟩)
   | false=>
    cases Iq:(ft j).quiet with
    | true=>
     unfold kL.quiet at Iq
     simp only [Yo,Option.isNone_iff_eq_none,ZF,List.isEmpty_iff] at Iq
     obtain⟨⟨⟨q1,q2⟩,q3⟩,q4⟩:=Iq
     exact .inr (.inr ⟨fun k hk=>⟨by rw [q1]; simp,by rw [q2]; simp⟩,fun hk=>⟨q4,by rw [q3]; simp⟩⟩)
    | false=>
     rcases Lh i j _ _ (KK i hin) (KK j N2) y6 Ip Iq with h1 | h1 | h1
     ·exact .inl h1
     ·exact .inr (.inl h1)
     ·refine .inr (.inr ?_)
      unfold su.qi at h1
      simp only [Yo,Za,ZF,YK] at h1
      obtain⟨h2,h3⟩:=h1
      refine⟨fun k hk=>?_,fun hk=>?_⟩
      ·rw [hk] at h2
       simpa using h2
      ·rcases h3 with h3 | h3
       ·rw [hk] at h3; cases h3
       ·refine⟨h3.1,fun id hid=>?_⟩
        have hv:=ZA (h3.2 id hid)
        rcases (hst i hin).gz id with⟨_,h5⟩| h5
        ·exact h5.symm
        ·have:=PO i (by omega) id; omega
  ·obtain⟨w,h1,h2,h3,h4⟩:=s5 i o ho
   have hq:(ft i).quiet=false:=by
    cases w with
    | false=>rw [h4] at oG; cases oG
    | true=>
     rw [h4] at oG ⊢
     have:=FF oG
     unfold kL.quiet
     simp only [if_true] at this ⊢
     cases hwb:(a8 aF (bS (tx i).ρ) o).wb with
     | none=>rw [hwb] at this; cases this
     | some k=>simp
   have:=(y8 _ (Av i o ho hq)).1
   unfold wU at this
   simp only [oG,hd] at this
   simp only [Yo,YK,Za] at this
   obtain⟨k1,k2⟩:=this
   refine⟨fun t ht J0 off=>?_,fun j y t hy hji=>?_⟩
   ·rw [t0]
    exact qp k1 t (by rw [ZM]; exact⟨ht,by simpa [beq_nat] using J0⟩) off
   ·have:=k2 _ (xm j y hy)
    rcases this with (h5 | h5) | h5
    ·have:=ZA h5; omega
    ·exact .inl h5
    ·right
     intro Lc off
     simp only [su.out,Lc,ZF] at h5
     exact DX h5 off
 have hlen:tx ops.size=s':=by simpa using tn
 refine wp_region_any hm ?_
 refine Le T hcf hb0 yN (fun a' w' lY=>hQ a' w' (by rw [hlen] at lY; exact lY)) ops.size _ _ _ (by simp) ?_ ?_ ?_
 ·intro j o _ hj
  simp only [getD_replicate_false] at hj
  cases hj
 ·unfold left
  exact Y0 (List.countP_le_length) (by simp)
 ·have Fq:∀k,ki ops tx ft (fun j=>(Array.replicate ops.size false).getD j false) k=tx 0:=by
   intro k
   induction k with
   | zero=>rfl
   | succ k ih=>
    rw [ki,getD_replicate_false,if_neg (by simp)]
    exact ih
  rw [Fq,t0]
  exact hi.drew
end
end Go.R
namespace Go.R
open Go
section
variable {c d:Cx}{L L':Nat→Prop}
mutual
theorem Cn (hw:d.w=c.w)(hbs:d.base≤c.base)(lM:∀b,RO c L b→RO d L' b):∀(x:AV) (v:Value),x.dX=true→VR c L x v→VR d L' x v
 | .any,_,h,_=>by simp [AV.dX] at h
 | .bool _,_,_,h=>h
 | .int _ _,_,_,h=>h
 | .str _,_,_,h=>h
 | .rO,_,_,h=>h
 | .ptr _ _,_,h,_=>by simp [AV.dX] at h
 | .lp _ _,_,h,_=>by simp [AV.dX] at h
 | .fp cs off,v,h,hv=>by
  simp only [AV.dX] at h
  simp only [VR] at hv ⊢
  obtain⟨b,o,rfl,hc⟩:=hv
  exact⟨b,o,rfl,hc.imp id fun ⟨hr,hc⟩=>⟨lM b hr,oe hw hbs lM cs b o h hc⟩⟩
 | .nils,_,_,h=>h
 | .fz cs n ex,v,h,hv=>by
  simp only [AV.dX] at h
  simp only [VR] at hv ⊢
  obtain⟨a,cap,rfl,h1,h2,hs,hc⟩:=hv
  exact⟨a,cap,rfl,h1,h2,hs,hc.imp id fun ⟨b,o,ha,hr,hex,hc⟩=>⟨b,o,ha,lM b hr,fun h=>Y0 hbs (hex h),oe hw hbs lM cs b o h hc⟩⟩
 | .rs _ _ _ _,_,h,_=>by simp [AV.dX] at h
 | .nT,_,_,h=>h
 | .mp _,_,h,_=>by simp [AV.dX] at h
 | .fn f cap,v,h,hv=>by
  simp only [AV.dX] at h
  simp only [VR] at hv ⊢
  obtain⟨vs,rfl,h1⟩:=hv
  exact⟨vs,rfl,pb hw hbs lM cap vs.toList h h1⟩
 | .sP,_,_,h=>h
 | .agg cs,v,h,hv=>by
  simp only [AV.dX] at h
  simp only [VR] at hv ⊢
  obtain⟨vs,rfl,h1⟩:=hv
  exact⟨vs,rfl,pb hw hbs lM cs vs.toList h h1⟩
 | .tup cs,v,h,hv=>by
  simp only [AV.dX] at h
  simp only [VR] at hv ⊢
  obtain⟨vs,rfl,h1⟩:=hv
  exact⟨vs,rfl,pb hw hbs lM cs vs.toList h h1⟩
theorem pb (hw:d.w=c.w)(hbs:d.base≤c.base)(lM:∀b,RO c L b→RO d L' b):∀(xs:List AV) (vs:List Value),cL xs=true→VRs c L xs vs→VRs d L' xs vs
 | [],[],_,_=>trivial
 | x::xs,v::vs,h,hv=>by
  simp only [cL,Yo] at h
  exact⟨Cn hw hbs lM x v h.1 hv.1,pb hw hbs lM xs vs h.2 hv.2⟩
 | [],_::_,_,h=>h.elim
 | _::_,[],_,h=>h.elim
theorem oe (hw:d.w=c.w)(hbs:d.base≤c.base)(lM:∀b,RO c L b→RO d L' b):∀(xs:List AV) (b o:Nat),cL xs=true→Cells c L xs b o→Cells d L' xs b o
 | [],_,_,_,_=>trivial
 | x::xs,b,o,h,hv=>by
  simp only [cL,Yo] at h
  obtain⟨⟨v,h1,h2,h3⟩,h4⟩:=hv
  exact⟨⟨v,by rw [hw]; exact h1,h2,Cn hw hbs lM x v h.1 h3⟩,oe hw hbs lM xs b (o+1) h.2 h4⟩
end
mutual
theorem xo (hw:d.w=c.w)(lM:∀b,RO c L b→RO d L' b):∀(x:AV) (v:Value),x.dX=true→VR c L x v→VR d L' x.kj v
 | .any,_,h,_=>by simp [AV.dX] at h
 | .bool _,_,_,h=>h
 | .int _ _,_,_,h=>h
 | .str _,_,_,h=>h
 | .rO,_,_,h=>h
 | .ptr _ _,_,h,_=>by simp [AV.dX] at h
 | .lp _ _,_,h,_=>by simp [AV.dX] at h
 | .fp cs off,v,h,hv=>by
  simp only [AV.dX] at h
  simp only [VR,AV.kj] at hv ⊢
  obtain⟨b,o,rfl,hc⟩:=hv
  refine⟨b,o,rfl,?_⟩
  rcases hc with rfl | ⟨hr,hc⟩
  ·exact .inl rfl
  ·exact .inr ⟨lM b hr,qz hw lM cs b o h hc⟩
 | .nils,v,_,h=>by
  simp only [VR] at h
  simp only [AV.kj,VR]
  exact⟨none,0,h,Yn _,by simp,.inr ⟨trivial,rfl⟩,.inl trivial⟩
 | .fz cs n ex,v,h,hv=>by
  simp only [AV.dX] at h
  simp only [VR,AV.kj] at hv ⊢
  obtain⟨a,cap,rfl,h1,h2,hs,hc⟩:=hv
  refine⟨a,cap,rfl,h1,by simp,hs.imp id fun h=>⟨by rw [h.1]; rfl,h.2⟩,?_⟩
  rcases hc with rfl | ⟨b,o,ha,hr,hex,hc⟩
  ·exact .inl rfl
  ·exact .inr ⟨b,o,ha,lM b hr,by simp,qz hw lM cs b o h hc⟩
 | .rs _ _ _ _,_,h,_=>by simp [AV.dX] at h
 | .nT,_,_,h=>h
 | .mp _,_,h,_=>by simp [AV.dX] at h
 | .fn f cap,v,h,hv=>by
  simp only [AV.dX] at h
  simp only [VR,AV.kj] at hv ⊢
  obtain⟨vs,rfl,h1⟩:=hv
  exact⟨vs,rfl,pc hw lM cap vs.toList h h1⟩
 | .sP,_,_,h=>h
 | .agg cs,v,h,hv=>by
  simp only [AV.dX] at h
  simp only [VR,AV.kj] at hv ⊢
  obtain⟨vs,rfl,h1⟩:=hv
  exact⟨vs,rfl,pc hw lM cs vs.toList h h1⟩
 | .tup cs,v,h,hv=>by
  simp only [AV.dX] at h
  simp only [VR,AV.kj] at hv ⊢
  obtain⟨vs,rfl,h1⟩:=hv
  exact⟨vs,rfl,pc hw lM cs vs.toList h h1⟩
theorem pc (hw:d.w=c.w)(lM:∀b,RO c L b→RO d L' b):∀(xs:List AV) (vs:List Value),cL xs=true→VRs c L xs vs→VRs d L' (dB xs) vs
 | [],[],_,_=>trivial
 | x::xs,v::vs,h,hv=>by
  simp only [cL,Yo] at h
  exact⟨xo hw lM x v h.1 hv.1,pc hw lM xs vs h.2 hv.2⟩
 | [],_::_,_,h=>h.elim
 | _::_,[],_,h=>h.elim
theorem qz (hw:d.w=c.w)(lM:∀b,RO c L b→RO d L' b):∀(xs:List AV) (b o:Nat),cL xs=true→Cells c L xs b o→Cells d L' (dB xs) b o
 | [],_,_,_,_=>trivial
 | x::xs,b,o,h,hv=>by
  simp only [cL,Yo] at h
  obtain⟨⟨v,h1,h2,h3⟩,h4⟩:=hv
  exact⟨⟨v,by rw [hw]; exact h1,h2,xo hw lM x v h.1 h3⟩,qz hw lM xs b (o+1) h.2 h4⟩
end
mutual
theorem qA (hw:d.w=c.w)(lM:∀b,RO c L b→RO d L' b)(hrel:HRel c L)(hid:∀id,Live c.h id→RO d L' (c.β id).1):∀(n:Nat) (x y:AV) (v:Value),cq c.h n x=some y→VR c L x v→VR d L' y v
 | 0,x,y,v,h,_=>by simp [cq] at h
 | n+1,x,y,v,h,hv=>by
  have QU:(if x.dX then some x.kj else none)=some y→VR d L' y v:=by
   intro h
   split at h
   ·rename_i hn; cases h; exact xo hw lM x v hn hv
   ·cases h
  cases x with
  | ptr id off=>
   simp only [cq,Yk] at h
   obtain⟨ob,ho,h⟩:=h
   cases ob with
   | map es=>cases h
   | row t cs=>cases h
   | cells cs=>
    simp only [Yl] at h
    obtain⟨fF,hcs,rfl⟩:=h
    have hl:Live c.h id:=⟨hrel.lt _ _ ho,by simp [ho]⟩
    obtain⟨m,_,_,hc⟩:=hrel.obj _ _ ho
    simp only [VR] at hv ⊢
    obtain⟨_,a,rfl,ha⟩:=hv
    rw [ha hl]
    exact⟨_,_,rfl,.inr ⟨hid id hl,kb hw lM hrel hid n cs fF _ _ hcs hc⟩⟩
  | rs id off len jc=>
   simp only [cq] at h
   split at h
   ·rename_i hid
    split at h
    rotate_left
    ·cases h
    rename_i hl0
    cases h
    simp only [VR] at hv ⊢
    rcases hv with⟨_,_,_,a,rfl⟩| hv
    ·exact⟨a,0,rfl,Yn _,by simp,.inr ⟨trivial,rfl⟩,.inl trivial⟩
    ·exact absurd hid hv.1
   rename_i kS
   rw [Yk] at h
   obtain⟨ob,ho,h⟩:=h
   cases ob with
   | map es=>cases h
   | row t cs=>cases h
   | cells cs=>
    simp only at h
    split at h
    rotate_left
    ·cases h
    rename_i hle
    simp only [Yl] at h
    obtain⟨fF,hcs,rfl⟩:=h
    have hl:Live c.h id:=⟨hrel.lt _ _ ho,by simp [ho]⟩
    obtain⟨m,_,_,hc⟩:=hrel.obj _ _ ho
    simp only [VR] at hv ⊢
    rcases hv with hv | ⟨_,_,a,cap,rfl,h1,h2,h3⟩
    ·exact absurd hv.1 kS
    refine⟨a,cap,rfl,h1,by simp,.inl h2,?_⟩
    rcases h3 hl with⟨h4,_⟩| h4
    ·exact .inr ⟨_,_,h4,hid id hl,by simp,kb hw lM hrel hid n _ fF _ _ hcs ((hc.drop off).take (len*jc))⟩
    ·left
     have hz:len=0:=by omega
     subst hz
     rw [Nat.zero_mul,List.take_zero] at hcs
     cases n with
     | zero=>simp [bO] at hcs
     | succ n=>simp only [bO,Ym] at hcs; exact hcs.symm
  | agg cs=>
   simp only [cq,Yl] at h
   obtain⟨fF,hcs,rfl⟩:=h
   simp only [VR] at hv ⊢
   obtain⟨vs,rfl,h1⟩:=hv
   exact⟨vs,rfl,kr hw lM hrel hid n cs fF vs.toList hcs h1⟩
  | tup cs=>
   simp only [cq,Yl] at h
   obtain⟨fF,hcs,rfl⟩:=h
   simp only [VR] at hv ⊢
   obtain⟨vs,rfl,h1⟩:=hv
   exact⟨vs,rfl,kr hw lM hrel hid n cs fF vs.toList hcs h1⟩
  | _=>exact QU (by simpa only [cq] using h)
theorem kr (hw:d.w=c.w)(lM:∀b,RO c L b→RO d L' b)(hrel:HRel c L)(hid:∀id,Live c.h id→RO d L' (c.β id).1):∀(n:Nat) (xs ys:List AV) (vs:List Value),bO c.h n xs=some ys→VRs c L xs vs→VRs d L' ys vs
 | 0,xs,ys,vs,h,_=>by simp [bO] at h
 | n+1,[],ys,vs,h,hv=>by
  simp only [bO,Ym] at h
  subst h
  cases vs with
  | nil=>trivial
  | cons v vs=>exact hv.elim
 | n+1,x::xs,ys,vs,h,hv=>by
  simp only [bO,Yk,Yl] at h
  obtain⟨y,hy,zs,hz,rfl⟩:=h
  cases vs with
  | nil=>exact hv.elim
  | cons v vs=>exact⟨qA hw lM hrel hid n x y v hy hv.1,kr hw lM hrel hid n xs zs vs hz hv.2⟩
theorem kb (hw:d.w=c.w)(lM:∀b,RO c L b→RO d L' b)(hrel:HRel c L)(hid:∀id,Live c.h id→RO d L' (c.β id).1):∀(n:Nat) (xs ys:List AV) (b o:Nat),bO c.h n xs=some ys→Cells c L xs b o→Cells d L' ys b o
 | 0,xs,ys,b,o,h,_=>by simp [bO] at h
 | n+1,[],ys,b,o,h,hv=>by
  simp only [bO,Ym] at h
  subst h
  trivial
 | n+1,x::xs,ys,b,o,h,hv=>by
  simp only [bO,Yk,Yl] at h
  obtain⟨y,hy,zs,hz,rfl⟩:=h
  obtain⟨⟨v,h1,h2,h3⟩,h4⟩:=hv
  exact⟨⟨v,by rw [hw]; exact h1,h2,qA hw lM hrel hid n x y v hy h3⟩,kb hw lM hrel hid n xs zs b (o+1) hz h4⟩
end
mutual
theorem og (hw:d.w=c.w)(hrel:HRel c L)(hid:∀id,Live c.h id→RO d L' (c.β id).1):∀(n:Nat) (x y:AV) (v:Value),fM c.h n x=some y→VR c L x v→VR d L' y v
 | 0,x,y,v,h,_=>by simp [fM] at h
 | n+1,x,y,v,h,hv=>by
  unfold fM at h
  split at h
  ·cases h; exact hv
  ·cases h; exact hv
  ·cases h; exact hv
  ·cases h; exact hv
  ·cases h; exact hv
  ·cases h; exact hv
  ·cases h
   simp only [VR] at hv ⊢
   exact⟨none,0,hv,Yn _,by simp,.inr ⟨trivial,rfl⟩,.inl trivial⟩
  ·cases h
   simp only [VR] at hv ⊢
   obtain⟨a,cap,rfl,h1,h2,hs,_⟩:=hv
   exact⟨a,cap,rfl,h1,by simp,hs,.inl trivial⟩
  ·rename_i id off len jc
   split at h
   ·rename_i kS
    split at h
    rotate_left
    ·cases h
    rename_i hl0
    cases h
    simp only [VR] at hv ⊢
    rcases hv with⟨_,_,_,a,rfl⟩| hv
    ·exact⟨a,0,rfl,Yn _,by simp,.inr ⟨trivial,rfl⟩,.inl trivial⟩
    ·exact absurd kS hv.1
   rename_i kS
   rw [Yk] at h
   obtain⟨ob,ho,h⟩:=h
   cases ob with
   | map es=>cases h
   | row t cs=>cases h
   | cells cs=>
    simp only at h
    split at h
    rotate_left
    ·cases h
    rename_i hle
    simp only [Yl] at h
    obtain⟨fF,hcs,rfl⟩:=h
    have hl:Live c.h id:=⟨hrel.lt _ _ ho,by simp [ho]⟩
    obtain⟨m,_,_,hc⟩:=hrel.obj _ _ ho
    simp only [VR] at hv ⊢
    rcases hv with hv | ⟨_,_,a,cap,rfl,h1,h2,h3⟩
    ·exact absurd hv.1 kS
    refine⟨a,cap,rfl,h1,by simp,.inl h2,?_⟩
    rcases h3 hl with⟨h4,_⟩| h4
    ·exact .inr ⟨_,_,h4,hid id hl,by simp,lZ hw hrel hid n _ fF _ _ hcs ((hc.drop off).take (len*jc))⟩
    ·left
     have hz:len=0:=by omega
     subst hz
     rw [Nat.zero_mul,List.take_zero] at hcs
     cases n with
     | zero=>simp [db] at hcs
     | succ n=>simp only [db,Ym] at hcs; exact hcs.symm
  ·rename_i cs
   simp only [Yl] at h
   obtain⟨fF,hcs,rfl⟩:=h
   simp only [VR] at hv ⊢
   obtain⟨vs,rfl,h1⟩:=hv
   exact⟨vs,rfl,mH hw hrel hid n cs fF vs.toList hcs h1⟩
  ·rename_i cs
   simp only [Yl] at h
   obtain⟨fF,hcs,rfl⟩:=h
   simp only [VR] at hv ⊢
   obtain⟨vs,rfl,h1⟩:=hv
   exact⟨vs,rfl,mH hw hrel hid n cs fF vs.toList hcs h1⟩
  ·cases h
theorem mH (hw:d.w=c.w)(hrel:HRel c L)(hid:∀id,Live c.h id→RO d L' (c.β id).1):∀(n:Nat) (xs ys:List AV) (vs:List Value),db c.h n xs=some ys→VRs c L xs vs→VRs d L' ys vs
 | 0,xs,ys,vs,h,_=>by simp [db] at h
 | n+1,[],ys,vs,h,hv=>by
  simp only [db,Ym] at h
  subst h
  cases vs with
  | nil=>trivial
  | cons v vs=>exact hv.elim
 | n+1,x::xs,ys,vs,h,hv=>by
  simp only [db,Yk,Yl] at h
  obtain⟨y,hy,zs,hz,rfl⟩:=h
  cases vs with
  | nil=>exact hv.elim
  | cons v vs=>exact⟨og hw hrel hid n x y v hy hv.1,mH hw hrel hid n xs zs vs hz hv.2⟩
theorem lZ (hw:d.w=c.w)(hrel:HRel c L)(hid:∀id,Live c.h id→RO d L' (c.β id).1):∀(n:Nat) (xs ys:List AV) (b o:Nat),db c.h n xs=some ys→Cells c L xs b o→Cells d L' ys b o
 | 0,xs,ys,b,o,h,_=>by simp [db] at h
 | n+1,[],ys,b,o,h,hv=>by
  simp only [db,Ym] at h
  subst h
  trivial
 | n+1,x::xs,ys,b,o,h,hv=>by
  simp only [db,Yk,Yl] at h
  obtain⟨y,hy,zs,hz,rfl⟩:=h
  obtain⟨⟨v,h1,h2,h3⟩,h4⟩:=hv
  exact⟨⟨v,by rw [hw]; exact h1,h2,og hw hrel hid n x y v hy h3⟩,lZ hw hrel hid n xs zs b (o+1) hz h4⟩
end
end
section
variable {P:Program}
theorem IV {cf:CallF}(hcf:CallOK P cf)(deep:Nat):CallOK P fun f args h=>if cL args then (cf f (dB args) bH).bind fun x=>(cq x.2 deep x.1).map fun r=>(r,h) else cf f args h:=by
 intro f args h r h' hc
 dsimp only at hc
 split at hc
 rotate_left
 ·exact hcf f args h r h' hc
 rename_i rT
 rw [Yk] at hc
 obtain⟨⟨x,h1⟩,hx,hc⟩:=hc
 rw [Yl] at hc
 obtain⟨r',hr,he⟩:=hc
 simp only [Yr] at he
 obtain⟨rfl,rfl⟩:=he
 obtain⟨hin,hcall⟩:=hcf f (dB args) bH x h1 hx
 refine⟨hin,fun L0 c vs hh hb0 hrel hargs=>?_⟩
 let L1:Nat→Prop:=fun b=>L0 b∨∃id,Live c.h id∧(c.β id).1=b
 let c0:Cx:=⟨fun _=>(0,0),bH,c.w,c.w.heap.size⟩
 have hnl:∀id,¬Live c0.h id:=fun id hl=>by have:=hl.2; cases this
 have Li:∀b,RO c L0 b→RO c0 L1 b:=fun b hb=>⟨fun id hl=>absurd hl (hnl id),fun h=>by
  rcases h with h | ⟨id,h1,h2⟩
  ·exact hb.2 h
  ·exact hb.1 id h1 h2⟩
 have FI:HRel c0 L1:=⟨fun id o ho=>(by cases ho),fun id o ho=>(by cases ho),fun id _ hl _ _=>absurd hl (hnl id),fun id hl=>absurd hl (hnl id),fun b hb=>by
  rcases hb with h | ⟨id,h1,h2⟩
  ·exact hrel.bd b h
  ·rw [←h2]; exact hrel.block h1,fun id hl=>absurd hl (hnl id),fun _=>Nat.zero_lt_one⟩
 refine (hcall L1 c0 vs rfl (Yn _) FI (pc (c:=c) (d:=c0) rfl Li _ _ rT hargs)).mono ?_
 rintro e w' ⟨c1,v,rfl,rfl,QV,hv,hrel1,e1⟩
 let d:Cx:=⟨c.β,c.h,c1.w,c.base⟩
 have hk:∀b,b<c.w.heap.size→c1.w.heap[b]? = c.w.heap[b]?:=fun b hb=>e1.exact b hb
 have ed:Ext c none0 d none0:=⟨Yn _,fun id _ hl=>⟨hl,rfl,iO.len (c:=c) (c':=d) (.inl (hk _ (hrel.block hl)))⟩,e1.size,fun b hb _ _=>.inl (hk b hb),fun b hb=>hk b (YN hb hb0),rfl,fun id hl=>.inr ⟨id,hl,rfl⟩,fun _ h=>h,fun _ h=>.inl h,e1.os,e1.tape,e1.output⟩
 have hb1:d.base≤c1.base:=by rw [e1.base]; exact hb0
 have QX:∀b,RO c1 L1 b→RO d L0 b:=fun b hb=>⟨fun id hl he=>hb.2 (.inr ⟨id,hl,he⟩),fun h=>hb.2 (.inl h)⟩
 refine⟨d,v,rfl,rfl,hh,?_,⟨hrel.lt,fun id o ho=>?_,hrel.inj,hrel.out,fun b hb=>YN (hrel.bd b hb) e1.size,hrel.low,hrel.ver⟩,ed⟩
 ·refine qA (c:=c1) (d:=d) (L:=L1) rfl QX hrel1 (fun id hl=>⟨fun oM vI he=>hrel1.out id hl (.inr ⟨oM,vI,he⟩),fun h=>hrel1.out id hl (.inl h)⟩) deep x r' v ?_ hv
  rw [QV]; exact hr
 ·have hl:Live c.h id:=⟨hrel.lt _ _ ho,by rw [ho]; rfl⟩
  have:=(hrel.obj id o ho)
  have h2:=rQ.ext (L0:=L0) ed (b:=(c.β id).1) (base:=(c.β id).2) (o:=o) (by rw [kX]; exact this) (hk _ (hrel.block hl))
  rw [kX] at h2
  exact h2
theorem pd {c:Cx}{L:Nat→Prop}:∀{xs:List AV} {vs:List Value},VRs c L xs vs→VRs c L (xs.map ay) vs
 | [],[],_=>trivial
 | x::_,_::_,h=>⟨by
   unfold ay
   cases hn:x.dX with
   | false=>exact h.1
   | true=>exact xo rfl (fun _ h=>h) x _ hn h.1,pd h.2⟩
 | [],_::_,h=>h.elim
 | _::_,[],h=>h.elim
theorem y9 {cf:CallF}(hcf:CallOK P cf):CallOK P fun f args h=>cf f (args.map ay) h:=by
 intro f args h r h' hc
 obtain⟨h1,h2⟩:=hcf f _ h r h' hc
 exact⟨h1,fun L0 c vs hh hb0 hrel hargs=>h2 L0 c vs hh hb0 hrel (pd hargs)⟩
theorem IW {cf:CallF}(hcf:CallOK P cf)(deep:Nat):CallOK P fun f args h=>(bO h deep args).bind fun as=>(cf f as bH).bind fun x=>(fM x.2 deep x.1).map fun r=>(r,h):=by
 intro f args h r h' hc
 dsimp only at hc
 simp only [Yk,Yl,Yr] at hc
 obtain⟨as,has,⟨x,h1⟩,hx,r',hr,rfl,rfl⟩:=hc
 obtain⟨hin,hcall⟩:=hcf f as bH x h1 hx
 refine⟨hin,fun L0 c vs hh hb0 hrel hargs=>?_⟩
 let c0:Cx:=⟨fun _=>(0,0),bH,c.w,c.w.heap.size⟩
 have hnl:∀id,¬Live c0.h id:=fun id hl=>by have:=hl.2; cases this
 have Li:∀b,RO c L0 b→RO c0 L0 b:=fun b hb=>⟨fun id hl=>absurd hl (hnl id),hb.2⟩
 have FI:HRel c0 L0:=⟨fun id o ho=>(by cases ho),fun id o ho=>(by cases ho),fun id _ hl _ _=>absurd hl (hnl id),fun id hl=>absurd hl (hnl id),hrel.bd,fun id hl=>absurd hl (hnl id),fun _=>Nat.zero_lt_one⟩
 have Lj:VRs c0 L0 as vs:=kr (c:=c) (d:=c0) rfl Li hrel (fun id hl=>⟨fun oM vI=>absurd vI (hnl oM),hrel.out id hl⟩) deep args as vs (by rw [hh]; exact has) hargs
 refine (hcall L0 c0 vs rfl (Yn _) FI Lj).mono ?_
 rintro e w' ⟨c1,v,rfl,rfl,QV,hv,hrel1,e1⟩
 let d:Cx:=⟨c.β,c.h,c1.w,c.base⟩
 have hk:∀b,b<c.w.heap.size→c1.w.heap[b]? = c.w.heap[b]?:=fun b hb=>e1.exact b hb
 have ed:Ext c none0 d none0:=⟨Yn _,fun id _ hl=>⟨hl,rfl,iO.len (c:=c) (c':=d) (.inl (hk _ (hrel.block hl)))⟩,e1.size,fun b hb _ _=>.inl (hk b hb),fun b hb=>hk b (YN hb hb0),rfl,fun id hl=>.inr ⟨id,hl,rfl⟩,fun _ h=>h,fun _ h=>.inl h,e1.os,e1.tape,e1.output⟩
 refine⟨d,v,rfl,rfl,hh,?_,⟨hrel.lt,fun id o ho=>?_,hrel.inj,hrel.out,fun b hb=>YN (hrel.bd b hb) e1.size,hrel.low,hrel.ver⟩,ed⟩
 ·refine og (c:=c1) (d:=d) (L:=L0) rfl hrel1 (fun id hl=>⟨fun oM vI he=>?_,hrel1.out id hl⟩) deep x r' v ?_ hv
  ·rcases e1.JX id hl with h2 | ⟨rl,h2,_⟩
   ·have:=hrel.block vI
    have h3:(c.β oM).1=(c1.β id).1:=he
    have h4:c.w.heap.size≤(c1.β id).1:=h2
    omega
   ·exact absurd h2 (hnl rl)
  ·rw [QV]; exact hr
 ·have hl:Live c.h id:=⟨hrel.lt _ _ ho,by rw [ho]; rfl⟩
  have:=(hrel.obj id o ho)
  have h2:=rQ.ext (L0:=L0) ed (b:=(c.β id).1) (base:=(c.β id).2) (o:=o) (by rw [kX]; exact this) (hk _ (hrel.block hl))
  rw [kX] at h2
  exact h2
theorem lN {T:oL}(rD:IntrOK P T.intr)(m:Nat):∀k,SteadyF (eX P T m k)
 | 0=>fun f args h r h' hc=>by simp [eX] at hc
 | k+1=>fun f args h r h' hc=>by
  have hb:=xe (P:=P) (aU:=T.aU) (m:=m) (lN rD m k)
  simp only [eX] at hc
  split at hc
  ·rename_i g hg
   exact (rD f g hg).2 _ _ _ _ hc
  ·split at hc
   ·split at hc
    ·rw [Yk] at hc
     obtain⟨x,_,hc⟩:=hc
     obtain⟨r',_,h2⟩:=Option.map_some' hc
     cases h2
     exact Steady.refl _
    ·split at hc
     ·rw [Yk] at hc
      obtain⟨x,_,hc⟩:=hc
      obtain⟨r',_,h2⟩:=Option.map_some' hc
      cases h2
      exact Steady.refl _
     ·exact hb _ _ _ _ _ hc
   ·exact hb _ _ _ _ _ hc
theorem tp (hP:Fit P){T:oL}(rD:IntrOK P T.intr)(m:Nat):∀k,CallOK P (eX P T m k)
 | 0=>fun f args h r h' hc=>by simp [eX] at hc
 | k+1=>fun f args h r h' hc=>by
  have ih:=tp hP rD m k
  have hb:=Fz hP (aU:=T.aU) ih (FG hP.mixed ih (lN rD m k)) m
  simp only [eX] at hc
  split at hc
  ·rename_i g hg
   exact (rD f g hg).1 f args h r h' (by simpa using hc)
  ·split at hc
   ·rename_i deep _
    by_cases rT:cL args=true
    ·exact IV hb deep f args h r h' (by dsimp only; rw [if_pos rT] at hc ⊢; exact hc)
    ·rw [if_neg rT] at hc
     split at hc
     ·rename_i as has
      refine IW hb deep f args h r h' ?_
      dsimp only
      rw [has]
      exact hc
     ·exact y9 hb f args h r h' hc
   ·exact y9 hb f args h r h' hc
def N6 (P : Program) : Bool := P.funcs.toList.all fun fn => fn.name != "runtime.NumGoroutine" && match fn.body with | some c => kq fn.ntmps c | none => true
theorem Lk (h1:P.follows .mixedOrders=true)(h2:N6 P=true):Fit P:=by
 refine⟨h1,fun f fn c hf hb=>?_⟩
 unfold N6 at h2
 rw [YK] at h2
 have:=h2 fn (Zh.2 (Array.mem_of_getElem? hf))
 rw [hb] at this
 simp only [Yo,bne_iff_ne,ne_eq] at this
 exact⟨this.2,this.1⟩
theorem DY:IntrOK P fun _=>none:=fun f g h=>by cases h
end
end Go.R
