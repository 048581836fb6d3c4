/- Part of the proof: RLocal, RSteady, RDraw, RPure. -/
import Derived.Test.YtmekcfdllhphlaaDoorK2
import Derived.StillTail
set_option linter.unusedVariables false
set_option linter.unusedSimpArgs false
set_option maxRecDepth 100000
open Array renaming getElem?_eq_some_iff → Ro, mem_toList_iff → RM
open Bool renaming and_eq_true → QR, false_eq_true → Q6, or_eq_true → RD, not_eq_true' → Sh
open List renaming mem_append → Q7, getElem?_eq_none → Ra, all_eq_true → Rd, mem_map → Rj, getElem?_append_left → Rs, getElem?_cons_zero → RC, map_congr_left → Sk, mem_filter → Su, range → SC
open Nat renaming le_refl → QS, zero_add → Re, lt_of_lt_of_le → Rh, add_assoc → RF, le_trans → RG, eq_of_beq_eq_true → R7, min_eq_left → SB
open Ne renaming symm → R8
open Option renaming bind_some → QM, bind_eq_some_iff → QN, map_eq_some_iff → QP, map_some → QU, getD_some → RP
open Option.some renaming injEq → QQ, inj → Rf
open Prod.mk renaming injEq → QV
namespace Go.R
open Go
def RS.shift (s2:RS)(f:iE)(d:Option Nat)(s':RS):RS:=
 {ρ:=match d with | none=>s2.ρ | some d=>fun t=>if t=d then s'.ρ d else s2.ρ t
  bx:=match f.wb with | none=>s2.bx | some k=>fun t=>if t=k then s'.bx k else s2.bx t
  h:=if f.wh then s'.h else s2.h}
theorem RS.ext' {s t:RS}(h1:∀i,s.ρ i=t.ρ i)(h2:∀i,s.bx i=t.bx i)(h3:s.h=t.h):s=t:=by
 cases s; cases t
 congr
 ·exact funext h1
 ·exact funext h2
theorem fk (s s2:RS)(f:iE)(d:Option Nat)(z:AV)(hw:f.wb=none)(hh:f.wh=false):s2.set d z=s2.shift f d (s.set d z):=by
 refine RS.ext' (fun i=>?_) (fun i=>?_) ?_
 ·cases d with
  | none=>rfl
  | some d=>simp only [q8,RS.shift,if_true]
 ·simp only [RS.shift,hw]; cases d<;>rfl
 ·simp only [RS.shift,hh]; cases d<;>rfl
theorem gr (s:RS)(d:Option Nat)(z:AV):(s.set d z).h=s.h:=by cases d<;>rfl
theorem ER (s:RS)(d:Option Nat)(z:AV):(s.set d z).bx=s.bx:=by cases d<;>rfl
theorem Am (s:RS)(k i:Nat)(cs:List AV):(s.box k cs).bx i=if i=k then some cs else s.bx i:=by
 simp only [RS.box,beq_nat]
 by_cases h:i=k<;>simp [h]
theorem ez (s s2:RS)(f:iE)(d:Option Nat)(z:AV)(h':AHeap)(hw:f.wb=none)(hh:f.wh=true):({s2 with h:=h'}:RS).set d z=s2.shift f d (({s with h:=h'}:RS).set d z):=by
 refine RS.ext' (fun i=>?_) (fun i=>?_) ?_
 ·cases d with
  | none=>rfl
  | some d=>simp only [q8,RS.shift,if_true]
 ·simp only [RS.shift,hw]; cases d<;>rfl
 ·simp only [RS.shift,hh]; cases d<;>rfl
theorem yR (s s2:RS)(f:iE)(k:Nat)(cs:List AV)(hw:f.wb=some k)(hh:f.wh=false):s2.box k cs=s2.shift f none (s.box k cs):=by
 refine RS.ext' (fun i=>rfl) (fun i=>?_) ?_
 ·simp only [Am,RS.shift,hw,if_true]
 ·simp only [RS.shift,hh]; rfl
section
variable {P:Program}{cf:CallF}{aB ds:List Nat}{o:Oper}{s s' s2:RS}
theorem lK {cs:List AV}{f:iE}(h:fc s aB ds o cs=some s')(hf:f=(match o.dst with
  | some d=>if aB.contains d then {wb:=some d,al:=true} else {wh:=true}
  | none=>{})) (hh:f.wh=true→s2.h=s.h) (ly:f.al=true→∀d,o.dst=some d→oS d s2.ρ (ds.filter fun t=>!Nat.beq t d)=true) :
  fc s2 aB ds o cs=some (s2.shift f o.dst s'):=by
 unfold fc at h ⊢
 split at h
 rotate_left
 ·cases h
 rename_i lE
 rw [if_pos lE]
 cases hd:o.dst with
 | none=>rw [hd] at h; cases h
 | some d=>
  rw [hd] at h hf
  simp only at h hf ⊢
  by_cases hl:aB.contains d=true
  ·rw [if_pos hl] at h hf ⊢
   subst hf
   split at h
   rotate_left
   ·cases h
   cases h
   rw [if_pos (ly rfl d hd)]
   congr 1
   refine RS.ext' (fun i=>?_) (fun i=>?_) ?_
   ·simp only [q8,RS.shift,if_true]; rfl
   ·simp only [ER,Am,RS.shift,if_true]
   ·simp only [gr,RS.shift]; rfl
  ·rw [if_neg hl] at h hf ⊢
   subst hf
   cases h
   rw [hh rfl]
   congr 1
   exact ez s s2 {wh:=true} (some d) _ _ rfl rfl
theorem rz {e:Operand→AV}(h:vz P cf aB ds e s o=some s')(hb:∀k∈(aN aB e o).rb,s2.bx k=s.bx k)(hr:∀id∈(aN aB e o).rh,s2.h.get id=s.h.get id)
  (hh:(aN aB e o).wh=true→s2.h=s.h) (ly:(aN aB e o).al=true→∀d,o.dst=some d→oS d s2.ρ (ds.filter fun t=>!Nat.beq t d)=true) :
  vz P cf aB ds e s2 o=some (s2.shift (aN aB e o) o.dst s'):=by
 have cn:∀{x x2:Option AV} (f:iE),(x.map fun x=>s.set o.dst x)=some s'→(x2=x)→f.wb=none→f.wh=false→(x2.map fun x=>s2.set o.dst x)=some (s2.shift f o.dst s'):=by
  intro x x2 f hx h2 h3 h4
  obtain⟨z,rfl,rfl⟩:=Option.map_some' hx
  subst h2
  simp only [QU]
  rw [←fk s s2 f o.dst z h3 h4]
 have tN:∀{α:Type} {x x2:Option α} (f:iE) (g:α→AV) (k:α→AHeap),(x.map fun y=>({s with h:=k y}:RS).set o.dst (g y))=some s'→(x2=x)→f.wb=none→f.wh=true→
   (x2.map fun y=>({s2 with h:=k y}:RS).set o.dst (g y))=some (s2.shift f o.dst s'):=by
  intro α x x2 f g k hx h2 h3 h4
  obtain⟨z,rfl,rfl⟩:=Option.map_some' hx
  subst h2
  simp only [QU]
  rw [←ez s s2 f o.dst (g z) (k z) h3 h4]
 unfold vz at h ⊢
 dsimp only at h ⊢
 split at h
 ·rename_i x ho; cases h; simp only [QQ]; exact fk s s2 _ _ _ (by simp [aN,ho]) (by simp [aN,ho])
 ·rename_i x ho; cases h; simp only [QQ]; exact fk s s2 _ _ _ (by simp [aN,ho]) (by simp [aN,ho])
 ·rename_i k x y ho
  obtain⟨t,ht,rfl⟩:=Option.map_some' h
  simp only [ht,QU,QQ]
  exact fk s s2 _ _ _ (by simp [aN,ho]) (by simp [aN,ho])
 ·rename_i t ho
  rw [QN] at h
  obtain⟨z,hz,h⟩:=h
  simp only [hz,QM]
  exact lK h (by simp only [aN,ho]; rfl) hh ly
 ·rename_i t x ho
  exact lK h (by simp only [aN,ho]; rfl) hh ly
 ·rename_i t ps ho; exact cn _ h rfl (by simp [aN,ho]) (by simp [aN,ho])
 ·rename_i t k ps ho
  obtain⟨z,hz,rfl⟩:=Option.map_some' h
  simp only [hz,QU,QQ]
  have hf:aN aB e o=(match o.dst with | some d=>if aB.contains d then {wh:=true} else {} | none=>{}):=by simp only [aN,ho]; rfl
  unfold mK
  cases EJ:kS P aB o t z with
  | none=>
   simp only
   cases hd:o.dst with
   | none=>rw [hd] at hf; rw [hf]; exact fk s s2 _ none _ rfl rfl
   | some d=>
    rw [hd] at hf
    simp only at hf
    by_cases hl:aB.contains d=true
    ·rw [if_pos hl] at hf
     have h2:=hh (by rw [hf])
     rw [hf]
     have h3:=ez s s2 {wh:=true} (some d) z s2.h rfl rfl
     refine h3.trans ?_
     rw [h2]
    ·rw [if_neg hl] at hf
     rw [hf]; exact fk s s2 _ _ _ rfl rfl
  | some q=>
   obtain⟨d,hd,hl⟩:∃d,o.dst=some d∧aB.contains d=true:=by
    unfold kS at EJ
    split at EJ
    ·rename_i d _ _ _ hd
     refine⟨d,hd,?_⟩
     cases hc:aB.contains d with
     | false=>rw [hc] at EJ; cases EJ
     | true=>rfl
    ·cases EJ
   rw [hd] at hf
   simp only [hl,if_true] at hf
   rw [hf] at hh ⊢
   simp only [hh rfl]
   exact ez s s2 _ _ _ _ rfl rfl
 ·
  rename_i t x ho
  have hf:aN aB e o=(match e x with | .lp k _=>{rb:=[k]} | .ptr id _=>{rh:=[id]} | _=>{}):=by simp only [aN,ho]; rfl
  refine cn _ h ?_ ?_ ?_
  ·rw [hf] at hb hr
   unfold gM
   cases hx:e x<;>rw [hx] at hb hr<;>try rfl
   ·simp only; rw [hr _ (by simp)]
   ·simp only; rw [hb _ (by simp)]
  ·rw [hf]; cases e x<;>rfl
  ·rw [hf]; cases e x<;>rfl
 ·
  rename_i t x y ho
  have hf:aN aB e o=(match e x with | .lp k _=>{rb:=[k],wb:=some k} | _=>{wh:=true}):=by simp only [aN,ho]; rfl
  try simp only at h ⊢
  split at h
  ·cases h
  rename_i hd
  rw [if_neg hd]
  have CA:o.dst=none:=by simpa using hd
  cases hx:e x<;>rw [hx] at h hf<;>simp only at h hf ⊢<;>try (cases h; done)
  ·rename_i id off
   rw [hf] at hh ⊢
   rw [QN] at h
   obtain⟨ob,hob,h⟩:=h
   rw [hh rfl,hob]
   cases ob with
   | map es=>cases h
   | row t cs=>cases h
   | cells cs=>
    obtain⟨ej,hcs,rfl⟩:=Option.map_some' h
    simp only [QM,hcs,QU,CA,QQ]
    exact ez s s2 {wh:=true} none .any _ rfl rfl
  ·rename_i k off
   rw [hf] at hb ⊢
   rw [QN] at h
   obtain⟨cs,hcs,h⟩:=h
   rw [hb k (by simp),hcs]
   obtain⟨ej,JN,rfl⟩:=Option.map_some' h
   simp only [QM,JN,QU,CA,QQ]
   exact yR s s2 _ k ej rfl rfl
 ·rename_i ho; exact cn _ h rfl (by simp [aN,ho]) (by simp [aN,ho])
 ·rename_i ho; exact cn _ h rfl (by simp [aN,ho]) (by simp [aN,ho])
 ·rename_i ho; exact cn _ h rfl (by simp [aN,ho]) (by simp [aN,ho])
 ·
  rename_i a b x ho
  have hf:aN aB e o=(match e x with | .rs id _ _ _=>{rh:=[id]} | _=>{}):=by simp only [aN,ho]; rfl
  refine cn _ h ?_ ?_ ?_
  ·have hc:dw s2.h 1 (e x)=dw s.h 1 (e x):=by
    rw [hf] at hr
    unfold dw
    cases hx:e x<;>rw [hx] at hr<;>try rfl
    simp only; rw [hr _ (by simp)]
   unfold jD
   rw [hc]
  ·rw [hf]; cases e x<;>rfl
  ·rw [hf]; cases e x<;>rfl
 ·rename_i vO first cap ho
  try simp only
  split at h
  ·rename_i hc
   rw [if_pos hc]
   exact cn _ h rfl (by simp [aN,ho]) (by simp [aN,ho])
  ·cases h
 ·rename_i ho
  have hf:(aN aB e o).wh=true:=by simp [aN,ho]
  cases h
  simp only [hh hf,QQ]
  exact ez s s2 _ _ _ _ (by simp [aN,ho]) hf
 ·rename_i t l c ho
  have hf:(aN aB e o).wh=true:=by simp [aN,ho]
  exact tN _ (fun y:AV × AHeap=>y.1) (fun y=>y.2) h (by simp only [hh hf]) (by simp [aN,ho]) hf
 ·rename_i ho; exact cn _ h rfl (by simp [aN,ho]) (by simp [aN,ho])
 ·rename_i ho; exact cn _ h rfl (by simp [aN,ho]) (by simp [aN,ho])
 ·rename_i ho; exact cn _ h rfl (by simp [aN,ho]) (by simp [aN,ho])
 ·rename_i ho; exact cn _ h rfl (by simp [aN,ho]) (by simp [aN,ho])
 ·rename_i ho; exact cn _ h rfl (by simp [aN,ho]) (by simp [aN,ho])
 ·
  rename_i t m k ok ho
  have hf:aN aB e o=(match e m with | .mp id=>{rh:=[id]} | _=>{}):=by simp only [aN,ho]; rfl
  refine cn _ h ?_ ?_ ?_
  ·rw [hf] at hr
   unfold dO
   cases hx:e m<;>rw [hx] at hr<;>try rfl
   simp only; rw [hr _ (by simp)]
  ·rw [hf]; cases e m<;>rfl
  ·rw [hf]; cases e m<;>rfl
 ·rename_i t m k x ho
  have hf:(aN aB e o).wh=true:=by simp [aN,ho]
  try simp only at h ⊢
  split at h
  ·cases h
  rename_i hd
  rw [if_neg hd]
  have CA:o.dst=none:=by simpa using hd
  obtain⟨h',hm,rfl⟩:=Option.map_some' h
  simp only [hh hf,hm,QU,CA,QQ]
  exact ez s s2 _ none .any _ (by simp [aN,ho]) hf
 ·rename_i t m k x ho
  have hf:(aN aB e o).wh=true:=by simp [aN,ho]
  try simp only at h ⊢
  split at h
  ·cases h
  rename_i hd
  rw [if_neg hd]
  have CA:o.dst=none:=by simpa using hd
  obtain⟨h',hm,rfl⟩:=Option.map_some' h
  simp only [hh hf,hm,QU,CA,QQ]
  exact ez s s2 _ none .any _ (by simp [aN,ho]) hf
 ·rename_i ho; exact cn _ h rfl (by simp [aN,ho]) (by simp [aN,ho])
 ·
  rename_i b args xk ho
  try simp only
  unfold er at h ⊢
  generalize hargs:args.toList.map e=as at h ⊢
  generalize xk.toList=ts at h ⊢
  split at h
  ·rename_i t x
   try simp only
   have hf:aN aB e o=(match x with | .mp id=>{rh:=[id]} | _=>{}):=by
    simp only [aN,ho,hargs]
    cases x<;>rfl
   refine cn _ h ?_ ?_ ?_
   ·rw [hf] at hr
    unfold oQ
    cases x<;>try rfl
    simp only; rw [hr _ (by simp)]
   ·rw [hf]; cases x<;>rfl
   ·rw [hf]; cases x<;>rfl
  ·try simp only
   have hf:(aN aB e o).wh=true∧(aN aB e o).wb=none:=by simp only [aN,ho,hargs]; simp
   exact tN _ (fun y:AV × AHeap=>y.1) (fun y=>y.2) h (by simp only [hh hf.1]) hf.2 hf.1
  ·try simp only
   have hf:(aN aB e o).wh=true∧(aN aB e o).wb=none:=by simp only [aN,ho,hargs]; simp
   exact tN _ (fun y:AV × AHeap=>y.1) (fun y=>y.2) h (by simp only [hh hf.1]) hf.2 hf.1
  ·try simp only
   have hf:(aN aB e o).wh=true∧(aN aB e o).wb=none:=by simp only [aN,ho,hargs]; simp
   exact tN _ (fun _:AHeap=>.tup []) (fun y=>y) h (by simp only [hh hf.1]) hf.2 hf.1
  ·try simp only
   rw [QN] at h
   obtain⟨v,hv,h⟩:=h
   rw [QN] at h
   obtain⟨vs,zM,h⟩:=h
   rw [QN] at h
   obtain⟨u,hu,h⟩:=h
   simp only [hv,zM,hu,QM]
   exact cn _ h rfl (by simp [aN,ho]) (by simp [aN,ho])
  ·try simp only
   rw [QN] at h
   obtain⟨v,hv,h⟩:=h
   rw [QN] at h
   obtain⟨vs,zM,h⟩:=h
   rw [QN] at h
   obtain⟨u,hu,h⟩:=h
   simp only [hv,zM,hu,QM]
   exact cn _ h rfl (by simp [aN,ho]) (by simp [aN,ho])
  ·cases h
 ·
  rename_i fx args xk ho
  have hf:(aN aB e o).wh=true∧(aN aB e o).wb=none:=by simp [aN,ho]
  try simp only
  cases hx:e fx<;>rw [hx] at h<;>simp only at h ⊢<;>try (cases h; done)
  rename_i vO cap
  split at h
  ·rename_i ha
   rw [if_pos ha]
   exact tN _ (fun y:AV × AHeap=>y.1) (fun y=>y.2) h (by simp only [hh hf.1]) hf.2 hf.1
  ·cases h
 ·cases h
end
end Go.R
namespace Go.R
open Go
def SteadyF (cf:CallF):Prop:=∀f args h r h',cf f args h=some (r,h')→Steady h h'
section
variable {P:Program}{cf:CallF}{aB ds:List Nat}{o:Oper}{s s':RS}
theorem po {h h':AHeap}{t t2:TypeId}{x y z:AV}(hh:de P h t t2 x y=some (z,h')):Steady h h':=by
 unfold de at hh
 rw [QN] at hh
 obtain⟨d,_,hh⟩:=hh
 cases d<;>simp only at hh<;>try (cases hh; done)
 rw [QN] at hh
 obtain⟨i,_,hh⟩:=hh
 rw [QN] at hh
 obtain⟨⟨new,m⟩,_,hh⟩:=hh
 simp only at hh
 split at hh
 ·cases hh
 split at hh
 ·split at hh
  ·cases hh
  ·split at hh<;>cases hh
   ·exact Steady.refl _
   ·exact Steady.put _ _ _
 ·split at hh
  ·cases hh
  ·split at hh
   ·split at hh<;>cases hh<;>exact Steady.refl _
   ·cases hh; exact Steady.put _ _ _
 ·split at hh
  ·split at hh
   ·cases hh
   ·split at hh<;>cases hh
    ·exact Steady.refl _
    ·exact Steady.put _ _ _
  rw [QN] at hh
  obtain⟨ob,_,hh⟩:=hh
  cases ob with
  | map es=>cases hh
  | row t cs=>cases hh
  | cells cs=>
   simp only at hh
   split at hh
   ·cases hh
   ·split at hh<;>cases hh
    ·exact Steady.refl _
    ·exact (Steady.kill _ _).trans (Steady.put _ _ _)
 ·cases hh
theorem ss {h h':AHeap}{t t2:TypeId}{x y z:AV}(hh:q7 P h t t2 x y=some (z,h')):Steady h h':=by
 unfold q7 at hh
 rw [QN] at hh
 obtain⟨d,_,hh⟩:=hh
 cases d<;>simp only at hh<;>try (cases hh; done)
 rw [QN] at hh
 obtain⟨i,_,hh⟩:=hh
 rw [QN] at hh
 obtain⟨⟨new,m⟩,_,hh⟩:=hh
 simp only at hh
 split at hh
 ·cases hh
 split at hh
 ·split at hh
  ·split at hh<;>cases hh
   exact Steady.refl _
  rw [QN] at hh
  obtain⟨ob,_,hh⟩:=hh
  cases ob with
  | map es=>cases hh
  | row t cs=>cases hh
  | cells cs=>
   simp only at hh
   split at hh<;>cases hh
   exact Steady.put _ _ _
 ·split at hh<;>cases hh
  exact Steady.refl _
 ·cases hh
theorem qL {h h':AHeap}{t:TypeId}{x:AV}(hh:oR P h t x=some h'):Steady h h':=by
 unfold oR at hh
 rw [QN] at hh
 obtain⟨d,_,hh⟩:=hh
 cases x<;>simp only at hh<;>try (cases hh; done)
 ·cases hh; exact Steady.refl _
 ·rw [QN] at hh
  obtain⟨ob,_,hh⟩:=hh
  cases ob with
  | cells cs=>cases hh
  | row t cs=>cases hh
  | map es=>cases hh; exact Steady.put _ _ _
theorem jN {h h':AHeap}{t:TypeId}{x y z:AV}(hh:fE P h t x y z=some h'):Steady h h':=by
 unfold fE at hh
 rw [QN] at hh
 obtain⟨d,_,hh⟩:=hh
 cases d<;>simp only at hh<;>try (cases hh; done)
 split at hh
 ·cases hh
 cases x<;>simp only at hh<;>try (cases hh; done)
 rw [QN] at hh
 obtain⟨ob,_,hh⟩:=hh
 cases ob with
 | cells cs=>cases hh
 | row t cs=>cases hh
 | map es=>
  obtain⟨nv,_,rfl⟩:=Option.map_some' hh
  exact Steady.put _ _ _
theorem lL {h h':AHeap}{t:TypeId}{x y z:AV}(hh:ep P h t x y=some (z,h')):Steady h h':=by
 unfold ep at hh
 split at hh
 ·rw [QN] at hh
  obtain⟨d,_,hh⟩:=hh
  cases d<;>simp only at hh<;>try (cases hh; done)
  rw [QN] at hh
  obtain⟨i,_,hh⟩:=hh
  rw [QN] at hh
  obtain⟨z,_,hh⟩:=hh
  split at hh<;>cases hh
  exact Steady.put _ _ _
 ·cases hh
theorem kG {cs:List AV}(h:fc s aB ds o cs=some s'):Steady s.h s'.h:=by
 unfold fc at h
 split at h
 rotate_left
 ·cases h
 split at h
 ·split at h
  ·split at h<;>cases h
   rw [gr]; exact Steady.refl _
  ·cases h
   rw [gr]; exact Steady.put _ _ _
 ·cases h
theorem pq (hcf:SteadyF cf){e:Operand→AV}(h:vz P cf aB ds e s o=some s'):Steady s.h s'.h:=by
 have cn:∀{x:Option AV},(x.map fun x=>s.set o.dst x)=some s'→Steady s.h s'.h:=by
  intro x hx
  obtain⟨z,rfl,rfl⟩:=Option.map_some' hx
  rw [gr]; exact Steady.refl _
 unfold vz at h
 dsimp only at h
 split at h
 ·cases h; rw [gr]; exact Steady.refl _
 ·cases h; rw [gr]; exact Steady.refl _
 ·obtain⟨z,_,rfl⟩:=Option.map_some' h; rw [gr]; exact Steady.refl _
 ·rw [QN] at h
  obtain⟨z,_,h⟩:=h
  exact kG h
 ·exact kG h
 ·exact cn h
 ·obtain⟨z,hz,rfl⟩:=Option.map_some' h
  unfold mK
  split
  ·rw [gr]; exact Steady.refl _
  ·rw [gr]; exact Steady.put _ _ _
 ·exact cn h
 ·split at h
  ·cases h
  split at h
  ·rw [QN] at h
   obtain⟨cs,_,h⟩:=h
   obtain⟨z,_,rfl⟩:=Option.map_some' h
   exact Steady.refl _
  ·rw [QN] at h
   obtain⟨ob,_,h⟩:=h
   cases ob with
   | map es=>cases h
   | row t cs=>cases h
   | cells cs=>
    obtain⟨z,_,rfl⟩:=Option.map_some' h
    exact Steady.put _ _ _
  ·cases h
 ·exact cn h
 ·exact cn h
 ·exact cn h
 ·exact cn h
 ·split at h
  ·exact cn h
  ·cases h
 ·cases h; rw [gr]; exact Steady.put _ _ _
 ·obtain⟨⟨z,h'⟩,hz,rfl⟩:=Option.map_some' h
  rw [gr]; exact lL hz
 ·exact cn h
 ·exact cn h
 ·exact cn h
 ·exact cn h
 ·exact cn h
 ·exact cn h
 ·split at h
  ·cases h
  obtain⟨h',hz,rfl⟩:=Option.map_some' h
  exact jN hz
 ·split at h
  ·cases h
  obtain⟨h',hz,rfl⟩:=Option.map_some' h
  exact jN hz
 ·exact cn h
 ·unfold er at h
  split at h
  ·exact cn h
  ·obtain⟨⟨z,h'⟩,hz,rfl⟩:=Option.map_some' h
   rw [gr]; exact po hz
  ·obtain⟨⟨z,h'⟩,hz,rfl⟩:=Option.map_some' h
   rw [gr]; exact ss hz
  ·obtain⟨h',hz,rfl⟩:=Option.map_some' h
   rw [gr]; exact qL hz
  ·rw [QN] at h
   obtain⟨v,_,h⟩:=h
   rw [QN] at h
   obtain⟨vs,_,h⟩:=h
   rw [QN] at h
   obtain⟨u,_,h⟩:=h
   exact cn h
  ·rw [QN] at h
   obtain⟨v,_,h⟩:=h
   rw [QN] at h
   obtain⟨vs,_,h⟩:=h
   rw [QN] at h
   obtain⟨u,_,h⟩:=h
   exact cn h
  ·cases h
 ·split at h
  ·split at h
   ·obtain⟨⟨z,h'⟩,hz,rfl⟩:=Option.map_some' h
    rw [gr]; exact hcf _ _ _ _ _ hz
   ·cases h
  ·cases h
 ·cases h
theorem lM (hcf:SteadyF cf){ops:List Oper}(h:jE P cf aB ops s o=some s'):Steady s.h s'.h:=by
 unfold jE at h
 rw [QN] at h
 obtain⟨w,_,h⟩:=h
 cases w with
 | true=>exact pq hcf (by simpa [sa] using h)
 | false=>
  simp only [Q6,if_false,QQ] at h
  subst h
  rw [gr]; exact Steady.refl _
theorem nG (hcf:SteadyF cf){ops:List Oper}:∀{l:List Oper} {s s':RS},nZ P cf aB ops s l=some s'→Steady s.h s'.h
 | [],s,s',h=>by simp only [nZ,QQ] at h; subst h; exact Steady.refl _
 | o::l,s,s',h=>by
  simp only [nZ,QN] at h
  obtain⟨s1,h1,h2⟩:=h
  exact (lM hcf h1).trans (nG hcf h2)
theorem nH (hcf:SteadyF cf){ops:List Oper}:∀{l:List Oper} {s r:RS} {es:List oz},mN P cf aB ops s l=some (es,r)→Steady s.h r.h
 | [],s,r,es,h=>by simp only [mN,QQ,QV] at h; rw [h.2]; exact Steady.refl _
 | o::l,s,r,es,h=>by
  simp only [mN,QN,QP] at h
  obtain⟨w,hw,s1,h1,⟨nv,r'⟩,h2,h3⟩:=h
  simp only [QV] at h3
  obtain⟨_,rfl⟩:=h3
  have h4:jE P cf aB ops s o=some s1:=by unfold jE; rw [hw]; exact h1
  exact (lM hcf h4).trans (nH hcf h2)
theorem qM (hcf:SteadyF cf){ops:Array Oper}(h:ja P cf aB ops s=some s'):Steady s.h s'.h:=by
 unfold ja at h
 dsimp only at h
 split at h
 rotate_left
 ·cases h
 rw [QN] at h
 obtain⟨⟨es,r⟩,vI,h⟩:=h
 simp only at h
 split at h
 ·cases h; exact nH hcf vI
 ·cases h
theorem dR (hcf:SteadyF cf){A:ca}{m:Nat}:∀(c:Code) (st gV:St) (e:Ex),be P cf A m c st=some (e,gV)→Steady st.h gV.h
 | .skip,st,gV,e,h=>by simp only [be,QQ,QV] at h; rw [h.2]; exact Steady.refl _
 | .label _,st,gV,e,h=>by simp only [be,QQ,QV] at h; rw [h.2]; exact Steady.refl _
 | .ret,st,gV,e,h=>by simp only [be,QQ,QV] at h; rw [h.2]; exact Steady.refl _
 | .exit _,st,gV,e,h=>by simp only [be,QQ,QV] at h; rw [h.2]; exact Steady.refl _
 | .seq x y,st,gV,e,h=>by
  simp only [be,QN] at h
  obtain⟨⟨e1,s1⟩,h1,h2⟩:=h
  have:=dR hcf x st s1 e1 h1
  cases e1 with
  | norm=>exact this.trans (dR hcf y s1 gV e h2)
  | exit id=>simp only [QQ,QV] at h2; rw [←h2.2]; exact this
  | ret=>simp only [QQ,QV] at h2; rw [←h2.2]; exact this
 | .cond k x y,st,gV,e,h=>by
  simp only [be,QN] at h
  obtain⟨t,_,h⟩:=h
  cases t with
  | true=>exact dR hcf x st gV e (by simpa using h)
  | false=>exact dR hcf y st gV e (by simpa using h)
 | .block id x,st,gV,e,h=>by
  simp only [be,QP] at h
  obtain⟨⟨e1,s1⟩,h1,h2⟩:=h
  have:=dR hcf x st s1 e1 h1
  cases e1<;>(simp only [QV] at h2; rw [←h2.2]; exact this)
 | .loop x,st,gV,e,h=>by
  simp only [be] at h
  have key:∀(j:Nat) (st:St),iF (be P cf A m x) j st=some (e,gV)→Steady st.h gV.h:=by
   intro j
   induction j with
   | zero=>intro st h; simp [iF] at h
   | succ j ih=>
    intro st h
    simp only [iF,QN] at h
    obtain⟨⟨e1,s1⟩,h1,h2⟩:=h
    have:=dR hcf x st s1 e1 h1
    cases e1 with
    | norm=>exact this.trans (ih s1 h2)
    | exit id=>simp only [QQ,QV] at h2; rw [←h2.2]; exact this
    | ret=>simp only [QQ,QV] at h2; rw [←h2.2]; exact this
  exact key m st h
 | .region id ops draw,st,gV,e,h=>by
  simp only [be,QN,QP,QV] at h
  obtain⟨s0,h0,s',h1,s2,h2,_,rfl⟩:=h
  rw [C1]
  refine ((jL h0).trans ?_).trans (jL h2)
  cases draw with
  | true=>exact qM (s:=s0) hcf (by simpa using h1)
  | false=>exact nG (s:=s0) hcf (by simpa using h1)
 | .rangeFunc ..,st,gV,e,h=>by simp [be] at h
 | .scope ..,st,gV,e,h=>by simp [be] at h
 | .goto ..,st,gV,e,h=>by simp [be] at h
 | .refuse ..,st,gV,e,h=>by simp [be] at h
theorem su (hcf:SteadyF cf){a7:FuncId→ca}{m:Nat}:SteadyF (bf P a7 cf m):=by
 intro f args h r h' hc
 unfold bf at hc
 rw [QN] at hc
 obtain⟨fn,hf,hc⟩:=hc
 rw [QN] at hc
 obtain⟨c,hb,hc⟩:=hc
 split at hc
 rotate_left
 ·cases hc
 rw [QN] at hc
 obtain⟨⟨e,st⟩,hex,hc⟩:=hc
 have:=dR hcf c _ _ _ hex
 cases e with
 | norm=>obtain⟨r',_,h2⟩:=Option.map_some' hc; cases h2; exact this
 | ret=>obtain⟨r',_,h2⟩:=Option.map_some' hc; cases h2; exact this
 | exit id=>cases hc
end
end Go.R
namespace Go.R
open Go
section
variable {P:Program}{cf:CallF}{aB ds:List Nat}{o:Oper}{s s':RS}
theorem yS {e e':Operand→AV}(h:∀x∈o.op.operands,e x=e' x):vz P cf aB ds e s o=vz P cf aB ds e' s o:=by
 have Hr:∀(l:List Operand),(∀x∈l,e x=e' x)→l.map e=l.map e':=fun l hl=>Sk hl
 have ES:∀(q:Option Operand),(∀x,q=some x→e x=e' x)→q.map e=q.map e':=by
  intro q hq; cases q with
  | none=>rfl
  | some x=>simp [hq x rfl]
 unfold vz
 cases xp:o.op<;>rw [xp] at h
 case build t ps=>
  have:(ps.toList.map fun (i,x)=>(i,e x))=(ps.toList.map fun (i,x)=>(i,e' x)):=
   Sk fun p hp=>by
    have:=h p.2 (by simp only [Op.operands,List.mem_toArray,Rj]; exact⟨p,hp,rfl⟩)
    simp [this]
  simp only [this]
 case buildSlice t n ps=>
  have:(ps.toList.map fun (i,x)=>(i,e x))=(ps.toList.map fun (i,x)=>(i,e' x)):=
   Sk fun p hp=>by
    have:=h p.2 (by simp only [Op.operands,List.mem_toArray,Rj]; exact⟨p,hp,rfl⟩)
    simp [this]
  simp only [this]
 case makeFunc f first cap=>
  have:cap.toList.map e=cap.toList.map e':=Hr _ fun x hx=>h x (by simp only [Op.operands,Array.mem_append]; right; exact RM.1 hx)
  cases f<;>first | rfl | simp only [this]
 case makeMap t r=>cases r<;>rfl
 case slice t x lo hi mx=>
  have h1:e x=e' x:=h x (by simp [Op.operands])
  have h2:=ES lo fun y hy=>h y (by simp [Op.operands,hy])
  have h3:=ES hi fun y hy=>h y (by simp [Op.operands,hy])
  have h4:=ES mx fun y hy=>h y (by simp [Op.operands,hy])
  simp only [h1,h2,h3,h4]
 case call c=>
  obtain⟨callee,args,xk⟩:=c
  have h1:args.toList.map e=args.toList.map e':=Hr _ fun x hx=>h x (by
   simp only [Op.operands,Call.operands]
   cases callee<;>simp<;>first | exact RM.1 hx | (right; exact RM.1 hx) | (left; exact RM.1 hx))
  cases callee with
  | builtin b=>simp only [h1]
  | value f=>
   have h2:e f=e' f:=h f (by simp [Op.operands,Call.operands])
   simp only [h1,h2]
  | invoke r nm=>rfl
 all_goals first
  | rfl
  | (simp [Op.operands] at h; simp [h])
end
theorem lN (acc:List Nat)(i:Nat):∀(l:List Edge) (m:Nat),(l.foldl (fun m e=>bif Region.binds .any e then m ||| (2 ^ e.on ||| acc.getD e.on 0) else m) m).testBit i=true→
  m.testBit i=true∨∃e∈l,Region.binds .any e=true∧(e.on=i∨(acc.getD e.on 0).testBit i=true)
 | [],m,h=>.inl h
 | e::l,m,h=>by
  rcases lN acc i l _ h with h1 | ⟨e',he,h1⟩
  ·dsimp only at h1
   cases hb:Region.binds .any e with
   | false=>rw [hb] at h1; exact .inl h1
   | true=>
    rw [hb] at h1
    simp only [cond_true,Nat.testBit_or,RD,Nat.testBit_two_pow,decide_eq_true_eq] at h1
    rcases h1 with h1 | h1 | h1
    ·exact .inl h1
    ·exact .inr ⟨e,by simp,hb,.inl h1⟩
    ·exact .inr ⟨e,by simp,hb,.inr h1⟩
  ·exact .inr ⟨e',by simp [he],h1⟩
theorem nI:∀(l:List Oper) (acc:List Nat),(∀j,j<acc.length→(gN acc l).getD j 0=acc.getD j 0)∧
  ∀j i,((gN acc l).getD j 0).testBit i=true→acc.length≤j→∃o,l[j - acc.length]? = some o∧∃e∈o.after.toList,Region.binds .any e=true∧(e.on=i∨((gN acc l).getD e.on 0).testBit i=true)
 | [],acc=>⟨fun j hj=>rfl,fun j i h hj=>by simp [gN,List.getD,Ra hj] at h⟩
 | o::l,acc=>by
  simp only [gN]
  generalize hm:(o.after.toList.foldl (fun m e=>bif Region.binds .any e then m ||| (2 ^ e.on ||| acc.getD e.on 0) else m) 0)=m
  obtain⟨h1,h2⟩:=nI l (acc++[m])
  have hold:∀j,j<acc.length→(gN (acc++[m]) l).getD j 0=acc.getD j 0:=fun j hj=>by
   rw [h1 j (by simp; omega)]
   simp [List.getD,Rs hj]
  refine⟨hold,fun j i h hj=>?_⟩
  by_cases On:j=acc.length
  ·subst On
   have:(gN (acc++[m]) l).getD acc.length 0=m:=by
    rw [h1 _ (by simp)]; simp [List.getD]
   rw [this,←hm] at h
   rcases lN acc i _ _ h with h3 | ⟨e,he,hb,h3⟩
   ·simp at h3
   ·refine⟨o,by simp,e,he,hb,h3.imp id fun h4=>?_⟩
    by_cases hl:e.on<acc.length
    ·rw [hold _ hl]; exact h4
    ·simp [List.getD,Ra (Nat.not_lt.1 hl)] at h4
  ·obtain⟨o',GG,h3⟩:=h2 j i h (by simp; omega)
   refine⟨o',?_,h3⟩
   rw [show j - acc.length=(j - (acc++[m]).length)+1 by simp; omega]
   simpa using GG
theorem iy {α:Type}(p:Nat→α→Nat→α→Bool):∀(l:List α) (k:Nat),lB p k l=true→∀i j x y,i<j→l[i]? = some x→l[j]? = some y→p (k+i) x (k+j) y=true
 | [],k,_,i,j,x,y,_,hx,_=>by simp at hx
 | a::l,k,h,i,j,x,y,tO,hx,hy=>by
  simp only [lB,QR,Rd] at h
  obtain⟨h1,h2⟩:=h
  cases j with
  | zero=>omega
  | succ j=>
   cases i with
   | zero=>
    simp only [RC,QQ] at hx
    subst hx
    have:=h1 (y,k+1+j) (by rw [List.mk_add_mem_zipIdx_iff_getElem?]; simpa using hy)
    simpa [RF,Nat.add_comm 1 j] using this
   | succ i=>
    have:=iy p l (k+1) h2 i j x y (by omega) (by simpa using hx) (by simpa using hy)
    rw [show k+(i+1)=k+1+i by omega,show k+(j+1)=k+1+j by omega]
    exact this
theorem lO:∀(l:List Oper) (k:Nat),oA k l=true→∀i o,l[i]? = some o→∀e∈o.after.toList,Region.binds .any e=true→e.on<k+i
 | [],k,_,i,o,h,_,_,_=>by simp at h
 | a::l,k,h,i,o,ho,e,he,hb=>by
  simp only [oA,QR,Rd] at h
  obtain⟨h1,h2⟩:=h
  cases i with
  | zero=>
   simp only [RC,QQ] at ho
   subst ho
   have:=h1 e he
   simp only [hb,Bool.not_true,Bool.false_or] at this
   exact Nat.blt_eq.mp this
  | succ i=>
   have:=lO l (k+1) h2 i o (by simpa using ho) e he hb
   omega
theorem lP {V:Type}{n i:Nat}(hi:i≤n){W:Nat→Prop}{S:Nat→Bool}{m x:Nat→V}(h0:m 0=x 0)(Hs:∀k,k<n→W k→S k=true→m (k+1)=x (k+1))(vG:∀k,k<n→(¬W k∨S k=false)→m (k+1)=m k)
  (hx:∀k,k<n→¬W k→x (k+1)=x k) (hS:∀k,k<n→W k→(S k=true↔k<i)):m n=x i:=by
 have key:∀k,k≤n→m k=x (min k i):=by
  intro k
  induction k with
  | zero=>intro _; simpa using h0
  | succ k ih=>
   intro hk
   have ih:=ih (by omega)
   by_cases hw:W k
   ·have hs:=hS k (by omega) hw
    by_cases oD:k<i
    ·rw [Hs k (by omega) hw (hs.2 oD),SB (by omega)]
    ·have:S k=false:=by
      cases h:S k with
      | false=>rfl
      | true=>exact absurd (hs.1 h) oD
     rw [vG k (by omega) (.inr this),ih,Nat.min_eq_right (by omega),Nat.min_eq_right (by omega)]
   ·rw [vG k (by omega) (.inl hw),ih]
    by_cases oD:k<i
    ·rw [SB (by omega),SB (by omega),hx k (by omega) hw]
    ·rw [Nat.min_eq_right (by omega),Nat.min_eq_right (by omega)]
 rw [key n (QS n),Nat.min_eq_right hi]
open Classical in
theorem sv {V:Type}{n i:Nat}(hi:i<n){W:Nat→Prop}{S S':Nat→Bool}{m m' x:Nat→V}(h0:m' 0=m 0)(Hs:∀k,k<n→W k→S k=true→m (k+1)=x (k+1))(vG:∀k,k<n→(¬W k∨S k=false)→m (k+1)=m k)
  (ET:∀k,k<n→W k→S' k=true→m' (k+1)=x (k+1)) (EU:∀k,k<n→(¬W k∨S' k=false)→m' (k+1)=m' k)
  (yT:∀k,S' k=if k=i then true else S k) (Ht:S i=false) (hl:W i→∀j,j<n→i<j→W j→S j=false):m' n=if W i then x (i+1) else m n:=by
 have key:∀k,k≤n→m' k=if i<k∧W i then x (i+1) else m k:=by
  intro k
  induction k with
  | zero=>intro _; simpa using h0
  | succ k ih=>
   intro hk
   have ih:=ih (by omega)
   by_cases oD:k=i
   ·subst oD
    by_cases hw:W k
    ·rw [ET k (by omega) hw (by rw [yT]; simp),if_pos ⟨by omega,hw⟩]
    ·rw [EU k (by omega) (.inl hw),ih,if_neg (fun h=>hw h.2),if_neg (fun h=>hw h.2),vG k (by omega) (.inl hw)]
   ·have hs:S' k=S k:=by rw [yT,if_neg oD]
    by_cases hw:W k
    ·cases mR:S k with
     | true=>
      rw [ET k (by omega) hw (hs.trans mR)]
      by_cases zN:i<k+1∧W i
      ·have:=hl zN.2 k (by omega) (by omega) hw
       rw [mR] at this; cases this
      ·rw [if_neg zN,Hs k (by omega) hw mR]
     | false=>
      rw [EU k (by omega) (.inr (hs.trans mR)),ih,vG k (by omega) (.inr mR)]
      by_cases zN:i<k∧W i
      ·rw [if_pos zN,if_pos ⟨by omega,zN.2⟩]
      ·rw [if_neg zN,if_neg (fun h=>zN ⟨by omega,h.2⟩)]
    ·rw [EU k (by omega) (.inl hw),ih,vG k (by omega) (.inl hw)]
     by_cases zN:i<k∧W i
     ·rw [if_pos zN,if_pos ⟨by omega,zN.2⟩]
     ·rw [if_neg zN,if_neg (fun h=>zN ⟨by omega,h.2⟩)]
 rw [key n (QS n)]
 by_cases hw:W i
 ·rw [if_pos ⟨hi,hw⟩,if_pos hw]
 ·rw [if_neg (fun h=>hw h.2),if_neg hw]
structure pt (P:Program)(cf:CallF)(aB:List Nat)(ops:Array Oper)(tx:Nat→RS)(ft:Nat→iE)(ord:Nat→Nat→Prop):Prop where
 op:∀k o,ops[k]? = some o→∃w,eK ops.toList (tx k).ρ o=some w∧(if w then sa P cf aB (ops.toList.filterMap (·.dst)) (tx k) o=some (tx (k+1))∧ft k=aN aB (bj (tx k).ρ) o else tx (k+1)=(tx k).set o.dst (.tup [])∧ft k={})
 EV:∀k i,ord k i→∃o,ops[i]? = some o∧∃e∈o.after,Region.binds .any e=true∧(e.on=k∨ord k e.on)
 back:∀i o,ops[i]? = some o→∀e∈o.after,Region.binds .any e=true→e.on<i
 D2:∀i j x y,i≠j→ops[i]? = some x→ops[j]? = some y→ord i j∨ord j i∨∀d,x.dst=some d→d∉y.looksAt ops∧y.dst≠some d
 boxes:∀i j,i<ops.size→j<ops.size→i≠j→ord i j∨ord j i∨(∀k,(ft i).wb=some k→k∉(ft j).rb∧(ft j).wb≠some k)∧((ft i).wh=true→(ft j).wh=false∧∀id∈(ft j).rh,(tx i).h.get id=(tx (i+1)).h.get id)
 JO:∀i o d,ops[i]? = some o→(ft i).al=true→o.dst=some d→(∀t∈ops.toList.filterMap (·.dst),t≠d→∀off,(tx 0).ρ t≠.lp d off)∧∀j y t,ops[j]? = some y→j≠i→ord i j∨(y.dst=some t→∀off,(tx (j+1)).ρ t≠.lp d off)
section
variable {P:Program}{cf:CallF}{aB:List Nat}{ops:Array Oper}{tx:Nat→RS}{ft:Nat→iE}{ord:Nat→Nat→Prop}
def gu (ops:Array Oper)(k:Nat):Option Nat:=(ops[k]?).bind (·.dst)
def hU (ops:Array Oper)(tx:Nat→RS)(ft:Nat→iE)(S:Nat→Bool):Nat→RS
 | 0=>tx 0
 | k+1=>if S k then (hU ops tx ft S k).shift (ft k) (gu ops k) (tx (k+1)) else hU ops tx ft S k
theorem pt.shift (T:pt P cf aB ops tx ft ord){k:Nat}(hk:k<ops.size):tx (k+1)=(tx k).shift (ft k) (gu ops k) (tx (k+1)):=by
 have ho:ops[k]? = some ops[k]:=by simp [hk]
 obtain⟨w,hw,h⟩:=T.op k _ ho
 have hd:gu ops k=ops[k].dst:=by simp [gu,hk]
 rw [hd]
 cases w with
 | true=>
  simp only [if_true] at h
  obtain⟨h1,h2⟩:=h
  have:=rz (s2:=tx k) (e:=bj (tx k).ρ) h1 (fun _ _=>rfl) (fun _ _=>rfl) (fun _=>rfl) (fun ly d vk=>by
   unfold sa vz at h1
   dsimp only at h1
   have D3:∀(cs:List AV) (s s':RS),fc s aB (ops.toList.filterMap (·.dst)) ops[k] cs=some s'→aB.contains d=true→oS d s.ρ ((ops.toList.filterMap (·.dst)).filter fun t=>!Nat.beq t d)=true:=by
    intro cs s s' hb hl
    unfold fc at hb
    simp only [vk,hl,if_true] at hb
    by_cases hn:oS d s.ρ ((ops.toList.filterMap (·.dst)).filter fun t=>!Nat.beq t d)=true
    ·exact hn
    ·simp [hn] at hb
   unfold aN at ly
   split at ly
   ·rename_i t xp
    rw [vk] at ly
    simp only at ly
    split at ly
    ·rename_i hl
     rw [xp] at h1
     simp only [QN] at h1
     obtain⟨z,_,h1⟩:=h1
     exact D3 _ _ _ h1 hl
    ·cases ly
   ·rename_i t x xp
    rw [vk] at ly
    simp only at ly
    split at ly
    ·rename_i hl
     rw [xp] at h1
     exact D3 _ _ _ h1 hl
    ·cases ly
   all_goals first
    | (split at ly<;>cases ly)
    | (split at ly<;>first | cases ly | (split at ly<;>cases ly))
    | cases ly)
  unfold sa at h1
  rw [h1] at this
  rw [h2]
  exact Rf this
 | false=>
  simp only [Q6,if_false] at h
  rw [h.1,h.2]
  exact fk (tx k) (tx k) {} _ _ rfl rfl
theorem oE (s2:RS)(f:iE)(d:Option Nat)(s':RS)(t:Nat):(s2.shift f d s').ρ t=if d=some t then s'.ρ t else s2.ρ t:=by
 cases d with
 | none=>simp [RS.shift]
 | some d=>
  simp only [RS.shift,QQ]
  by_cases h:t=d
  ·subst h; simp
  ·rw [if_neg h,if_neg (R8 h)]
theorem lQ (s2:RS)(f:iE)(d:Option Nat)(s':RS)(b:Nat):(s2.shift f d s').bx b=if f.wb=some b then s'.bx b else s2.bx b:=by
 cases hf:f.wb with
 | none=>simp [RS.shift,hf]
 | some k=>
  simp only [RS.shift,hf,QQ]
  by_cases h:b=k
  ·subst h; simp
  ·rw [if_neg h,if_neg (R8 h)]
theorem pt.lt (T:pt P cf aB ops tx ft ord):∀{j k:Nat},ord k j→k<j:=by
 intro j
 induction j using Nat.strongRecOn with
 | _ j ih=>
  intro k h
  obtain⟨o,ho,e,he,hb,h1⟩:=T.EV k j h
  have h2:=T.back j o ho e he hb
  rcases h1 with h1 | h1
  ·omega
  ·have:=ih e.on h2 h1; omega
def mT (ops:Array Oper)(S:Nat→Bool):Prop:=∀j o,ops[j]? = some o→S j=true→∀e∈o.after,Region.binds .any e=true→S e.on=true
theorem pt.down (T:pt P cf aB ops tx ft ord){S:Nat→Bool}(hc:mT ops S):∀{j k:Nat},ord k j→S j=true→S k=true:=by
 intro j
 induction j using Nat.strongRecOn with
 | _ j ih=>
  intro k h hs
  obtain⟨o,ho,e,he,hb,h1⟩:=T.EV k j h
  have h2:=T.back j o ho e he hb
  have h3:=hc j o ho hs e he hb
  rcases h1 with h1 | h1
  ·rw [←h1]; exact h3
  ·exact ih e.on h2 h1 h3
variable {S:Nat→Bool}{i:Nat}{oi:Oper}
theorem pt.before (T:pt P cf aB ops tx ft ord)(hc:mT ops S)(ho:ops[i]? = some oi)(hr:∀e∈oi.after,Region.binds .any e=true→S e.on=true){k:Nat}(h:ord k i):S k=true:=by
 obtain⟨o,GG,e,he,hb,h1⟩:=T.EV k i h
 rw [ho] at GG
 cases GG
 rcases h1 with h1 | h1
 ·rw [←h1]; exact hr e he hb
 ·exact T.down hc h1 (hr e he hb)
theorem pt.iff (T:pt P cf aB ops tx ft ord)(hc:mT ops S)(ho:ops[i]? = some oi)(hr:∀e∈oi.after,Region.binds .any e=true→S e.on=true)(hi:S i=false){k:Nat}(h:ord i k∨ord k i):S k=true↔k<i:=by
 rcases h with h | h
 ·have:=T.lt h
  refine⟨fun hk=>?_,fun _=>by omega⟩
  have:=T.down hc h hk
  rw [hi] at this; cases this
 ·exact⟨fun _=>T.lt h,fun _=>T.before hc ho hr h⟩
theorem sw (t:Nat)(k:Nat)(hd:gu ops k=some t)(hs:S k=true):(hU ops tx ft S (k+1)).ρ t=(tx (k+1)).ρ t:=by
 simp only [hU,hs,if_true,oE,hd]
theorem sy (t:Nat)(k:Nat)(h:¬gu ops k=some t∨S k=false):(hU ops tx ft S (k+1)).ρ t=(hU ops tx ft S k).ρ t:=by
 simp only [hU]
 split
 ·rename_i hs
  rcases h with h | h
  ·rw [oE,if_neg h]
  ·rw [h] at hs; cases hs
 ·rfl
theorem sB (b:Nat)(k:Nat)(hd:(ft k).wb=some b)(hs:S k=true):(hU ops tx ft S (k+1)).bx b=(tx (k+1)).bx b:=by
 simp only [hU,hs,if_true,lQ,hd]
theorem sC (b:Nat)(k:Nat)(h:¬(ft k).wb=some b∨S k=false):(hU ops tx ft S (k+1)).bx b=(hU ops tx ft S k).bx b:=by
 simp only [hU]
 split
 ·rename_i hs
  rcases h with h | h
  ·rw [lQ,if_neg h]
  ·rw [h] at hs; cases hs
 ·rfl
theorem sD (k:Nat)(hd:(ft k).wh=true)(hs:S k=true):(hU ops tx ft S (k+1)).h=(tx (k+1)).h:=by
 simp only [hU,hs,if_true,RS.shift,hd]
theorem sE (k:Nat)(h:¬(ft k).wh=true∨S k=false):(hU ops tx ft S (k+1)).h=(hU ops tx ft S k).h:=by
 simp only [hU]
 split
 ·rename_i hs
  rcases h with h | h
  ·simp only [RS.shift]; rw [if_neg h]
  ·rw [h] at hs; cases hs
 ·rfl
theorem pt.JP (T:pt P cf aB ops tx ft ord)(t:Nat)(k:Nat)(hk:k<ops.size)(h:¬gu ops k=some t):(tx (k+1)).ρ t=(tx k).ρ t:=by
 rw [T.shift hk,oE,if_neg h]
theorem pt.Hu (T:pt P cf aB ops tx ft ord)(b:Nat)(k:Nat)(hk:k<ops.size)(h:¬(ft k).wb=some b):(tx (k+1)).bx b=(tx k).bx b:=by
 rw [T.shift hk,lQ,if_neg h]
theorem pt.EW (T:pt P cf aB ops tx ft ord)(k:Nat)(hk:k<ops.size)(h:¬(ft k).wh=true):(tx (k+1)).h=(tx k).h:=by
 rw [T.shift hk]; simp only [RS.shift]; rw [if_neg h]
theorem pt.reads (T:pt P cf aB ops tx ft ord)(hc:mT ops S)(ho:ops[i]? = some oi)(hr:∀e∈oi.after,Region.binds .any e=true→S e.on=true)(hi:S i=false) :
  (∀t∈oi.looksAt ops,(hU ops tx ft S ops.size).ρ t=(tx i).ρ t)∧(∀b∈(ft i).rb,(hU ops tx ft S ops.size).bx b=(tx i).bx b)∧
  (∀id∈(ft i).rh,(hU ops tx ft S ops.size).h.get id=(tx i).h.get id)∧((ft i).wh=true→(hU ops tx ft S ops.size).h=(tx i).h):=by
 have hin:i<ops.size:=(Ro.1 ho).1
 have ED:∀k,k<ops.size→ops[k]? = some ops[k]!:=fun k hk=>by simp [hk]
 have kH:∀k,k=i→(S k=true↔k<i):=by
  rintro k rfl
  rw [hi]; simp
 refine⟨fun t ht=>?_,fun b hb=>?_,fun id hid=>?_,fun hw=>?_⟩
 ·refine lP (W:=fun k=>gu ops k=some t) (m:=fun k=>(hU ops tx ft S k).ρ t) (x:=fun k=>(tx k).ρ t) (S:=S) (Nat.le_of_lt hin) rfl (fun k _ h hs=>sw t k h hs) (fun k _ h=>sy t k h) (fun k hk h=>T.JP t k hk h) (fun k hk h=>?_)
  by_cases oD:k=i
  ·exact kH k oD
  ·obtain⟨y,hy,EX⟩:=QN.1 h
   rcases T.D2 k i y oi oD hy ho with h1 | h1 | h1
   ·exact T.iff hc ho hr hi (.inr h1)
   ·exact T.iff hc ho hr hi (.inl h1)
   ·exact absurd ht (h1 t EX).1
 ·refine lP (W:=fun k=>(ft k).wb=some b) (m:=fun k=>(hU ops tx ft S k).bx b) (x:=fun k=>(tx k).bx b) (S:=S) (Nat.le_of_lt hin) rfl (fun k _ h hs=>sB b k h hs) (fun k _ h=>sC b k h) (fun k hk h=>T.Hu b k hk h) (fun k hk h=>?_)
  by_cases oD:k=i
  ·exact kH k oD
  ·rcases T.boxes k i hk hin oD with h1 | h1 | h1
   ·exact T.iff hc ho hr hi (.inr h1)
   ·exact T.iff hc ho hr hi (.inl h1)
   ·exact absurd hb (h1.1 b h).1
 ·
  obtain⟨p,hp,Hi⟩:∃p,p≤ops.size∧∀k,k<ops.size→(ft k).wh=true→(S k=true↔k<p):=by
   have key:∀m,m≤ops.size→(∀k,k<m→(ft k).wh=true→S k=true)∨∃p,p<m∧(ft p).wh=true∧S p=false∧∀k,k<p→(ft k).wh=true→S k=true:=by
    intro m
    induction m with
    | zero=>intro _; exact .inl fun k hk=>by omega
    | succ m ih=>
     intro hm
     rcases ih (by omega) with h | ⟨p,h1,h2⟩
     ·by_cases hw:(ft m).wh=true∧S m=false
      ·exact .inr ⟨m,by omega,hw.1,hw.2,h⟩
      ·refine .inl fun k hk Ms=>?_
       by_cases Oo:k=m
       ·subst Oo
        cases hs:S k with
        | true=>rfl
        | false=>exact absurd ⟨Ms,hs⟩ hw
       ·exact h k (by omega) Ms
     ·exact .inr ⟨p,by omega,h2⟩
   rcases key ops.size (QS _) with h | ⟨p,h1,h2,h3,h4⟩
   ·exact⟨ops.size,QS _,fun k hk hw=>⟨fun _=>hk,fun _=>h k hk hw⟩⟩
   ·refine⟨p,by omega,fun k hk hw=>⟨fun hs=>?_,fun I3=>h4 k I3 hw⟩⟩
    rcases Nat.lt_or_ge k p with h5 | h5
    ·exact h5
    ·by_cases I3:k=p
     ·subst I3; rw [h3] at hs; cases hs
     ·rcases T.boxes p k h1 hk (R8 I3) with h6 | h6 | h6
      ·have:=T.down hc h6 hs; rw [h3] at this; cases this
      ·have:=T.lt h6; omega
      ·have:=(h6.2 h2).1; rw [hw] at this; cases this
  have EY:(hU ops tx ft S ops.size).h=(tx p).h:=
   lP (W:=fun k=>(ft k).wh=true) (m:=fun k=>(hU ops tx ft S k).h) (x:=fun k=>(tx k).h) (S:=S) hp rfl (fun k _ h hs=>sD k h hs) (fun k _ h=>sE k h) (fun k hk h=>T.EW k hk h) Hi
  rw [EY]
  have D4:∀k,k<ops.size→(p≤k∧k<i)∨(i≤k∧k<p)→(tx (k+1)).h.get id=(tx k).h.get id:=by
   intro k hk hb
   by_cases hw:(ft k).wh=true
   ·have hs:=Hi k hk hw
    have oD:k≠i:=by
     rintro rfl
     rcases hb with hb | hb
     ·omega
     ·have:=hs.2 hb.2; rw [hi] at this; cases this
    rcases T.boxes k i hk hin oD with h1 | h1 | h1
    ·have hlt:=T.lt h1
     have:=hs.1 (T.before hc ho hr h1)
     omega
    ·have hlt:=T.lt h1
     have:=T.down hc h1 (hs.2 (by omega))
     rw [hi] at this; cases this
    ·exact ((h1.2 hw).2 id hid).symm
   ·rw [T.EW k hk hw]
  have walk:∀a b,a≤b→b≤ops.size→(∀k,a≤k→k<b→(tx (k+1)).h.get id=(tx k).h.get id)→(tx b).h.get id=(tx a).h.get id:=by
   intro a b JQ
   induction b with
   | zero=>
     intro _ _; have:a=0:=by omega
     subst this; rfl
   | succ b ih=>
    intro hb hk
    by_cases JR:a=b+1
    ·subst JR; rfl
    ·rw [hk b (by omega) (by omega)]
     exact ih (by omega) (by omega) fun k h1 h2=>hk k h1 (by omega)
  rcases Nat.le_total p i with h | h
  ·exact (walk p i h (Nat.le_of_lt hin) fun k h1 h2=>D4 k (by omega) (.inl ⟨h1,h2⟩)).symm
  ·exact walk i p h hp fun k h1 h2=>D4 k (by omega) (.inr ⟨h1,h2⟩)
 ·refine lP (W:=fun k=>(ft k).wh=true) (m:=fun k=>(hU ops tx ft S k).h) (x:=fun k=>(tx k).h) (S:=S) (Nat.le_of_lt hin) rfl (fun k _ h hs=>sD k h hs) (fun k _ h=>sE k h) (fun k hk h=>T.EW k hk h) (fun k hk h=>?_)
  by_cases oD:k=i
  ·exact kH k oD
  ·rcases T.boxes k i hk hin oD with h1 | h1 | h1
   ·exact T.iff hc ho hr hi (.inr h1)
   ·exact T.iff hc ho hr hi (.inl h1)
   ·have:=(h1.2 h).1; rw [hw] at this; cases this
theorem tP (t:Nat):∀k,(hU ops tx ft S k).ρ t=(tx 0).ρ t∨∃j,j<k∧S j=true∧gu ops j=some t∧(hU ops tx ft S k).ρ t=(tx (j+1)).ρ t
 | 0=>.inl rfl
 | k+1=>by
  by_cases h:gu ops k=some t∧S k=true
  ·exact .inr ⟨k,by omega,h.2,h.1,sw t k h.1 h.2⟩
  ·have h':¬gu ops k=some t∨S k=false:=by
    by_cases h1:gu ops k=some t
    ·right; cases hs:S k with
     | true=>exact absurd ⟨h1,hs⟩ h
     | false=>rfl
    ·exact .inl h1
   rw [sy t k h']
   rcases tP t k with h1 | ⟨j,h1,h2⟩
   ·exact .inl h1
   ·exact .inr ⟨j,by omega,h2⟩
theorem pv {k:Nat}{ρ:Nat→AV}:∀{l:List Nat},(∀t∈l,∀off,ρ t≠.lp k off)→oS k ρ l=true
 | [],_=>rfl
 | t::l,h=>by
  simp only [oS,QR]
  refine⟨?_,pv fun u hu=>h u (by simp [hu])⟩
  have:=h t (by simp)
  split
  ·rename_i j off heq
   simp only [bne_iff_ne,ne_eq]
   rintro rfl
   exact this off heq
  ·rfl
open Classical in
theorem pt.next (T:pt P cf aB ops tx ft ord)(hc:mT ops S)(ho:ops[i]? = some oi)(hr:∀e∈oi.after,Region.binds .any e=true→S e.on=true)(hi:S i=false){S':Nat→Bool}(yT:∀k,S' k=if k=i then true else S k) :
  jE P cf aB ops.toList (hU ops tx ft S ops.size) oi=some (hU ops tx ft S' ops.size):=by
 have hin:i<ops.size:=(Ro.1 ho).1
 obtain⟨h1,h2,h3,h4⟩:=T.reads hc ho hr hi
 obtain⟨w,hw,xp⟩:=T.op i oi ho
 have n7:gu ops i=oi.dst:=by simp [gu,ho]
 have rA:∀j,i<j→j<ops.size→(ord i j∨ord j i)→S j=false:=by
  intro j tO hj h
  cases hs:S j with
  | false=>rfl
  | true=>have:=(T.iff hc ho hr hi h).1 hs; omega
 have EY:hU ops tx ft S' ops.size=(hU ops tx ft S ops.size).shift (ft i) (gu ops i) (tx (i+1)):=by
  refine RS.ext' (fun t=>?_) (fun b=>?_) ?_
  ·rw [oE]
   have:=sv (W:=fun k=>gu ops k=some t) (m:=fun k=>(hU ops tx ft S k).ρ t) (m':=fun k=>(hU ops tx ft S' k).ρ t) (x:=fun k=>(tx k).ρ t) (S:=S) (S':=S') hin rfl
    (fun k _ h hs=>sw t k h hs) (fun k _ h=>sy t k h) (fun k _ h hs=>sw t k h hs) (fun k _ h=>sy t k h) yT hi (fun GH j hj tO Hv=>by
     obtain⟨y,hy,EX⟩:=QN.1 Hv
     rw [n7] at GH
     rcases T.D2 i j oi y (by omega) ho hy with h | h | h
     ·exact rA j tO hj (.inl h)
     ·exact rA j tO hj (.inr h)
     ·exact absurd EX (h t GH).2)
   rw [this]
   by_cases hd:gu ops i=some t
   ·rw [if_pos hd,if_pos hd]
   ·rw [if_neg hd,if_neg hd]
  ·rw [lQ]
   have:=sv (W:=fun k=>(ft k).wb=some b) (m:=fun k=>(hU ops tx ft S k).bx b) (m':=fun k=>(hU ops tx ft S' k).bx b) (x:=fun k=>(tx k).bx b) (S:=S) (S':=S') hin rfl
    (fun k _ h hs=>sB b k h hs) (fun k _ h=>sC b k h) (fun k _ h hs=>sB b k h hs) (fun k _ h=>sC b k h) yT hi (fun GH j hj tO Hv=>by
     rcases T.boxes i j hin hj (by omega) with h | h | h
     ·exact rA j tO hj (.inl h)
     ·exact rA j tO hj (.inr h)
     ·exact absurd Hv (h.1 b GH).2)
   rw [this]
   by_cases hd:(ft i).wb=some b
   ·rw [if_pos hd,if_pos hd]
   ·rw [if_neg hd,if_neg hd]
  ·have:=sv (W:=fun k=>(ft k).wh=true) (m:=fun k=>(hU ops tx ft S k).h) (m':=fun k=>(hU ops tx ft S' k).h) (x:=fun k=>(tx k).h) (S:=S) (S':=S') hin rfl
    (fun k _ h hs=>sD k h hs) (fun k _ h=>sE k h) (fun k _ h hs=>sD k h hs) (fun k _ h=>sE k h) yT hi (fun GH j hj tO Hv=>by
     rcases T.boxes i j hin hj (by omega) with h | h | h
     ·exact rA j tO hj (.inl h)
     ·exact rA j tO hj (.inr h)
     ·have:=(h.2 GH).1; rw [Hv] at this; cases this)
   rw [this]
   simp only [RS.shift]
   by_cases hd:(ft i).wh=true
   ·rw [if_pos hd,if_pos hd]
   ·rw [if_neg hd,if_neg hd]
 have Hw:∀x∈oi.op.operands,bj (hU ops tx ft S ops.size).ρ x=bj (tx i).ρ x:=by
  intro x hx
  cases x with
  | tmp t=>
   refine h1 t ?_
   unfold Oper.looksAt
   rw [Q7]
   left
   rw [List.mem_filterMap]
   exact⟨.tmp t,RM.2 hx,rfl⟩
  | _=>rfl
 have Hx:eK ops.toList (hU ops tx ft S ops.size).ρ oi=eK ops.toList (tx i).ρ oi:=by
  unfold eK
  cases hg:oi.guard with
  | none=>rfl
  | some g=>
   obtain⟨g,want⟩:=g
   simp only
   cases hq:(ops.toList[g]?).bind (·.dst) with
   | none=>rfl
   | some d=>
    simp only [QM]
    rw [h1 d]
    unfold Oper.looksAt
    rw [Q7]
    right
    rw [hg]
    simp only
    have:(ops[g]?).bind (·.dst)=some d:=by simpa using hq
    rw [this]
    simp
 unfold jE
 rw [Hx,hw]
 simp only [QM]
 rw [EY,n7]
 cases w with
 | false=>
  simp only [Q6,if_false] at xp ⊢
  rw [xp.1,xp.2]
  congr 1
  exact fk (tx i) _ {} _ _ rfl rfl
 | true=>
  simp only [if_true] at xp ⊢
  obtain⟨xp,GI⟩:=xp
  unfold sa at xp ⊢
  rw [yS Hw,GI]
  rw [GI] at h2 h3 h4
  refine rz xp h2 h3 h4 (fun ly d vk=>pv fun t ht off he=>?_)
  rw [Su] at ht
  obtain⟨Oq,Ot⟩:=ht
  have DW:t≠d:=by simpa [beq_nat] using Ot
  obtain⟨l1,l2⟩:=T.JO i oi d ho (by rw [GI]; exact ly) vk
  rcases tP (ops:=ops) (tx:=tx) (ft:=ft) (S:=S) t ops.size with h | ⟨j,hj,hs,Ou,h⟩
  ·rw [h] at he
   exact l1 t Oq DW off he
  ·rw [h] at he
   obtain⟨y,hy,EX⟩:=QN.1 Ou
   have hji:j≠i:=by rintro rfl; rw [hi] at hs; cases hs
   rcases l2 j y t hy hji with h5 | h5
   ·have:=T.down hc h5 hs; rw [hi] at this; cases this
   ·exact h5 EX off he
theorem xq (T:pt P cf aB ops tx ft ord)(iO:∀k,k<ops.size→S k=true):∀k,k≤ops.size→hU ops tx ft S k=tx k
 | 0,_=>rfl
 | k+1,hk=>by
  simp only [hU,iO k (by omega),if_true]
  rw [xq T iO k (by omega)]
  exact (T.shift (by omega)).symm
def left (n:Nat)(S:Nat→Bool):Nat:=(SC n).countP fun j=>!S j
theorem yU {n:Nat}{S:Nat→Bool}(h:left n S=0):∀k,k<n→S k=true:=by
 intro k hk
 unfold left at h
 rw [List.countP_eq_zero] at h
 simpa using h k (List.mem_range.2 hk)
theorem An {n i:Nat}(hi:i<n){S S':Nat→Bool}(Ht:S i=false)(yT:∀k,S' k=if k=i then true else S k):left n S'+1=left n S:=by
 unfold left
 have:∀m,(SC m).countP (fun j=>!S' j)+(if i<m then 1 else 0)=(SC m).countP fun j=>!S j:=by
  intro m
  induction m with
  | zero=>simp
  | succ m ih=>
   rw [List.range_succ,List.countP_append,List.countP_append]
   simp only [List.countP_cons,List.countP_nil]
   by_cases hm:m=i
   ·subst hm
    have h1:S' m=true:=by rw [yT]; simp
    rw [h1,Ht]
    simp at ih ⊢
    omega
   ·have h1:S' m=S m:=by rw [yT,if_neg hm]
    rw [h1]
    by_cases Mt:i<m
    ·have h3:i<m+1:=by omega
     simp only [Mt,h3,if_true] at ih ⊢
     omega
    ·have h3:¬i<m+1:=by omega
     simp only [Mt,h3,if_false] at ih ⊢
     omega
 have:=this n
 rw [if_pos hi] at this
 exact this
theorem EZ (T:pt P cf aB ops tx ft ord)(hcf:CallOK P cf){L0:Nat→Prop}{c0:Cx}{n:Nat}(hb0:c0.base≤c0.w.heap.size)(tC:ry n ops.toList=true){Q:Exit→Act→World→Prop}
  (hQ:∀a' w',Inv L0 c0 n (ops.toList.filterMap (·.dst)) (tx ops.size) a' w'→Q .normal a' w') :
  ∀(fuel:Nat) (listed:Array Bool) (a:Act) (w:World),listed.size=ops.size→mT ops (fun j=>listed.getD j false)→left ops.size (fun j=>listed.getD j false)≤fuel→
   Inv L0 c0 n (ops.toList.filterMap (·.dst)) (hU ops tx ft (fun j=>listed.getD j false) ops.size) a w→wpAny P .any ops Q fuel listed a w:=by
 intro fuel
 have Ao:∀(listed:Array Bool) a w,listed.size=ops.size→Region.ready .any ops listed=[]→Inv L0 c0 n (ops.toList.filterMap (·.dst)) (hU ops tx ft (fun j=>listed.getD j false) ops.size) a w→Q .normal a w:=by
  intro listed a w hsz GJ hi
  have iO:∀k,k<ops.size→listed.getD k false=true:=by
   intro k
   induction k using Nat.strongRecOn with
   | _ k ih=>
    intro hk
    cases hl:listed.getD k false with
    | true=>rfl
    | false=>
     have:k∈Region.ready .any ops listed:=mem_ready.2 ⟨getD_in (by omega) hl,ops[k],by simp [hk],fun e he hb=>by
      have:=T.back k ops[k] (by simp [hk]) e he hb
      exact ih e.on this (by omega)⟩
     rw [GJ] at this
     cases this
  rw [xq (S:=fun j=>listed.getD j false) T iO _ (QS _)] at hi
  exact hQ a w hi
 induction fuel with
 | zero=>
  intro listed a w hsz hc hl hi
  have iO:=yU (Nat.le_zero.1 hl)
  have GJ:Region.ready .any ops listed=[]:=by
   rw [List.eq_nil_iff_forall_not_mem]
   intro j hj
   obtain⟨h1,o,ho,_⟩:=mem_ready.1 hj
   have JS:j<ops.size:=(Ro.1 ho).1
   have h2:=iO j JS
   have Ap:j<listed.size:=by omega
   simp [Ap] at h1 h2
   rw [h1] at h2; cases h2
  exact⟨GJ,Ao listed a w hsz GJ hi⟩
 | succ fuel ih=>
  intro listed a w hsz hc hl hi
  refine⟨fun GJ=>Ao listed a w hsz GJ hi,fun i sF=>?_⟩
  obtain⟨h1,o,ho,Hy⟩:=mem_ready.1 sF
  have hin:i<ops.size:=(Ro.1 ho).1
  have vT:i<listed.size:=by omega
  have Ht:listed.getD i false=false:=by simp [vT] at h1 ⊢; exact h1
  have yT:∀k,(listed.setIfInBounds i true).getD k false=if k=i then true else listed.getD k false:=by
   intro k
   by_cases hk:k=i
   ·subst hk
    rw [if_pos rfl]
    simp [vT]
   ·rw [if_neg hk,getD_set_ne false (R8 hk)]
  have hst:=T.next (S:=fun j=>listed.getD j false) (S':=fun k=>(listed.setIfInBounds i true).getD k false) hc ho Hy Ht yT
  unfold wpOp
  rw [ho]
  simp only
  have Hz:o∈ops.toList:=RM.2 (Array.mem_of_getElem? ho)
  have:=tK (Q:=Q) (K:=wpAny P .any ops Q fuel (listed.setIfInBounds i true)) hcf hb0 rfl (tL tC Hz) hst hi (fun a' w' ju=>by
   refine ih _ a' w' (by simpa using hsz) ?_ ?_ ju
   ·intro j oj JT hj e he hb
    dsimp only at hj ⊢
    rw [yT] at hj ⊢
    by_cases hji:j=i
    ·subst hji
     rw [ho] at JT
     cases JT
     have:=Hy e he hb
     rw [this]; simp
    ·rw [if_neg hji] at hj
     have:=hc j oj JT hj e he hb
     simp only at this
     rw [this]; simp
   ·have:=An hin (S:=fun j=>listed.getD j false) Ht yT
    omega)
  split
  ·rename_i hw; rw [if_pos hw] at this; exact .inl this
  ·rename_i hw; rw [if_neg hw] at this; exact this
theorem rB {opsL:List Oper}:∀(l:List Oper) (s r:RS) (es:List oz),mN P cf aB opsL s l=some (es,r)→∃tx:Nat→RS,tx 0=s∧tx l.length=r∧
  ∀k o,l[k]? = some o→∃w,eK opsL (tx k).ρ o=some w∧(if w then sa P cf aB (opsL.filterMap (·.dst)) (tx k) o=some (tx (k+1)) else tx (k+1)=(tx k).set o.dst (.tup []))∧
   es[k]? = some {o,f:=if w then aN aB (bj (tx k).ρ) o else {},s:=tx k,s':=tx (k+1)}
 | [],s,r,es,h=>by
  simp only [mN,QQ,QV] at h
  obtain⟨rfl,rfl⟩:=h
  exact⟨fun _=>s,rfl,rfl,fun k o ho=>by simp at ho⟩
 | o::l,s,r,es,h=>by
  simp only [mN,QN,QP] at h
  obtain⟨w,hw,s1,h1,⟨nv,r'⟩,h2,h3⟩:=h
  simp only [QV] at h3
  obtain⟨rfl,rfl⟩:=h3
  obtain⟨tx,t0,tn,ht⟩:=rB l s1 r' nv h2
  refine⟨fun | 0=>s | k+1=>tx k,rfl,tn,fun k o' ho=>?_⟩
  cases k with
  | zero=>
   simp only [RC,QQ] at ho
   subst ho
   refine⟨w,hw,?_,?_⟩
   ·cases w with
    | true=>simpa [t0] using h1
    | false=>
     simp only [Q6,if_false,QQ] at h1 ⊢
     rw [t0]; exact h1.symm
   ·simp [t0]
  | succ k=>
   obtain⟨w',h4,h5,h6⟩:=ht k o' (by simpa using ho)
   exact⟨w',h4,h5,by simpa using h6⟩
theorem Aq {e:Operand→AV}{o:Oper}(h:(aN aB e o).al=true):(aN aB e o).wb.isSome=true:=by
 unfold aN at h ⊢
 split at h<;>try (cases h; done)
 all_goals (split at h<;>try (cases h; done))
 all_goals (split at h<;>try (cases h; done))
 all_goals simp_all
theorem yV {k:Nat}{x:AV}(h:EC k x=false):∀off,x≠.lp k off:=by
 rintro off rfl
 simp [EC] at h
theorem Ar (hm:P.follows .mixedOrders=true)(hcf:CallOK P cf)(Ov:SteadyF cf):vR P cf:=by
 intro L0 c0 n aB id ops s s' h hb0 tC a w Q hi hQ
 unfold ja at h
 dsimp only at h
 split at h
 rotate_left
 ·cases h
 rename_i sG
 rw [QN] at h
 obtain⟨⟨es,r⟩,vI,h⟩:=h
 simp only at h
 split at h
 rotate_left
 ·cases h
 rename_i tQ
 cases h
 obtain⟨tx,t0,tn,ht⟩:=rB ops.toList s s' es vI
 generalize G3:gN [] ops.toList=ms at sG tQ
 have JU:∀k i,(ms.getD i 0).testBit k=true→∃o,ops[i]? = some o∧∃e∈o.after,Region.binds .any e=true∧(e.on=k∨(ms.getD e.on 0).testBit k=true):=by
  intro k i hk
  obtain⟨o,ho,e,he,hb,h1⟩:=(nI ops.toList []).2 i k (by rw [G3]; exact hk) (by simp)
  refine⟨o,by simpa using ho,e,RM.1 he,hb,?_⟩
  rw [G3] at h1
  exact h1
 unfold mM at sG
 simp only [QR] at sG
 obtain⟨E0,As⟩:=sG
 let ft:Nat→iE:=fun k=>((es[k]?).map (·.f)).getD {}
 have pa:∀k o,ops[k]? = some o→∃w,eK ops.toList (tx k).ρ o=some w∧(if w then sa P cf aB (ops.toList.filterMap (·.dst)) (tx k) o=some (tx (k+1)) else tx (k+1)=(tx k).set o.dst (.tup []))∧
   es[k]? = some {o,f:=ft k,s:=tx k,s':=tx (k+1)}∧ft k=if w then aN aB (bj (tx k).ρ) o else {}:=by
  intro k o ho
  obtain⟨w,h1,h2,h3⟩:=ht k o (by simpa using ho)
  have GI:ft k=if w then aN aB (bj (tx k).ρ) o else {}:=by simp only [ft,h3,QU,RP]
  exact⟨w,h1,h2,by rw [GI]; exact h3,GI⟩
 have sF:∀k o,ops[k]? = some o→((⟨o,ft k,tx k,tx (k+1)⟩:oz),k)∈es.zipIdx:=by
  intro k o ho
  obtain⟨w,_,_,h3,_⟩:=pa k o ho
  exact List.mk_mem_zipIdx_iff_getElem?.2 h3
 simp only [Rd,Su,QR] at tQ
 have vi:∀k o,ops[k]? = some o→(ft k).quiet=false→(((⟨o,ft k,tx k,tx (k+1)⟩:oz),k)∈es.zipIdx∧(!(ft k).quiet)=true):=fun k o ho hq=>⟨sF k o ho,by rw [hq]; rfl⟩
 have ED:∀k,k<ops.size→ops[k]? = some ops[k]!:=fun k hk=>by simp [hk]
 have E1:∀i j x y,ops[i]? = some x→ops[j]? = some y→i≠j→(ft i).quiet=false→(ft j).quiet=false→(ms.getD j 0).testBit i=true∨(ms.getD i 0).testBit j=true∨
   oz.mL ⟨x,ft i,tx i,tx (i+1)⟩ ⟨y,ft j,tx j,tx (j+1)⟩=true:=by
  intro i j x y hx hy tO CB CC
  rcases Nat.lt_or_ge i j with hlt | hge
  ·have:=(tQ _ (vi i x hx CB)).2 _ (vi j y hy CC)
   simp only [RD,QR] at this
   rcases this with (h1 | h1) | h1
   ·have:=Nat.le_of_ble_eq_true h1; omega
   ·exact .inl h1
   ·exact .inr (.inr h1.1)
  ·have:=(tQ _ (vi j y hy CC)).2 _ (vi i x hx CB)
   simp only [RD,QR] at this
   rcases this with (h1 | h1) | h1
   ·have:=Nat.le_of_ble_eq_true h1; omega
   ·exact .inr (.inl h1)
   ·exact .inr (.inr h1.2)
 have JV:∀id,(tx 0).h.ver id<(tx 0).h.next:=by
  obtain⟨_,c,Lo,lam,_,f,_⟩:=hi
  rw [t0,←f.h]; exact f.rel.ver
 have hst:∀k,k<ops.size→Steady (tx k).h (tx (k+1)).h:=by
  intro k hk
  obtain⟨w,h1,h2,_⟩:=pa k _ (ED k hk)
  cases w with
  | true=>exact pq Ov (by simpa [sa] using h2)
  | false=>
   simp only [Q6,if_false] at h2
   rw [h2,gr]; exact Steady.refl _
 have I4:∀k,k≤ops.size→∀id,(tx k).h.ver id<(tx k).h.next:=by
  intro k
  induction k with
  | zero=>intro _; exact JV
  | succ k ih=>intro hk; exact (hst k (by omega)).wf (ih (by omega))
 have T:pt P cf aB ops tx ft (fun k i=>(ms.getD i 0).testBit k=true):=by
  refine⟨fun k o ho=>?_,JU,fun i o ho e he hb=>?_,fun i j x y tO hx hy=>?_,fun i j hin JS tO=>?_,fun i o d ho ly hd=>?_⟩
  ·obtain⟨w,h1,h2,h3,h4⟩:=pa k o ho
   refine⟨w,h1,?_⟩
   cases w with
   | true=>exact⟨h2,h4⟩
   | false=>exact⟨h2,h4⟩
  ·have:=lO _ 0 E0 i o (by simpa using ho) e (RM.2 he) hb
   omega
  ·have nJ:∀x y:Oper,sb ops x y=true→∀d,x.dst=some d→d∉y.looksAt ops∧y.dst≠some d:=by
    intro x y h d hd
    unfold sb at h
    rw [hd] at h
    simpa using h
   rcases Nat.lt_or_ge i j with hlt | hge
   ·have:=iy _ _ 0 As i j x y hlt (by simpa using hx) (by simpa using hy)
    simp only [Re,RD,QR] at this
    rcases this with h1 | h1
    ·exact .inl h1
    ·exact .inr (.inr (nJ _ _ h1.1))
   ·have:=iy _ _ 0 As j i y x (by omega) (by simpa using hy) (by simpa using hx)
    simp only [Re,RD,QR] at this
    rcases this with h1 | h1
    ·exact .inr (.inl h1)
    ·exact .inr (.inr (nJ _ _ h1.2))
  ·cases CB:(ft i).quiet with
   | true=>
    unfold iE.quiet at CB
    simp only [QR,Option.isNone_iff_eq_none,Sh] at CB
    exact .inr (.inr ⟨fun k hk=>(by rw [CB.1.1.2] at hk; cases hk),fun hk=>(by rw [CB.2] at hk; cases hk)⟩)
   | false=>
    cases CC:(ft j).quiet with
    | true=>
     unfold iE.quiet at CC
     simp only [QR,Option.isNone_iff_eq_none,Sh,List.isEmpty_iff] at CC
     obtain⟨⟨⟨q1,q2⟩,q3⟩,q4⟩:=CC
     exact .inr (.inr ⟨fun k hk=>⟨by rw [q1]; simp,by rw [q2]; simp⟩,fun hk=>⟨q4,by rw [q3]; simp⟩⟩)
    | false=>
     rcases E1 i j _ _ (ED i hin) (ED j JS) tO CB CC with h1 | h1 | h1
     ·exact .inl h1
     ·exact .inr (.inl h1)
     ·refine .inr (.inr ?_)
      unfold oz.mL at h1
      simp only [QR,RD,Sh,Rd] at h1
      obtain⟨h2,h3⟩:=h1
      refine⟨fun k hk=>?_,fun hk=>?_⟩
      ·rw [hk] at h2
       simpa using h2
      ·rcases h3 with h3 | h3
       ·rw [hk] at h3; cases h3
       ·refine⟨h3.1,fun id hid=>?_⟩
        have hv:=R7 (h3.2 id hid)
        rcases (hst i hin).eL id with⟨_,h5⟩| h5
        ·exact h5.symm
        ·have:=I4 i (by omega) id; omega
  ·obtain⟨w,h1,h2,h3,h4⟩:=pa i o ho
   have hq:(ft i).quiet=false:=by
    cases w with
    | false=>rw [h4] at ly; cases ly
    | true=>
     rw [h4] at ly ⊢
     have:=Aq ly
     unfold iE.quiet
     simp only [if_true] at this ⊢
     cases hwb:(aN aB (bj (tx i).ρ) o).wb with
     | none=>rw [hwb] at this; cases this
     | some k=>simp
   have:=(tQ _ (vi i o ho hq)).1
   unfold sc at this
   simp only [ly,hd] at this
   simp only [QR,Rd,RD] at this
   obtain⟨k1,k2⟩:=this
   refine⟨fun t ht DW off=>?_,fun j y t hy hji=>?_⟩
   ·rw [t0]
    exact mP k1 t (by rw [Su]; exact⟨ht,by simpa [beq_nat] using DW⟩) off
   ·have:=k2 _ (sF j y hy)
    rcases this with (h5 | h5) | h5
    ·have:=R7 h5; omega
    ·exact .inl h5
    ·right
     intro EX off
     simp only [oz.out,EX,Sh] at h5
     exact yV h5 off
 have hlen:tx ops.size=s':=by simpa using tn
 refine wp_region_any hm ?_
 refine EZ T hcf hb0 tC (fun a' w' ju=>hQ a' w' (by rw [hlen] at ju; exact ju)) ops.size _ _ _ (by simp) ?_ ?_ ?_
 ·intro j o _ hj
  simp only [getD_replicate_false] at hj
  cases hj
 ·unfold left
  exact RG (List.countP_le_length) (by simp)
 ·have Ac:∀k,hU ops tx ft (fun j=>(Array.replicate ops.size false).getD j false) k=tx 0:=by
   intro k
   induction k with
   | zero=>rfl
   | succ k ih=>
    rw [hU,getD_replicate_false,if_neg (by simp)]
    exact ih
  rw [Ac,t0]
  exact hi.drew
end
end Go.R
namespace Go.R
open Go
section
variable {c d:Cx}{L L':Nat→Prop}
mutual
theorem xt (hw:d.w=c.w)(hbs:d.base≤c.base)(jg:∀b,RO c L b→RO d L' b):∀(x:AV) (v:Value),x.cE=true→VR c L x v→VR d L' x v
 | .any,_,h,_=>by simp [AV.cE] at h
 | .bool _,_,_,h=>h
 | .int _ _,_,_,h=>h
 | .str _,_,_,h=>h
 | .nY,_,_,h=>h
 | .ptr _ _,_,h,_=>by simp [AV.cE] at h
 | .lp _ _,_,h,_=>by simp [AV.cE] at h
 | .fp cs off,v,h,hv=>by
  simp only [AV.cE] at h
  simp only [VR] at hv ⊢
  obtain⟨b,o,rfl,hc⟩:=hv
  exact⟨b,o,rfl,hc.imp id fun ⟨hr,hc⟩=>⟨jg b hr,kY hw hbs jg cs b o h hc⟩⟩
 | .nils,_,_,h=>h
 | .fz cs n ex,v,h,hv=>by
  simp only [AV.cE] at h
  simp only [VR] at hv ⊢
  obtain⟨a,cap,rfl,h1,h2,hs,hc⟩:=hv
  exact⟨a,cap,rfl,h1,h2,hs,hc.imp id fun ⟨b,o,ha,hr,hex,hc⟩=>⟨b,o,ha,jg b hr,fun h=>RG hbs (hex h),kY hw hbs jg cs b o h hc⟩⟩
 | .rs _ _ _ _,_,h,_=>by simp [AV.cE] at h
 | .kO,_,_,h=>h
 | .mp _,_,h,_=>by simp [AV.cE] at h
 | .fn f cap,v,h,hv=>by
  simp only [AV.cE] at h
  simp only [VR] at hv ⊢
  obtain⟨vs,rfl,h1⟩:=hv
  exact⟨vs,rfl,lR hw hbs jg cap vs.toList h h1⟩
 | .oN,_,_,h=>h
 | .agg cs,v,h,hv=>by
  simp only [AV.cE] at h
  simp only [VR] at hv ⊢
  obtain⟨vs,rfl,h1⟩:=hv
  exact⟨vs,rfl,lR hw hbs jg cs vs.toList h h1⟩
 | .tup cs,v,h,hv=>by
  simp only [AV.cE] at h
  simp only [VR] at hv ⊢
  obtain⟨vs,rfl,h1⟩:=hv
  exact⟨vs,rfl,lR hw hbs jg cs vs.toList h h1⟩
theorem lR (hw:d.w=c.w)(hbs:d.base≤c.base)(jg:∀b,RO c L b→RO d L' b):∀(xs:List AV) (vs:List Value),bS xs=true→VRs c L xs vs→VRs d L' xs vs
 | [],[],_,_=>trivial
 | x::xs,v::vs,h,hv=>by
  simp only [bS,QR] at h
  exact⟨xt hw hbs jg x v h.1 hv.1,lR hw hbs jg xs vs h.2 hv.2⟩
 | [],_::_,_,h=>h.elim
 | _::_,[],_,h=>h.elim
theorem kY (hw:d.w=c.w)(hbs:d.base≤c.base)(jg:∀b,RO c L b→RO d L' b):∀(xs:List AV) (b o:Nat),bS xs=true→Cells c L xs b o→Cells d L' xs b o
 | [],_,_,_,_=>trivial
 | x::xs,b,o,h,hv=>by
  simp only [bS,QR] at h
  obtain⟨⟨v,h1,h2,h3⟩,h4⟩:=hv
  exact⟨⟨v,by rw [hw]; exact h1,h2,xt hw hbs jg x v h.1 h3⟩,kY hw hbs jg xs b (o+1) h.2 h4⟩
end
mutual
theorem sH (hw:d.w=c.w)(jg:∀b,RO c L b→RO d L' b):∀(x:AV) (v:Value),x.cE=true→VR c L x v→VR d L' x.hX v
 | .any,_,h,_=>by simp [AV.cE] at h
 | .bool _,_,_,h=>h
 | .int _ _,_,_,h=>h
 | .str _,_,_,h=>h
 | .nY,_,_,h=>h
 | .ptr _ _,_,h,_=>by simp [AV.cE] at h
 | .lp _ _,_,h,_=>by simp [AV.cE] at h
 | .fp cs off,v,h,hv=>by
  simp only [AV.cE] at h
  simp only [VR,AV.hX] at hv ⊢
  obtain⟨b,o,rfl,hc⟩:=hv
  refine⟨b,o,rfl,?_⟩
  rcases hc with rfl | ⟨hr,hc⟩
  ·exact .inl rfl
  ·exact .inr ⟨jg b hr,mU hw jg cs b o h hc⟩
 | .nils,v,_,h=>by
  simp only [VR] at h
  simp only [AV.hX,VR]
  exact⟨none,0,h,QS _,by simp,.inr ⟨trivial,rfl⟩,.inl trivial⟩
 | .fz cs n ex,v,h,hv=>by
  simp only [AV.cE] at h
  simp only [VR,AV.hX] at hv ⊢
  obtain⟨a,cap,rfl,h1,h2,hs,hc⟩:=hv
  refine⟨a,cap,rfl,h1,by simp,hs.imp id fun h=>⟨by rw [h.1]; rfl,h.2⟩,?_⟩
  rcases hc with rfl | ⟨b,o,ha,hr,hex,hc⟩
  ·exact .inl rfl
  ·exact .inr ⟨b,o,ha,jg b hr,by simp,mU hw jg cs b o h hc⟩
 | .rs _ _ _ _,_,h,_=>by simp [AV.cE] at h
 | .kO,_,_,h=>h
 | .mp _,_,h,_=>by simp [AV.cE] at h
 | .fn f cap,v,h,hv=>by
  simp only [AV.cE] at h
  simp only [VR,AV.hX] at hv ⊢
  obtain⟨vs,rfl,h1⟩:=hv
  exact⟨vs,rfl,lS hw jg cap vs.toList h h1⟩
 | .oN,_,_,h=>h
 | .agg cs,v,h,hv=>by
  simp only [AV.cE] at h
  simp only [VR,AV.hX] at hv ⊢
  obtain⟨vs,rfl,h1⟩:=hv
  exact⟨vs,rfl,lS hw jg cs vs.toList h h1⟩
 | .tup cs,v,h,hv=>by
  simp only [AV.cE] at h
  simp only [VR,AV.hX] at hv ⊢
  obtain⟨vs,rfl,h1⟩:=hv
  exact⟨vs,rfl,lS hw jg cs vs.toList h h1⟩
theorem lS (hw:d.w=c.w)(jg:∀b,RO c L b→RO d L' b):∀(xs:List AV) (vs:List Value),bS xs=true→VRs c L xs vs→VRs d L' (cu xs) vs
 | [],[],_,_=>trivial
 | x::xs,v::vs,h,hv=>by
  simp only [bS,QR] at h
  exact⟨sH hw jg x v h.1 hv.1,lS hw jg xs vs h.2 hv.2⟩
 | [],_::_,_,h=>h.elim
 | _::_,[],_,h=>h.elim
theorem mU (hw:d.w=c.w)(jg:∀b,RO c L b→RO d L' b):∀(xs:List AV) (b o:Nat),bS xs=true→Cells c L xs b o→Cells d L' (cu xs) b o
 | [],_,_,_,_=>trivial
 | x::xs,b,o,h,hv=>by
  simp only [bS,QR] at h
  obtain⟨⟨v,h1,h2,h3⟩,h4⟩:=hv
  exact⟨⟨v,by rw [hw]; exact h1,h2,sH hw jg x v h.1 h3⟩,mU hw jg xs b (o+1) h.2 h4⟩
end
mutual
theorem mV (hw:d.w=c.w)(jg:∀b,RO c L b→RO d L' b)(hrel:HRel c L)(hid:∀id,Live c.h id→RO d L' (c.β id).1):∀(n:Nat) (x y:AV) (v:Value),bT c.h n x=some y→VR c L x v→VR d L' y v
 | 0,x,y,v,h,_=>by simp [bT] at h
 | n+1,x,y,v,h,hv=>by
  have JW:(if x.cE then some x.hX else none)=some y→VR d L' y v:=by
   intro h
   split at h
   ·rename_i hn; cases h; exact sH hw jg x v hn hv
   ·cases h
  cases x with
  | ptr id off=>
   simp only [bT,QN] at h
   obtain⟨ob,ho,h⟩:=h
   cases ob with
   | map es=>cases h
   | row t cs=>cases h
   | cells cs=>
    simp only [QP] at h
    obtain⟨ej,hcs,rfl⟩:=h
    have hl:Live c.h id:=⟨hrel.lt _ _ ho,by simp [ho]⟩
    obtain⟨m,_,_,hc⟩:=hrel.obj _ _ ho
    simp only [VR] at hv ⊢
    obtain⟨_,a,rfl,ha⟩:=hv
    rw [ha hl]
    exact⟨_,_,rfl,.inr ⟨hid id hl,gX hw jg hrel hid n cs ej _ _ hcs hc⟩⟩
  | rs id off len fS=>
   simp only [bT] at h
   split at h
   ·rename_i hid
    split at h
    rotate_left
    ·cases h
    rename_i hl0
    cases h
    simp only [VR] at hv ⊢
    rcases hv with⟨_,_,_,a,rfl⟩| hv
    ·exact⟨a,0,rfl,QS _,by simp,.inr ⟨trivial,rfl⟩,.inl trivial⟩
    ·exact absurd hid hv.1
   rename_i iK
   rw [QN] at h
   obtain⟨ob,ho,h⟩:=h
   cases ob with
   | map es=>cases h
   | row t cs=>cases h
   | cells cs=>
    simp only at h
    split at h
    rotate_left
    ·cases h
    rename_i hle
    simp only [QP] at h
    obtain⟨ej,hcs,rfl⟩:=h
    have hl:Live c.h id:=⟨hrel.lt _ _ ho,by simp [ho]⟩
    obtain⟨m,_,_,hc⟩:=hrel.obj _ _ ho
    simp only [VR] at hv ⊢
    rcases hv with hv | ⟨_,_,a,cap,rfl,h1,h2,h3⟩
    ·exact absurd hv.1 iK
    refine⟨a,cap,rfl,h1,by simp,.inl h2,?_⟩
    rcases h3 hl with⟨h4,_⟩| h4
    ·exact .inr ⟨_,_,h4,hid id hl,by simp,gX hw jg hrel hid n _ ej _ _ hcs ((hc.drop off).take (len*fS))⟩
    ·left
     have hz:len=0:=by omega
     subst hz
     rw [Nat.zero_mul,List.take_zero] at hcs
     cases n with
     | zero=>simp [bo] at hcs
     | succ n=>simp only [bo,QQ] at hcs; exact hcs.symm
  | agg cs=>
   simp only [bT,QP] at h
   obtain⟨ej,hcs,rfl⟩:=h
   simp only [VR] at hv ⊢
   obtain⟨vs,rfl,h1⟩:=hv
   exact⟨vs,rfl,ie hw jg hrel hid n cs ej vs.toList hcs h1⟩
  | tup cs=>
   simp only [bT,QP] at h
   obtain⟨ej,hcs,rfl⟩:=h
   simp only [VR] at hv ⊢
   obtain⟨vs,rfl,h1⟩:=hv
   exact⟨vs,rfl,ie hw jg hrel hid n cs ej vs.toList hcs h1⟩
  | _=>exact JW (by simpa only [bT] using h)
theorem ie (hw:d.w=c.w)(jg:∀b,RO c L b→RO d L' b)(hrel:HRel c L)(hid:∀id,Live c.h id→RO d L' (c.β id).1):∀(n:Nat) (xs ys:List AV) (vs:List Value),bo c.h n xs=some ys→VRs c L xs vs→VRs d L' ys vs
 | 0,xs,ys,vs,h,_=>by simp [bo] at h
 | n+1,[],ys,vs,h,hv=>by
  simp only [bo,QQ] at h
  subst h
  cases vs with
  | nil=>trivial
  | cons v vs=>exact hv.elim
 | n+1,x::xs,ys,vs,h,hv=>by
  simp only [bo,QN,QP] at h
  obtain⟨y,hy,zs,hz,rfl⟩:=h
  cases vs with
  | nil=>exact hv.elim
  | cons v vs=>exact⟨mV hw jg hrel hid n x y v hy hv.1,ie hw jg hrel hid n xs zs vs hz hv.2⟩
theorem gX (hw:d.w=c.w)(jg:∀b,RO c L b→RO d L' b)(hrel:HRel c L)(hid:∀id,Live c.h id→RO d L' (c.β id).1):∀(n:Nat) (xs ys:List AV) (b o:Nat),bo c.h n xs=some ys→Cells c L xs b o→Cells d L' ys b o
 | 0,xs,ys,b,o,h,_=>by simp [bo] at h
 | n+1,[],ys,b,o,h,hv=>by
  simp only [bo,QQ] at h
  subst h
  trivial
 | n+1,x::xs,ys,b,o,h,hv=>by
  simp only [bo,QN,QP] at h
  obtain⟨y,hy,zs,hz,rfl⟩:=h
  obtain⟨⟨v,h1,h2,h3⟩,h4⟩:=hv
  exact⟨⟨v,by rw [hw]; exact h1,h2,mV hw jg hrel hid n x y v hy h3⟩,gX hw jg hrel hid n xs zs b (o+1) hz h4⟩
end
mutual
theorem kZ (hw:d.w=c.w)(hrel:HRel c L)(hid:∀id,Live c.h id→RO d L' (c.β id).1):∀(n:Nat) (x y:AV) (v:Value),dP c.h n x=some y→VR c L x v→VR d L' y v
 | 0,x,y,v,h,_=>by simp [dP] at h
 | n+1,x,y,v,h,hv=>by
  unfold dP at h
  split at h
  ·cases h; exact hv
  ·cases h; exact hv
  ·cases h; exact hv
  ·cases h; exact hv
  ·cases h; exact hv
  ·cases h; exact hv
  ·cases h
   simp only [VR] at hv ⊢
   exact⟨none,0,hv,QS _,by simp,.inr ⟨trivial,rfl⟩,.inl trivial⟩
  ·cases h
   simp only [VR] at hv ⊢
   obtain⟨a,cap,rfl,h1,h2,hs,_⟩:=hv
   exact⟨a,cap,rfl,h1,by simp,hs,.inl trivial⟩
  ·rename_i id off len fS
   split at h
   ·rename_i iK
    split at h
    rotate_left
    ·cases h
    rename_i hl0
    cases h
    simp only [VR] at hv ⊢
    rcases hv with⟨_,_,_,a,rfl⟩| hv
    ·exact⟨a,0,rfl,QS _,by simp,.inr ⟨trivial,rfl⟩,.inl trivial⟩
    ·exact absurd iK hv.1
   rename_i iK
   rw [QN] at h
   obtain⟨ob,ho,h⟩:=h
   cases ob with
   | map es=>cases h
   | row t cs=>cases h
   | cells cs=>
    simp only at h
    split at h
    rotate_left
    ·cases h
    rename_i hle
    simp only [QP] at h
    obtain⟨ej,hcs,rfl⟩:=h
    have hl:Live c.h id:=⟨hrel.lt _ _ ho,by simp [ho]⟩
    obtain⟨m,_,_,hc⟩:=hrel.obj _ _ ho
    simp only [VR] at hv ⊢
    rcases hv with hv | ⟨_,_,a,cap,rfl,h1,h2,h3⟩
    ·exact absurd hv.1 iK
    refine⟨a,cap,rfl,h1,by simp,.inl h2,?_⟩
    rcases h3 hl with⟨h4,_⟩| h4
    ·exact .inr ⟨_,_,h4,hid id hl,by simp,jv hw hrel hid n _ ej _ _ hcs ((hc.drop off).take (len*fS))⟩
    ·left
     have hz:len=0:=by omega
     subst hz
     rw [Nat.zero_mul,List.take_zero] at hcs
     cases n with
     | zero=>simp [bY] at hcs
     | succ n=>simp only [bY,QQ] at hcs; exact hcs.symm
  ·rename_i cs
   simp only [QP] at h
   obtain⟨ej,hcs,rfl⟩:=h
   simp only [VR] at hv ⊢
   obtain⟨vs,rfl,h1⟩:=hv
   exact⟨vs,rfl,jO hw hrel hid n cs ej vs.toList hcs h1⟩
  ·rename_i cs
   simp only [QP] at h
   obtain⟨ej,hcs,rfl⟩:=h
   simp only [VR] at hv ⊢
   obtain⟨vs,rfl,h1⟩:=hv
   exact⟨vs,rfl,jO hw hrel hid n cs ej vs.toList hcs h1⟩
  ·cases h
theorem jO (hw:d.w=c.w)(hrel:HRel c L)(hid:∀id,Live c.h id→RO d L' (c.β id).1):∀(n:Nat) (xs ys:List AV) (vs:List Value),bY c.h n xs=some ys→VRs c L xs vs→VRs d L' ys vs
 | 0,xs,ys,vs,h,_=>by simp [bY] at h
 | n+1,[],ys,vs,h,hv=>by
  simp only [bY,QQ] at h
  subst h
  cases vs with
  | nil=>trivial
  | cons v vs=>exact hv.elim
 | n+1,x::xs,ys,vs,h,hv=>by
  simp only [bY,QN,QP] at h
  obtain⟨y,hy,zs,hz,rfl⟩:=h
  cases vs with
  | nil=>exact hv.elim
  | cons v vs=>exact⟨kZ hw hrel hid n x y v hy hv.1,jO hw hrel hid n xs zs vs hz hv.2⟩
theorem jv (hw:d.w=c.w)(hrel:HRel c L)(hid:∀id,Live c.h id→RO d L' (c.β id).1):∀(n:Nat) (xs ys:List AV) (b o:Nat),bY c.h n xs=some ys→Cells c L xs b o→Cells d L' ys b o
 | 0,xs,ys,b,o,h,_=>by simp [bY] at h
 | n+1,[],ys,b,o,h,hv=>by
  simp only [bY,QQ] at h
  subst h
  trivial
 | n+1,x::xs,ys,b,o,h,hv=>by
  simp only [bY,QN,QP] at h
  obtain⟨y,hy,zs,hz,rfl⟩:=h
  obtain⟨⟨v,h1,h2,h3⟩,h4⟩:=hv
  exact⟨⟨v,by rw [hw]; exact h1,h2,kZ hw hrel hid n x y v hy h3⟩,jv hw hrel hid n xs zs b (o+1) hz h4⟩
end
end
section
variable {P:Program}
theorem C2 {cf:CallF}(hcf:CallOK P cf)(deep:Nat):CallOK P fun f args h=>if bS args then (cf f (cu args) bG).bind fun x=>(bT x.2 deep x.1).map fun r=>(r,h) else cf f args h:=by
 intro f args h r h' hc
 dsimp only at hc
 split at hc
 rotate_left
 ·exact hcf f args h r h' hc
 rename_i qF
 rw [QN] at hc
 obtain⟨⟨x,h1⟩,hx,hc⟩:=hc
 rw [QP] at hc
 obtain⟨r',hr,he⟩:=hc
 simp only [QV] at he
 obtain⟨rfl,rfl⟩:=he
 obtain⟨hin,hcall⟩:=hcf f (cu args) bG x h1 hx
 refine⟨hin,fun L0 c vs hh hb0 hrel hargs=>?_⟩
 let L1:Nat→Prop:=fun b=>L0 b∨∃id,Live c.h id∧(c.β id).1=b
 let c0:Cx:=⟨fun _=>(0,0),bG,c.w,c.w.heap.size⟩
 have hnl:∀id,¬Live c0.h id:=fun id hl=>by have:=hl.2; cases this
 have E2:∀b,RO c L0 b→RO c0 L1 b:=fun b hb=>⟨fun id hl=>absurd hl (hnl id),fun h=>by
  rcases h with h | ⟨id,h1,h2⟩
  ·exact hb.2 h
  ·exact hb.1 id h1 h2⟩
 have At:HRel c0 L1:=⟨fun id o ho=>(by cases ho),fun id o ho=>(by cases ho),fun id _ hl _ _=>absurd hl (hnl id),fun id hl=>absurd hl (hnl id),fun b hb=>by
  rcases hb with h | ⟨id,h1,h2⟩
  ·exact hrel.bd b h
  ·rw [←h2]; exact hrel.block h1,fun id hl=>absurd hl (hnl id),fun _=>Nat.zero_lt_one⟩
 refine (hcall L1 c0 vs rfl (QS _) At (lS (c:=c) (d:=c0) rfl E2 _ _ qF hargs)).mono ?_
 rintro e w' ⟨c1,v,rfl,rfl,JX,hv,hrel1,e1⟩
 let d:Cx:=⟨c.β,c.h,c1.w,c.base⟩
 have hk:∀b,b<c.w.heap.size→c1.w.heap[b]? = c.w.heap[b]?:=fun b hb=>e1.exact b hb
 have ed:Ext c none0 d none0:=⟨QS _,fun id _ hl=>⟨hl,rfl,fF.len (c:=c) (c':=d) (.inl (hk _ (hrel.block hl)))⟩,e1.size,fun b hb _ _=>.inl (hk b hb),fun b hb=>hk b (Rh hb hb0),rfl,fun id hl=>.inr ⟨id,hl,rfl⟩,fun _ h=>h,fun _ h=>.inl h,e1.os,e1.tape,e1.output⟩
 have hb1:d.base≤c1.base:=by rw [e1.base]; exact hb0
 have JY:∀b,RO c1 L1 b→RO d L0 b:=fun b hb=>⟨fun id hl he=>hb.2 (.inr ⟨id,hl,he⟩),fun h=>hb.2 (.inl h)⟩
 refine⟨d,v,rfl,rfl,hh,?_,⟨hrel.lt,fun id o ho=>?_,hrel.inj,hrel.out,fun b hb=>Rh (hrel.bd b hb) e1.size,hrel.low,hrel.ver⟩,ed⟩
 ·refine mV (c:=c1) (d:=d) (L:=L1) rfl JY hrel1 (fun id hl=>⟨fun lD re he=>hrel1.out id hl (.inr ⟨lD,re,he⟩),fun h=>hrel1.out id hl (.inl h)⟩) deep x r' v ?_ hv
  rw [JX]; exact hr
 ·have hl:Live c.h id:=⟨hrel.lt _ _ ho,by rw [ho]; rfl⟩
  have:=(hrel.obj id o ho)
  have h2:=n5.ext (L0:=L0) ed (b:=(c.β id).1) (base:=(c.β id).2) (o:=o) (by rw [iP]; exact this) (hk _ (hrel.block hl))
  rw [iP] at h2
  exact h2
theorem lT {c:Cx}{L:Nat→Prop}:∀{xs:List AV} {vs:List Value},VRs c L xs vs→VRs c L (xs.map aC) vs
 | [],[],_=>trivial
 | x::_,_::_,h=>⟨by
   unfold aC
   cases hn:x.cE with
   | false=>exact h.1
   | true=>exact sH rfl (fun _ h=>h) x _ hn h.1,lT h.2⟩
 | [],_::_,h=>h.elim
 | _::_,[],h=>h.elim
theorem tR {cf:CallF}(hcf:CallOK P cf):CallOK P fun f args h=>cf f (args.map aC) h:=by
 intro f args h r h' hc
 obtain⟨h1,h2⟩:=hcf f _ h r h' hc
 exact⟨h1,fun L0 c vs hh hb0 hrel hargs=>h2 L0 c vs hh hb0 hrel (lT hargs)⟩
theorem C3 {cf:CallF}(hcf:CallOK P cf)(deep:Nat):CallOK P fun f args h=>(bo h deep args).bind fun as=>(cf f as bG).bind fun x=>(dP x.2 deep x.1).map fun r=>(r,h):=by
 intro f args h r h' hc
 dsimp only at hc
 simp only [QN,QP,QV] at hc
 obtain⟨as,has,⟨x,h1⟩,hx,r',hr,rfl,rfl⟩:=hc
 obtain⟨hin,hcall⟩:=hcf f as bG x h1 hx
 refine⟨hin,fun L0 c vs hh hb0 hrel hargs=>?_⟩
 let c0:Cx:=⟨fun _=>(0,0),bG,c.w,c.w.heap.size⟩
 have hnl:∀id,¬Live c0.h id:=fun id hl=>by have:=hl.2; cases this
 have E2:∀b,RO c L0 b→RO c0 L0 b:=fun b hb=>⟨fun id hl=>absurd hl (hnl id),hb.2⟩
 have At:HRel c0 L0:=⟨fun id o ho=>(by cases ho),fun id o ho=>(by cases ho),fun id _ hl _ _=>absurd hl (hnl id),fun id hl=>absurd hl (hnl id),hrel.bd,fun id hl=>absurd hl (hnl id),fun _=>Nat.zero_lt_one⟩
 have E3:VRs c0 L0 as vs:=ie (c:=c) (d:=c0) rfl E2 hrel (fun id hl=>⟨fun lD re=>absurd re (hnl lD),hrel.out id hl⟩) deep args as vs (by rw [hh]; exact has) hargs
 refine (hcall L0 c0 vs rfl (QS _) At E3).mono ?_
 rintro e w' ⟨c1,v,rfl,rfl,JX,hv,hrel1,e1⟩
 let d:Cx:=⟨c.β,c.h,c1.w,c.base⟩
 have hk:∀b,b<c.w.heap.size→c1.w.heap[b]? = c.w.heap[b]?:=fun b hb=>e1.exact b hb
 have ed:Ext c none0 d none0:=⟨QS _,fun id _ hl=>⟨hl,rfl,fF.len (c:=c) (c':=d) (.inl (hk _ (hrel.block hl)))⟩,e1.size,fun b hb _ _=>.inl (hk b hb),fun b hb=>hk b (Rh hb hb0),rfl,fun id hl=>.inr ⟨id,hl,rfl⟩,fun _ h=>h,fun _ h=>.inl h,e1.os,e1.tape,e1.output⟩
 refine⟨d,v,rfl,rfl,hh,?_,⟨hrel.lt,fun id o ho=>?_,hrel.inj,hrel.out,fun b hb=>Rh (hrel.bd b hb) e1.size,hrel.low,hrel.ver⟩,ed⟩
 ·refine kZ (c:=c1) (d:=d) (L:=L0) rfl hrel1 (fun id hl=>⟨fun lD re he=>?_,hrel1.out id hl⟩) deep x r' v ?_ hv
  ·rcases e1.DU id hl with h2 | ⟨nw,h2,_⟩
   ·have:=hrel.block re
    have h3:(c.β lD).1=(c1.β id).1:=he
    have h4:c.w.heap.size≤(c1.β id).1:=h2
    omega
   ·exact absurd h2 (hnl nw)
  ·rw [JX]; exact hr
 ·have hl:Live c.h id:=⟨hrel.lt _ _ ho,by rw [ho]; rfl⟩
  have:=(hrel.obj id o ho)
  have h2:=n5.ext (L0:=L0) ed (b:=(c.β id).1) (base:=(c.β id).2) (o:=o) (by rw [iP]; exact this) (hk _ (hrel.block hl))
  rw [iP] at h2
  exact h2
theorem jh {T:lC}(nK:IntrOK P T.intr)(m:Nat):∀k,SteadyF (dX P T m k)
 | 0=>fun f args h r h' hc=>by simp [dX] at hc
 | k+1=>fun f args h r h' hc=>by
  have hb:=su (P:=P) (a7:=T.a7) (m:=m) (jh nK m k)
  simp only [dX] at hc
  split at hc
  ·rename_i g hg
   exact (nK f g hg).2 _ _ _ _ hc
  ·split at hc
   ·split at hc
    ·rw [QN] at hc
     obtain⟨x,_,hc⟩:=hc
     obtain⟨r',_,h2⟩:=Option.map_some' hc
     cases h2
     exact Steady.refl _
    ·split at hc
     ·rw [QN] at hc
      obtain⟨x,_,hc⟩:=hc
      obtain⟨r',_,h2⟩:=Option.map_some' hc
      cases h2
      exact Steady.refl _
     ·exact hb _ _ _ _ _ hc
   ·exact hb _ _ _ _ _ hc
theorem pw (hP:Fit P){T:lC}(nK:IntrOK P T.intr)(m:Nat):∀k,CallOK P (dX P T m k)
 | 0=>fun f args h r h' hc=>by simp [dX] at hc
 | k+1=>fun f args h r h' hc=>by
  have ih:=pw hP nK m k
  have hb:=Ak hP (a7:=T.a7) ih (Ar hP.mixed ih (jh nK m k)) m
  simp only [dX] at hc
  split at hc
  ·rename_i g hg
   exact (nK f g hg).1 f args h r h' (by simpa using hc)
  ·split at hc
   ·rename_i deep _
    by_cases qF:bS args=true
    ·exact C2 hb deep f args h r h' (by dsimp only; rw [if_pos qF] at hc ⊢; exact hc)
    ·rw [if_neg qF] at hc
     split at hc
     ·rename_i as has
      refine C3 hb deep f args h r h' ?_
      dsimp only
      rw [has]
      exact hc
     ·exact tR hb f args h r h' hc
   ·exact tR hb f args h r h' hc
def HA (P : Program) : Bool := P.funcs.toList.all fun fn => fn.name != "runtime.NumGoroutine" && match fn.body with | some c => ic fn.ntmps c | none => true
theorem E4 (h1:P.follows .mixedOrders=true)(h2:HA P=true):Fit P:=by
 refine⟨h1,fun f fn c hf hb=>?_⟩
 unfold HA at h2
 rw [Rd] at h2
 have:=h2 fn (RM.2 (Array.mem_of_getElem? hf))
 rw [hb] at this
 simp only [QR,bne_iff_ne,ne_eq] at this
 exact⟨this.2,this.1⟩
theorem yW:IntrOK P fun _=>none:=fun f g h=>by cases h
end
end Go.R
