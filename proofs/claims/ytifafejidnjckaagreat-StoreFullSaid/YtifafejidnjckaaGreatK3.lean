/- Part of the proof: RLocal, RSteady, RDraw, RPure. -/
import Derived.Test.YtifafejidnjckaaGreatK2
import Derived.StillTail
set_option linter.unusedVariables false
set_option linter.unusedSimpArgs false
set_option maxRecDepth 100000
open Array renaming getElem?_eq_some_iff → afH, mem_toList_iff → af3
open Bool renaming and_eq_true → ae3, false_eq_true → afa, or_eq_true → afR, not_true → afT, not_eq_true' → agk
open List renaming mem_append → afk, getElem?_append_left → afm, getElem?_eq_none → afp, all_eq_true → afr, mem_map → afu, getElem?_cons_zero → afK, range → af7, mem_range → agi, mem_filter → agp, map_congr_left → agr
open Nat renaming le_refl → ae4, zero_add → aft, lt_of_lt_of_le → afx, le_of_not_lt → afD, zero_le → afU, le_trans → afV, add_assoc → af8, eq_of_beq_eq_true → agd, min_eq_left → agC, zero_lt_one → agD, add_comm → agF
open Option renaming bind_some → aeZ, bind_eq_some_iff → ae0, map_eq_some_iff → ae1, map_some → ae6, getD_some → af6
open Option.some renaming injEq → ae2, inj → afB
open Prod.mk renaming injEq → ae9
namespace Go.R
open Go
def RS.shift (s2:RS)(f:nJ)(d:Option Nat)(s':RS):RS:=
 {ρ:=match d with | none=>s2.ρ | some d=>fun t=>if t=d then s'.ρ d else s2.ρ t
  bx:=match f.wb with | none=>s2.bx | some k=>fun t=>if t=k then s'.bx k else s2.bx t
  h:=if f.wh then s'.h else s2.h}
theorem RS.ext' {s t:RS}(h1:∀i,s.ρ i=t.ρ i)(h2:∀i,s.bx i=t.bx i)(h3:s.h=t.h):s=t:=by
 cases s; cases t
 congr
 ·exact funext h1
 ·exact funext h2
theorem kD (s s2:RS)(f:nJ)(d:Option Nat)(z:AV)(hw:f.wb=none)(hh:f.wh=false):s2.set d z=s2.shift f d (s.set d z):=by
 refine RS.ext' (fun i=>?_) (fun i=>?_) ?_
 ·cases d with
  | none=>rfl
  | some d=>simp only [zT,RS.shift,if_true]
 ·simp only [RS.shift,hw]; cases d<;>rfl
 ·simp only [RS.shift,hh]; cases d<;>rfl
theorem lL (s:RS)(d:Option Nat)(z:AV):(s.set d z).h=s.h:=by cases d<;>rfl
theorem QC (s:RS)(d:Option Nat)(z:AV):(s.set d z).bx=s.bx:=by cases d<;>rfl
theorem Kr (s:RS)(k i:Nat)(cs:List AV):(s.box k cs).bx i=if i=k then some cs else s.bx i:=by
 simp only [RS.box,beq_nat]
 by_cases h:i=k<;>simp [h]
theorem jA (s s2:RS)(f:nJ)(d:Option Nat)(z:AV)(h':AHeap)(hw:f.wb=none)(hh:f.wh=true):({s2 with h:=h'}:RS).set d z=s2.shift f d (({s with h:=h'}:RS).set d z):=by
 refine RS.ext' (fun i=>?_) (fun i=>?_) ?_
 ·cases d with
  | none=>rfl
  | some d=>simp only [zT,RS.shift,if_true]
 ·simp only [RS.shift,hw]; cases d<;>rfl
 ·simp only [RS.shift,hh]; cases d<;>rfl
theorem IQ (s s2:RS)(f:nJ)(k:Nat)(cs:List AV)(hw:f.wb=some k)(hh:f.wh=false):s2.box k cs=s2.shift f none (s.box k cs):=by
 refine RS.ext' (fun i=>rfl) (fun i=>?_) ?_
 ·simp only [Kr,RS.shift,hw,if_true]
 ·simp only [RS.shift,hh]; rfl
section
variable {P:Program}{cf:CallF}{aS ds:List Nat}{o:Oper}{s s' s2:RS}
theorem s8 {cs:List AV}{f:nJ}(h:kp s aS ds o cs=some s')(hf:f=(match o.dst with
  | some d=>if aS.contains d then {wb:=some d,al:=true} else {wh:=true}
  | none=>{})) (hh:f.wh=true→s2.h=s.h) (sL:f.al=true→∀d,o.dst=some d→xt d s2.ρ (ds.filter fun t=>!Nat.beq t d)=true) :
  kp s2 aS ds o cs=some (s2.shift f o.dst s'):=by
 unfold kp at h ⊢
 split at h
 rotate_left
 ·cases h
 rename_i sK
 rw [if_pos sK]
 cases hd:o.dst with
 | none=>rw [hd] at h; cases h
 | some d=>
  rw [hd] at h hf
  simp only at h hf ⊢
  by_cases hl:aS.contains d=true
  ·rw [if_pos hl] at h hf ⊢
   subst hf
   split at h
   rotate_left
   ·cases h
   cases h
   rw [if_pos (sL rfl d hd)]
   congr 1
   refine RS.ext' (fun i=>?_) (fun i=>?_) ?_
   ·simp only [zT,RS.shift,if_true]; rfl
   ·simp only [QC,Kr,RS.shift,if_true]
   ·simp only [lL,RS.shift]; rfl
  ·rw [if_neg hl] at h hf ⊢
   subst hf
   cases h
   rw [hh rfl]
   congr 1
   exact jA s s2 {wh:=true} (some d) _ _ rfl rfl
theorem Ab {e:Operand→AV}(h:E9 P cf aS ds e s o=some s')(hb:∀k∈(bE aS e o).rb,s2.bx k=s.bx k)(hr:∀id∈(bE aS e o).rh,s2.h.get id=s.h.get id)
  (hh:(bE aS e o).wh=true→s2.h=s.h) (sL:(bE aS e o).al=true→∀d,o.dst=some d→xt d s2.ρ (ds.filter fun t=>!Nat.beq t d)=true) :
  E9 P cf aS ds e s2 o=some (s2.shift (bE aS e o) o.dst s'):=by
 have fL:∀{x x2:Option AV} (f:nJ),(x.map fun x=>s.set o.dst x)=some s'→(x2=x)→f.wb=none→f.wh=false→(x2.map fun x=>s2.set o.dst x)=some (s2.shift f o.dst s'):=by
  intro x x2 f hx h2 h3 h4
  obtain⟨z,rfl,rfl⟩:=Option.map_some' hx
  subst h2
  simp only [ae6]
  rw [←kD s s2 f o.dst z h3 h4]
 have Dj:∀{α:Type} {x x2:Option α} (f:nJ) (g:α→AV) (k:α→AHeap),(x.map fun y=>({s with h:=k y}:RS).set o.dst (g y))=some s'→(x2=x)→f.wb=none→f.wh=true→
   (x2.map fun y=>({s2 with h:=k y}:RS).set o.dst (g y))=some (s2.shift f o.dst s'):=by
  intro α x x2 f g k hx h2 h3 h4
  obtain⟨z,rfl,rfl⟩:=Option.map_some' hx
  subst h2
  simp only [ae6]
  rw [←jA s s2 f o.dst (g z) (k z) h3 h4]
 unfold E9 at h ⊢
 dsimp only at h ⊢
 split at h
 ·rename_i x ho; cases h; simp only [ae2]; exact kD s s2 _ _ _ (by simp [bE,ho]) (by simp [bE,ho])
 ·rename_i x ho; cases h; simp only [ae2]; exact kD s s2 _ _ _ (by simp [bE,ho]) (by simp [bE,ho])
 ·rename_i k x y ho
  obtain⟨t,ht,rfl⟩:=Option.map_some' h
  simp only [ht,ae6,ae2]
  exact kD s s2 _ _ _ (by simp [bE,ho]) (by simp [bE,ho])
 ·rename_i t ho
  rw [ae0] at h
  obtain⟨z,hz,h⟩:=h
  simp only [hz,aeZ]
  exact s8 h (by simp only [bE,ho]; rfl) hh sL
 ·rename_i t x ho
  exact s8 h (by simp only [bE,ho]; rfl) hh sL
 ·rename_i t ps ho; exact fL _ h rfl (by simp [bE,ho]) (by simp [bE,ho])
 ·rename_i t k ps ho
  obtain⟨z,hz,rfl⟩:=Option.map_some' h
  simp only [hz,ae6,ae2]
  have hf:bE aS e o=(match o.dst with | some d=>if aS.contains d then {wh:=true} else {} | none=>{}):=by simp only [bE,ho]; rfl
  unfold uk
  cases Qt:sd P aS o t z with
  | none=>
   simp only
   cases hd:o.dst with
   | none=>rw [hd] at hf; rw [hf]; exact kD s s2 _ none _ rfl rfl
   | some d=>
    rw [hd] at hf
    simp only at hf
    by_cases hl:aS.contains d=true
    ·rw [if_pos hl] at hf
     have h2:=hh (by rw [hf])
     rw [hf]
     have h3:=jA s s2 {wh:=true} (some d) z s2.h rfl rfl
     refine h3.trans ?_
     rw [h2]
    ·rw [if_neg hl] at hf
     rw [hf]; exact kD s s2 _ _ _ rfl rfl
  | some q=>
   obtain⟨d,hd,hl⟩:∃d,o.dst=some d∧aS.contains d=true:=by
    unfold sd at Qt
    split at Qt
    ·rename_i d _ _ _ hd
     refine⟨d,hd,?_⟩
     cases hc:aS.contains d with
     | false=>rw [hc] at Qt; cases Qt
     | true=>rfl
    ·cases Qt
   rw [hd] at hf
   simp only [hl,if_true] at hf
   rw [hf] at hh ⊢
   simp only [hh rfl]
   exact jA s s2 _ _ _ _ rfl rfl
 ·
  rename_i t x ho
  have hf:bE aS e o=(match e x with | .lp k _=>{rb:=[k]} | .ptr id _=>{rh:=[id]} | _=>{}):=by simp only [bE,ho]; rfl
  refine fL _ h ?_ ?_ ?_
  ·rw [hf] at hb hr
   unfold mr
   cases hx:e x<;>rw [hx] at hb hr<;>try rfl
   ·simp only; rw [hr _ (by simp)]
   ·simp only; rw [hb _ (by simp)]
  ·rw [hf]; cases e x<;>rfl
  ·rw [hf]; cases e x<;>rfl
 ·
  rename_i t x y ho
  have hf:bE aS e o=(match e x with | .lp k _=>{rb:=[k],wb:=some k} | _=>{wh:=true}):=by simp only [bE,ho]; rfl
  try simp only at h ⊢
  split at h
  ·cases h
  rename_i hd
  rw [if_neg hd]
  have NA:o.dst=none:=by simpa using hd
  cases hx:e x<;>rw [hx] at h hf<;>simp only at h hf ⊢<;>try (cases h; done)
  ·rename_i id off
   rw [hf] at hh ⊢
   rw [ae0] at h
   obtain⟨ob,hob,h⟩:=h
   rw [hh rfl,hob]
   cases ob with
   | map es=>cases h
   | row t cs=>cases h
   | cells cs=>
    obtain⟨gF,hcs,rfl⟩:=Option.map_some' h
    simp only [aeZ,hcs,ae6,NA,ae2]
    exact jA s s2 {wh:=true} none .any _ rfl rfl
  ·rename_i k off
   rw [hf] at hb ⊢
   rw [ae0] at h
   obtain⟨cs,hcs,h⟩:=h
   rw [hb k (by simp),hcs]
   obtain⟨gF,WZ,rfl⟩:=Option.map_some' h
   simp only [aeZ,WZ,ae6,NA,ae2]
   exact IQ s s2 _ k gF rfl rfl
 ·rename_i ho; exact fL _ h rfl (by simp [bE,ho]) (by simp [bE,ho])
 ·rename_i ho; exact fL _ h rfl (by simp [bE,ho]) (by simp [bE,ho])
 ·rename_i ho; exact fL _ h rfl (by simp [bE,ho]) (by simp [bE,ho])
 ·
  rename_i a b x ho
  have hf:bE aS e o=(match e x with | .rs id _ _ _=>{rh:=[id]} | _=>{}):=by simp only [bE,ho]; rfl
  refine fL _ h ?_ ?_ ?_
  ·have hc:fi s2.h 1 (e x)=fi s.h 1 (e x):=by
    rw [hf] at hr
    unfold fi
    cases hx:e x<;>rw [hx] at hr<;>try rfl
    simp only; rw [hr _ (by simp)]
   unfold pW
   rw [hc]
  ·rw [hf]; cases e x<;>rfl
  ·rw [hf]; cases e x<;>rfl
 ·rename_i Fq first cap ho
  try simp only
  split at h
  ·rename_i hc
   rw [if_pos hc]
   exact fL _ h rfl (by simp [bE,ho]) (by simp [bE,ho])
  ·cases h
 ·rename_i ho
  have hf:(bE aS e o).wh=true:=by simp [bE,ho]
  cases h
  simp only [hh hf,ae2]
  exact jA s s2 _ _ _ _ (by simp [bE,ho]) hf
 ·rename_i t l c ho
  have hf:(bE aS e o).wh=true:=by simp [bE,ho]
  exact Dj _ (fun y:AV × AHeap=>y.1) (fun y=>y.2) h (by simp only [hh hf]) (by simp [bE,ho]) hf
 ·rename_i ho; exact fL _ h rfl (by simp [bE,ho]) (by simp [bE,ho])
 ·rename_i ho; exact fL _ h rfl (by simp [bE,ho]) (by simp [bE,ho])
 ·rename_i ho; exact fL _ h rfl (by simp [bE,ho]) (by simp [bE,ho])
 ·rename_i ho; exact fL _ h rfl (by simp [bE,ho]) (by simp [bE,ho])
 ·rename_i ho; exact fL _ h rfl (by simp [bE,ho]) (by simp [bE,ho])
 ·
  rename_i t m k ok ho
  have hf:bE aS e o=(match e m with | .mp id=>{rh:=[id]} | _=>{}):=by simp only [bE,ho]; rfl
  refine fL _ h ?_ ?_ ?_
  ·rw [hf] at hr
   unfold iR
   cases hx:e m<;>rw [hx] at hr<;>try rfl
   simp only; rw [hr _ (by simp)]
  ·rw [hf]; cases e m<;>rfl
  ·rw [hf]; cases e m<;>rfl
 ·rename_i t m k x ho
  have hf:(bE aS e o).wh=true:=by simp [bE,ho]
  try simp only at h ⊢
  split at h
  ·cases h
  rename_i hd
  rw [if_neg hd]
  have NA:o.dst=none:=by simpa using hd
  obtain⟨h',hm,rfl⟩:=Option.map_some' h
  simp only [hh hf,hm,ae6,NA,ae2]
  exact jA s s2 _ none .any _ (by simp [bE,ho]) hf
 ·rename_i t m k x ho
  have hf:(bE aS e o).wh=true:=by simp [bE,ho]
  try simp only at h ⊢
  split at h
  ·cases h
  rename_i hd
  rw [if_neg hd]
  have NA:o.dst=none:=by simpa using hd
  obtain⟨h',hm,rfl⟩:=Option.map_some' h
  simp only [hh hf,hm,ae6,NA,ae2]
  exact jA s s2 _ none .any _ (by simp [bE,ho]) hf
 ·rename_i ho; exact fL _ h rfl (by simp [bE,ho]) (by simp [bE,ho])
 ·
  rename_i b args GQ ho
  try simp only
  unfold iL at h ⊢
  generalize hargs:args.toList.map e=as at h ⊢
  generalize GQ.toList=ts at h ⊢
  split at h
  ·rename_i t x
   try simp only
   have hf:bE aS e o=(match x with | .mp id=>{rh:=[id]} | _=>{}):=by
    simp only [bE,ho,hargs]
    cases x<;>rfl
   refine fL _ h ?_ ?_ ?_
   ·rw [hf] at hr
    unfold xq
    cases x<;>try rfl
    simp only; rw [hr _ (by simp)]
   ·rw [hf]; cases x<;>rfl
   ·rw [hf]; cases x<;>rfl
  ·try simp only
   have hf:(bE aS e o).wh=true∧(bE aS e o).wb=none:=by simp only [bE,ho,hargs]; simp
   exact Dj _ (fun y:AV × AHeap=>y.1) (fun y=>y.2) h (by simp only [hh hf.1]) hf.2 hf.1
  ·try simp only
   have hf:(bE aS e o).wh=true∧(bE aS e o).wb=none:=by simp only [bE,ho,hargs]; simp
   exact Dj _ (fun y:AV × AHeap=>y.1) (fun y=>y.2) h (by simp only [hh hf.1]) hf.2 hf.1
  ·try simp only
   have hf:(bE aS e o).wh=true∧(bE aS e o).wb=none:=by simp only [bE,ho,hargs]; simp
   exact Dj _ (fun _:AHeap=>.tup []) (fun y=>y) h (by simp only [hh hf.1]) hf.2 hf.1
  ·try simp only
   rw [ae0] at h
   obtain⟨v,hv,h⟩:=h
   rw [ae0] at h
   obtain⟨vs,JQ,h⟩:=h
   rw [ae0] at h
   obtain⟨u,hu,h⟩:=h
   simp only [hv,JQ,hu,aeZ]
   exact fL _ h rfl (by simp [bE,ho]) (by simp [bE,ho])
  ·try simp only
   rw [ae0] at h
   obtain⟨v,hv,h⟩:=h
   rw [ae0] at h
   obtain⟨vs,JQ,h⟩:=h
   rw [ae0] at h
   obtain⟨u,hu,h⟩:=h
   simp only [hv,JQ,hu,aeZ]
   exact fL _ h rfl (by simp [bE,ho]) (by simp [bE,ho])
  ·cases h
 ·
  rename_i fx args GQ ho
  have hf:(bE aS e o).wh=true∧(bE aS e o).wb=none:=by simp [bE,ho]
  try simp only
  cases hx:e fx<;>rw [hx] at h<;>simp only at h ⊢<;>try (cases h; done)
  rename_i Fq cap
  split at h
  ·rename_i ha
   rw [if_pos ha]
   exact Dj _ (fun y:AV × AHeap=>y.1) (fun y=>y.2) h (by simp only [hh hf.1]) hf.2 hf.1
  ·cases h
 ·cases h
end
end Go.R
namespace Go.R
open Go
def SteadyF (cf:CallF):Prop:=∀f args h r h',cf f args h=some (r,h')→Steady h h'
section
variable {P:Program}{cf:CallF}{aS ds:List Nat}{o:Oper}{s s':RS}
theorem xO {h h':AHeap}{t t2:TypeId}{x y z:AV}(hh:dM P h t t2 x y=some (z,h')):Steady h h':=by
 unfold dM at hh
 rw [ae0] at hh
 obtain⟨d,_,hh⟩:=hh
 cases d<;>simp only at hh<;>try (cases hh; done)
 rw [ae0] at hh
 obtain⟨i,_,hh⟩:=hh
 rw [ae0] at hh
 obtain⟨⟨new,m⟩,_,hh⟩:=hh
 simp only at hh
 split at hh
 ·cases hh
 split at hh
 ·split at hh
  ·cases hh
  ·split at hh<;>cases hh
   ·exact Steady.refl _
   ·exact Steady.put _ _ _
 ·split at hh
  ·cases hh
  ·split at hh
   ·split at hh<;>cases hh<;>exact Steady.refl _
   ·cases hh; exact Steady.put _ _ _
 ·split at hh
  ·split at hh
   ·cases hh
   ·split at hh<;>cases hh
    ·exact Steady.refl _
    ·exact Steady.put _ _ _
  rw [ae0] at hh
  obtain⟨ob,_,hh⟩:=hh
  cases ob with
  | map es=>cases hh
  | row t cs=>cases hh
  | cells cs=>
   simp only at hh
   split at hh
   ·cases hh
   ·split at hh<;>cases hh
    ·exact Steady.refl _
    ·exact (Steady.kill _ _).trans (Steady.put _ _ _)
 ·cases hh
theorem Bn {h h':AHeap}{t t2:TypeId}{x y z:AV}(hh:vu P h t t2 x y=some (z,h')):Steady h h':=by
 unfold vu at hh
 rw [ae0] at hh
 obtain⟨d,_,hh⟩:=hh
 cases d<;>simp only at hh<;>try (cases hh; done)
 rw [ae0] at hh
 obtain⟨i,_,hh⟩:=hh
 rw [ae0] at hh
 obtain⟨⟨new,m⟩,_,hh⟩:=hh
 simp only at hh
 split at hh
 ·cases hh
 split at hh
 ·split at hh
  ·split at hh<;>cases hh
   exact Steady.refl _
  rw [ae0] at hh
  obtain⟨ob,_,hh⟩:=hh
  cases ob with
  | map es=>cases hh
  | row t cs=>cases hh
  | cells cs=>
   simp only at hh
   split at hh<;>cases hh
   exact Steady.put _ _ _
 ·split at hh<;>cases hh
  exact Steady.refl _
 ·cases hh
theorem zx {h h':AHeap}{t:TypeId}{x:AV}(hh:oB P h t x=some h'):Steady h h':=by
 unfold oB at hh
 rw [ae0] at hh
 obtain⟨d,_,hh⟩:=hh
 cases x<;>simp only at hh<;>try (cases hh; done)
 ·split at hh
  ·cases hh; exact Steady.refl _
  split at hh
  ·cases hh
  cases d<;>simp only at hh<;>try (cases hh; done)
  simp only [ae0] at hh
  obtain⟨i,_,z,_,ob,_,hh⟩:=hh
  cases ob with
  | map es=>cases hh
  | row t cs=>cases hh
  | cells cs=>
   simp only at hh
   split at hh
   ·cases hh; exact Steady.put _ _ _
   ·cases hh
 ·cases hh; exact Steady.refl _
 ·rw [ae0] at hh
  obtain⟨ob,_,hh⟩:=hh
  cases ob with
  | cells cs=>cases hh
  | row t cs=>cases hh
  | map es=>cases hh; exact Steady.put _ _ _
theorem Dk {aS:List Nat}{d:Option Nat}{x y:AV × AHeap}(hz:A6 aS d x=some y):Steady x.2 y.2:=by
 unfold A6 at hz
 cases hm:Tw aS d with
 | true=>rw [hm,cond_true] at hz; exact qg hz
 | false=>rw [hm,cond_false] at hz; cases hz; exact Steady.refl _
theorem qn {h h':AHeap}{t:TypeId}{x y z:AV}(hh:kO P h t x y z=some h'):Steady h h':=by
 unfold kO at hh
 rw [ae0] at hh
 obtain⟨d,_,hh⟩:=hh
 cases d<;>simp only at hh<;>try (cases hh; done)
 split at hh
 ·cases hh
 cases x<;>simp only at hh<;>try (cases hh; done)
 rw [ae0] at hh
 obtain⟨ob,_,hh⟩:=hh
 cases ob with
 | cells cs=>cases hh
 | row t cs=>cases hh
 | map es=>
  obtain⟨vt,_,rfl⟩:=Option.map_some' hh
  exact Steady.put _ _ _
theorem s9 {h h':AHeap}{t:TypeId}{x y z:AV}(hh:iq P h t x y=some (z,h')):Steady h h':=by
 unfold iq at hh
 split at hh
 ·rw [ae0] at hh
  obtain⟨d,_,hh⟩:=hh
  cases d<;>simp only at hh<;>try (cases hh; done)
  rw [ae0] at hh
  obtain⟨i,_,hh⟩:=hh
  rw [ae0] at hh
  obtain⟨z,_,hh⟩:=hh
  split at hh<;>cases hh
  exact Steady.put _ _ _
 ·cases hh
theorem rT {cs:List AV}(h:kp s aS ds o cs=some s'):Steady s.h s'.h:=by
 unfold kp at h
 split at h
 rotate_left
 ·cases h
 split at h
 ·split at h
  ·split at h<;>cases h
   rw [lL]; exact Steady.refl _
  ·cases h
   rw [lL]; exact Steady.put _ _ _
 ·cases h
theorem xP (hcf:SteadyF cf){e:Operand→AV}(h:E9 P cf aS ds e s o=some s'):Steady s.h s'.h:=by
 have fL:∀{x:Option AV},(x.map fun x=>s.set o.dst x)=some s'→Steady s.h s'.h:=by
  intro x hx
  obtain⟨z,rfl,rfl⟩:=Option.map_some' hx
  rw [lL]; exact Steady.refl _
 unfold E9 at h
 dsimp only at h
 split at h
 ·cases h; rw [lL]; exact Steady.refl _
 ·cases h; rw [lL]; exact Steady.refl _
 ·obtain⟨z,_,rfl⟩:=Option.map_some' h; rw [lL]; exact Steady.refl _
 ·rw [ae0] at h
  obtain⟨z,_,h⟩:=h
  exact rT h
 ·exact rT h
 ·exact fL h
 ·obtain⟨z,hz,rfl⟩:=Option.map_some' h
  unfold uk
  split
  ·rw [lL]; exact Steady.refl _
  ·rw [lL]; exact Steady.put _ _ _
 ·exact fL h
 ·split at h
  ·cases h
  split at h
  ·rw [ae0] at h
   obtain⟨cs,_,h⟩:=h
   obtain⟨z,_,rfl⟩:=Option.map_some' h
   exact Steady.refl _
  ·rw [ae0] at h
   obtain⟨ob,_,h⟩:=h
   cases ob with
   | map es=>cases h
   | row t cs=>cases h
   | cells cs=>
    obtain⟨z,_,rfl⟩:=Option.map_some' h
    exact Steady.put _ _ _
  ·cases h
 ·exact fL h
 ·exact fL h
 ·exact fL h
 ·exact fL h
 ·split at h
  ·exact fL h
  ·cases h
 ·cases h; rw [lL]; exact Steady.put _ _ _
 ·obtain⟨⟨z,h'⟩,hz,rfl⟩:=Option.map_some' h
  rw [lL]; exact s9 hz
 ·exact fL h
 ·exact fL h
 ·exact fL h
 ·exact fL h
 ·exact fL h
 ·exact fL h
 ·split at h
  ·cases h
  obtain⟨h',hz,rfl⟩:=Option.map_some' h
  exact qn hz
 ·split at h
  ·cases h
  obtain⟨h',hz,rfl⟩:=Option.map_some' h
  exact qn hz
 ·exact fL h
 ·unfold iL at h
  split at h
  ·exact fL h
  ·obtain⟨⟨z,h'⟩,hz,rfl⟩:=Option.map_some' h
   rw [lL]; exact xO hz
  ·obtain⟨⟨z,h'⟩,hz,rfl⟩:=Option.map_some' h
   rw [lL]; exact Bn hz
  ·obtain⟨h',hz,rfl⟩:=Option.map_some' h
   rw [lL]; exact zx hz
  ·rw [ae0] at h
   obtain⟨v,_,h⟩:=h
   rw [ae0] at h
   obtain⟨vs,_,h⟩:=h
   rw [ae0] at h
   obtain⟨u,_,h⟩:=h
   exact fL h
  ·rw [ae0] at h
   obtain⟨v,_,h⟩:=h
   rw [ae0] at h
   obtain⟨vs,_,h⟩:=h
   rw [ae0] at h
   obtain⟨u,_,h⟩:=h
   exact fL h
  ·cases h
 ·split at h
  ·split at h
   ·obtain⟨⟨z,h'⟩,hz,rfl⟩:=Option.map_some' h
    rw [ae0] at hz
    obtain⟨⟨z0,h0⟩,hz,hm⟩:=hz
    rw [lL]; exact (hcf _ _ _ _ _ hz).trans (Dk hm)
   ·cases h
  ·cases h
 ·cases h
theorem tc (hcf:SteadyF cf){ops:List Oper}(h:pY P cf aS ops s o=some s'):Steady s.h s'.h:=by
 unfold pY at h
 rw [ae0] at h
 obtain⟨w,_,h⟩:=h
 cases w with
 | true=>exact xP hcf (by simpa [A7] using h)
 | false=>
  simp only [afa,if_false,ae2] at h
  subst h
  rw [lL]; exact Steady.refl _
theorem vH (hcf:SteadyF cf){ops:List Oper}:∀{l:List Oper} {s s':RS},wi P cf aS ops s l=some s'→Steady s.h s'.h
 | [],s,s',h=>by simp only [wi,ae2] at h; subst h; exact Steady.refl _
 | o::l,s,s',h=>by
  simp only [wi,ae0] at h
  obtain⟨s1,h1,h2⟩:=h
  exact (tc hcf h1).trans (vH hcf h2)
theorem vI (hcf:SteadyF cf){ops:List Oper}:∀{l:List Oper} {s r:RS} {es:List pD},sU P cf aS ops s l=some (es,r)→Steady s.h r.h
 | [],s,r,es,h=>by simp only [sU,ae2,ae9] at h; rw [h.2]; exact Steady.refl _
 | o::l,s,r,es,h=>by
  simp only [sU,ae0,ae1] at h
  obtain⟨w,hw,s1,h1,⟨vt,r'⟩,h2,h3⟩:=h
  simp only [ae9] at h3
  obtain⟨_,rfl⟩:=h3
  have h4:pY P cf aS ops s o=some s1:=by unfold pY; rw [hw]; exact h1
  exact (tc hcf h4).trans (vI hcf h2)
theorem zy (hcf:SteadyF cf){ops:Array Oper}(h:mu P cf aS ops s=some s'):Steady s.h s'.h:=by
 unfold mu at h
 dsimp only at h
 split at h
 rotate_left
 ·cases h
 rw [ae0] at h
 obtain⟨⟨es,r⟩,Fk,h⟩:=h
 simp only at h
 split at h
 ·cases h; exact vI hcf Fk
 ·cases h
theorem iU (hcf:SteadyF cf){A:bX}{m:Nat}:∀(c:Code) (st lK:St) (e:Ex),cb P cf A m c st=some (e,lK)→Steady st.h lK.h
 | .skip,st,lK,e,h=>by simp only [cb,ae2,ae9] at h; rw [h.2]; exact Steady.refl _
 | .label _,st,lK,e,h=>by simp only [cb,ae2,ae9] at h; rw [h.2]; exact Steady.refl _
 | .ret,st,lK,e,h=>by simp only [cb,ae2,ae9] at h; rw [h.2]; exact Steady.refl _
 | .exit _,st,lK,e,h=>by simp only [cb,ae2,ae9] at h; rw [h.2]; exact Steady.refl _
 | .seq x y,st,lK,e,h=>by
  simp only [cb,ae0] at h
  obtain⟨⟨e1,s1⟩,h1,h2⟩:=h
  have:=iU hcf x st s1 e1 h1
  cases e1 with
  | norm=>exact this.trans (iU hcf y s1 lK e h2)
  | exit id=>simp only [ae2,ae9] at h2; rw [←h2.2]; exact this
  | ret=>simp only [ae2,ae9] at h2; rw [←h2.2]; exact this
 | .cond k x y,st,lK,e,h=>by
  simp only [cb,ae0] at h
  obtain⟨t,_,h⟩:=h
  cases t with
  | true=>exact iU hcf x st lK e (by simpa using h)
  | false=>exact iU hcf y st lK e (by simpa using h)
 | .block id x,st,lK,e,h=>by
  simp only [cb,ae1] at h
  obtain⟨⟨e1,s1⟩,h1,h2⟩:=h
  have:=iU hcf x st s1 e1 h1
  cases e1<;>(simp only [ae9] at h2; rw [←h2.2]; exact this)
 | .loop x,st,lK,e,h=>by
  simp only [cb] at h
  have key:∀(j:Nat) (st:St),nL (cb P cf A m x) j st=some (e,lK)→Steady st.h lK.h:=by
   intro j
   induction j with
   | zero=>intro st h; simp [nL] at h
   | succ j ih=>
    intro st h
    simp only [nL,ae0] at h
    obtain⟨⟨e1,s1⟩,h1,h2⟩:=h
    have:=iU hcf x st s1 e1 h1
    cases e1 with
    | norm=>exact this.trans (ih s1 h2)
    | exit id=>simp only [ae2,ae9] at h2; rw [←h2.2]; exact this
    | ret=>simp only [ae2,ae9] at h2; rw [←h2.2]; exact this
  exact key m st h
 | .region id ops draw,st,lK,e,h=>by
  simp only [cb,ae0,ae1,ae9] at h
  obtain⟨s0,h0,s',h1,s2,h2,_,rfl⟩:=h
  rw [N7]
  refine ((qh h0).trans ?_).trans (qh h2)
  cases draw with
  | true=>exact zy (s:=s0) hcf (by simpa using h1)
  | false=>exact vH (s:=s0) hcf (by simpa using h1)
 | .rangeFunc ..,st,lK,e,h=>by simp [cb] at h
 | .scope ..,st,lK,e,h=>by simp [cb] at h
 | .goto ..,st,lK,e,h=>by simp [cb] at h
 | .refuse ..,st,lK,e,h=>by simp [cb] at h
theorem Bo (hcf:SteadyF cf){aX:FuncId→bX}{m:Nat}:SteadyF (ba P aX cf m):=by
 intro f args h r h' hc
 unfold ba at hc
 rw [ae0] at hc
 obtain⟨fn,hf,hc⟩:=hc
 rw [ae0] at hc
 obtain⟨c,hb,hc⟩:=hc
 split at hc
 rotate_left
 ·cases hc
 rw [ae0] at hc
 obtain⟨⟨e,st⟩,hex,hc⟩:=hc
 have:=iU hcf c _ _ _ hex
 cases e with
 | norm=>obtain⟨r',_,h2⟩:=Option.map_some' hc; cases h2; exact this
 | ret=>obtain⟨r',_,h2⟩:=Option.map_some' hc; cases h2; exact this
 | exit id=>cases hc
end
end Go.R
namespace Go.R
open Go
section
variable {P:Program}{cf:CallF}{aS ds:List Nat}{o:Oper}{s s':RS}
theorem IS {e e':Operand→AV}(h:∀x∈o.op.operands,e x=e' x):E9 P cf aS ds e s o=E9 P cf aS ds e' s o:=by
 have TY:∀(l:List Operand),(∀x∈l,e x=e' x)→l.map e=l.map e':=fun l hl=>agr hl
 have QD:∀(q:Option Operand),(∀x,q=some x→e x=e' x)→q.map e=q.map e':=by
  intro q hq; cases q with
  | none=>rfl
  | some x=>simp [hq x rfl]
 unfold E9
 cases GV:o.op<;>rw [GV] at h
 case build t ps=>
  have:(ps.toList.map fun (i,x)=>(i,e x))=(ps.toList.map fun (i,x)=>(i,e' x)):=
   agr fun p hp=>by
    have:=h p.2 (by simp only [Op.operands,List.mem_toArray,afu]; exact⟨p,hp,rfl⟩)
    simp [this]
  simp only [this]
 case buildSlice t n ps=>
  have:(ps.toList.map fun (i,x)=>(i,e x))=(ps.toList.map fun (i,x)=>(i,e' x)):=
   agr fun p hp=>by
    have:=h p.2 (by simp only [Op.operands,List.mem_toArray,afu]; exact⟨p,hp,rfl⟩)
    simp [this]
  simp only [this]
 case makeFunc f first cap=>
  have:cap.toList.map e=cap.toList.map e':=TY _ fun x hx=>h x (by simp only [Op.operands,Array.mem_append]; right; exact af3.1 hx)
  cases f<;>first | rfl | simp only [this]
 case makeMap t r=>cases r<;>rfl
 case slice t x lo hi mx=>
  have h1:e x=e' x:=h x (by simp [Op.operands])
  have h2:=QD lo fun y hy=>h y (by simp [Op.operands,hy])
  have h3:=QD hi fun y hy=>h y (by simp [Op.operands,hy])
  have h4:=QD mx fun y hy=>h y (by simp [Op.operands,hy])
  simp only [h1,h2,h3,h4]
 case call c=>
  obtain⟨callee,args,GQ⟩:=c
  have h1:args.toList.map e=args.toList.map e':=TY _ fun x hx=>h x (by
   simp only [Op.operands,Call.operands]
   cases callee<;>simp<;>first | exact af3.1 hx | (right; exact af3.1 hx) | (left; exact af3.1 hx))
  cases callee with
  | builtin b=>simp only [h1]
  | value f=>
   have h2:e f=e' f:=h f (by simp [Op.operands,Call.operands])
   simp only [h1,h2]
  | invoke r nm=>rfl
 all_goals first
  | rfl
  | (simp [Op.operands] at h; simp [h])
end
theorem te (acc:List Nat)(i:Nat):∀(l:List Edge) (m:Nat),(l.foldl (fun m e=>bif Region.binds .any e then m ||| (2 ^ e.on ||| acc.getD e.on 0) else m) m).testBit i=true→
  m.testBit i=true∨∃e∈l,Region.binds .any e=true∧(e.on=i∨(acc.getD e.on 0).testBit i=true)
 | [],m,h=>.inl h
 | e::l,m,h=>by
  rcases te acc i l _ h with h1 | ⟨e',he,h1⟩
  ·dsimp only at h1
   cases hb:Region.binds .any e with
   | false=>rw [hb] at h1; exact .inl h1
   | true=>
    rw [hb] at h1
    simp only [cond_true,Nat.testBit_or,afR,Nat.testBit_two_pow,decide_eq_true_eq] at h1
    rcases h1 with h1 | h1 | h1
    ·exact .inl h1
    ·exact .inr ⟨e,by simp,hb,.inl h1⟩
    ·exact .inr ⟨e,by simp,hb,.inr h1⟩
  ·exact .inr ⟨e',by simp [he],h1⟩
theorem vJ:∀(l:List Oper) (acc:List Nat),(∀j,j<acc.length→(lR acc l).getD j 0=acc.getD j 0)∧
  ∀j i,((lR acc l).getD j 0).testBit i=true→acc.length≤j→∃o,l[j - acc.length]? = some o∧∃e∈o.after.toList,Region.binds .any e=true∧(e.on=i∨((lR acc l).getD e.on 0).testBit i=true)
 | [],acc=>⟨fun j hj=>rfl,fun j i h hj=>by simp [lR,List.getD,afp hj] at h⟩
 | o::l,acc=>by
  simp only [lR]
  generalize hm:(o.after.toList.foldl (fun m e=>bif Region.binds .any e then m ||| (2 ^ e.on ||| acc.getD e.on 0) else m) 0)=m
  obtain⟨h1,h2⟩:=vJ l (acc++[m])
  have hold:∀j,j<acc.length→(lR (acc++[m]) l).getD j 0=acc.getD j 0:=fun j hj=>by
   rw [h1 j (by simp; omega)]
   simp [List.getD,afm hj]
  refine⟨hold,fun j i h hj=>?_⟩
  by_cases hje:j=acc.length
  ·subst hje
   have:(lR (acc++[m]) l).getD acc.length 0=m:=by
    rw [h1 _ (by simp)]; simp [List.getD]
   rw [this,←hm] at h
   rcases te acc i _ _ h with h3 | ⟨e,he,hb,h3⟩
   ·simp at h3
   ·refine⟨o,by simp,e,he,hb,h3.imp id fun h4=>?_⟩
    by_cases hl:e.on<acc.length
    ·rw [hold _ hl]; exact h4
    ·simp [List.getD,afp (Nat.not_lt.1 hl)] at h4
  ·obtain⟨o',SQ,h3⟩:=h2 j i h (by simp; omega)
   refine⟨o',?_,h3⟩
   rw [show j - acc.length=(j - (acc++[m]).length)+1 by simp; omega]
   simpa using SQ
theorem nw {α:Type}(p:Nat→α→Nat→α→Bool):∀(l:List α) (k:Nat),sS p k l=true→∀i j x y,i<j→l[i]? = some x→l[j]? = some y→p (k+i) x (k+j) y=true
 | [],k,_,i,j,x,y,_,hx,_=>by simp at hx
 | a::l,k,h,i,j,x,y,CN,hx,hy=>by
  simp only [sS,ae3,afr] at h
  obtain⟨h1,h2⟩:=h
  cases j with
  | zero=>omega
  | succ j=>
   cases i with
   | zero=>
    simp only [afK,ae2] at hx
    subst hx
    have:=h1 (y,k+1+j) (by rw [List.mk_add_mem_zipIdx_iff_getElem?]; simpa using hy)
    simpa [af8,agF 1 j] using this
   | succ i=>
    have:=nw p l (k+1) h2 i j x y (by omega) (by simpa using hx) (by simpa using hy)
    rw [show k+(i+1)=k+1+i by omega,show k+(j+1)=k+1+j by omega]
    exact this
theorem tg:∀(l:List Oper) (k:Nat),wZ k l=true→∀i o,l[i]? = some o→∀e∈o.after.toList,Region.binds .any e=true→e.on<k+i
 | [],k,_,i,o,h,_,_,_=>by simp at h
 | a::l,k,h,i,o,ho,e,he,hb=>by
  simp only [wZ,ae3,afr] at h
  obtain⟨h1,h2⟩:=h
  cases i with
  | zero=>
   simp only [afK,ae2] at ho
   subst ho
   have:=h1 e he
   simp only [hb,afT,Bool.false_or] at this
   exact Nat.blt_eq.mp this
  | succ i=>
   have:=tg l (k+1) h2 i o (by simpa using ho) e he hb
   omega
theorem th {V:Type}{n i:Nat}(hi:i≤n){W:Nat→Prop}{S:Nat→Bool}{m x:Nat→V}(h0:m 0=x 0)(TZ:∀k,k<n→W k→S k=true→m (k+1)=x (k+1))(zj:∀k,k<n→(¬W k∨S k=false)→m (k+1)=m k)
  (hx:∀k,k<n→¬W k→x (k+1)=x k) (hS:∀k,k<n→W k→(S k=true↔k<i)):m n=x i:=by
 have key:∀k,k≤n→m k=x (min k i):=by
  intro k
  induction k with
  | zero=>intro _; simpa using h0
  | succ k ih=>
   intro hk
   have ih:=ih (by omega)
   by_cases hw:W k
   ·have hs:=hS k (by omega) hw
    by_cases w8:k<i
    ·rw [TZ k (by omega) hw (hs.2 w8),agC (by omega)]
    ·have:S k=false:=by
      cases h:S k with
      | false=>rfl
      | true=>exact absurd (hs.1 h) w8
     rw [zj k (by omega) (.inr this),ih,Nat.min_eq_right (by omega),Nat.min_eq_right (by omega)]
   ·rw [zj k (by omega) (.inl hw),ih]
    by_cases w8:k<i
    ·rw [agC (by omega),agC (by omega),hx k (by omega) hw]
    ·rw [Nat.min_eq_right (by omega),Nat.min_eq_right (by omega)]
 rw [key n (ae4 n),Nat.min_eq_right hi]
open Classical in
theorem Bp {V:Type}{n i:Nat}(hi:i<n){W:Nat→Prop}{S S':Nat→Bool}{m m' x:Nat→V}(h0:m' 0=m 0)(TZ:∀k,k<n→W k→S k=true→m (k+1)=x (k+1))(zj:∀k,k<n→(¬W k∨S k=false)→m (k+1)=m k)
  (PE:∀k,k<n→W k→S' k=true→m' (k+1)=x (k+1)) (Ks:∀k,k<n→(¬W k∨S' k=false)→m' (k+1)=m' k)
  (IT:∀k,S' k=if k=i then true else S k) (T0:S i=false) (hl:W i→∀j,j<n→i<j→W j→S j=false):m' n=if W i then x (i+1) else m n:=by
 have key:∀k,k≤n→m' k=if i<k∧W i then x (i+1) else m k:=by
  intro k
  induction k with
  | zero=>intro _; simpa using h0
  | succ k ih=>
   intro hk
   have ih:=ih (by omega)
   by_cases w8:k=i
   ·subst w8
    by_cases hw:W k
    ·rw [PE k (by omega) hw (by rw [IT]; simp),if_pos ⟨by omega,hw⟩]
    ·rw [Ks k (by omega) (.inl hw),ih,if_neg (fun h=>hw h.2),if_neg (fun h=>hw h.2),zj k (by omega) (.inl hw)]
   ·have hs:S' k=S k:=by rw [IT,if_neg w8]
    by_cases hw:W k
    ·cases uu:S k with
     | true=>
      rw [PE k (by omega) hw (hs.trans uu)]
      by_cases JT:i<k+1∧W i
      ·have:=hl JT.2 k (by omega) (by omega) hw
       rw [uu] at this; cases this
      ·rw [if_neg JT,TZ k (by omega) hw uu]
     | false=>
      rw [Ks k (by omega) (.inr (hs.trans uu)),ih,zj k (by omega) (.inr uu)]
      by_cases JT:i<k∧W i
      ·rw [if_pos JT,if_pos ⟨by omega,JT.2⟩]
      ·rw [if_neg JT,if_neg (fun h=>JT ⟨by omega,h.2⟩)]
    ·rw [Ks k (by omega) (.inl hw),ih,zj k (by omega) (.inl hw)]
     by_cases JT:i<k∧W i
     ·rw [if_pos JT,if_pos ⟨by omega,JT.2⟩]
     ·rw [if_neg JT,if_neg (fun h=>JT ⟨by omega,h.2⟩)]
 rw [key n (ae4 n)]
 by_cases hw:W i
 ·rw [if_pos ⟨hi,hw⟩,if_pos hw]
 ·rw [if_neg (fun h=>hw h.2),if_neg hw]
structure xQ (P:Program)(cf:CallF)(aS:List Nat)(ops:Array Oper)(tx:Nat→RS)(ft:Nat→nJ)(ord:Nat→Nat→Prop):Prop where
 op:∀k o,ops[k]? = some o→∃w,jN ops.toList (tx k).ρ o=some w∧(if w then A7 P cf aS (ops.toList.filterMap (·.dst)) (tx k) o=some (tx (k+1))∧ft k=bE aS (ck (tx k).ρ) o else tx (k+1)=(tx k).set o.dst (.tup [])∧ft k={})
 QE:∀k i,ord k i→∃o,ops[i]? = some o∧∃e∈o.after,Region.binds .any e=true∧(e.on=k∨ord k e.on)
 back:∀i o,ops[i]? = some o→∀e∈o.after,Region.binds .any e=true→e.on<i
 PF:∀i j x y,i≠j→ops[i]? = some x→ops[j]? = some y→ord i j∨ord j i∨∀d,x.dst=some d→d∉y.looksAt ops∧y.dst≠some d
 boxes:∀i j,i<ops.size→j<ops.size→i≠j→ord i j∨ord j i∨(∀k,(ft i).wb=some k→k∉(ft j).rb∧(ft j).wb≠some k)∧((ft i).wh=true→(ft j).wh=false∧∀id∈(ft j).rh,(tx i).h.get id=(tx (i+1)).h.get id)
 W2:∀i o d,ops[i]? = some o→(ft i).al=true→o.dst=some d→(∀t∈ops.toList.filterMap (·.dst),t≠d→∀off,(tx 0).ρ t≠.lp d off)∧∀j y t,ops[j]? = some y→j≠i→ord i j∨(y.dst=some t→∀off,(tx (j+1)).ρ t≠.lp d off)
section
variable {P:Program}{cf:CallF}{aS:List Nat}{ops:Array Oper}{tx:Nat→RS}{ft:Nat→nJ}{ord:Nat→Nat→Prop}
def lM (ops:Array Oper)(k:Nat):Option Nat:=(ops[k]?).bind (·.dst)
def mR (ops:Array Oper)(tx:Nat→RS)(ft:Nat→nJ)(S:Nat→Bool):Nat→RS
 | 0=>tx 0
 | k+1=>if S k then (mR ops tx ft S k).shift (ft k) (lM ops k) (tx (k+1)) else mR ops tx ft S k
theorem xQ.shift (T:xQ P cf aS ops tx ft ord){k:Nat}(hk:k<ops.size):tx (k+1)=(tx k).shift (ft k) (lM ops k) (tx (k+1)):=by
 have ho:ops[k]? = some ops[k]:=by simp [hk]
 obtain⟨w,hw,h⟩:=T.op k _ ho
 have hd:lM ops k=ops[k].dst:=by simp [lM,hk]
 rw [hd]
 cases w with
 | true=>
  simp only [if_true] at h
  obtain⟨h1,h2⟩:=h
  have:=Ab (s2:=tx k) (e:=ck (tx k).ρ) h1 (fun _ _=>rfl) (fun _ _=>rfl) (fun _=>rfl) (fun sL d EV=>by
   unfold A7 E9 at h1
   dsimp only at h1
   have PG:∀(cs:List AV) (s s':RS),kp s aS (ops.toList.filterMap (·.dst)) ops[k] cs=some s'→aS.contains d=true→xt d s.ρ ((ops.toList.filterMap (·.dst)).filter fun t=>!Nat.beq t d)=true:=by
    intro cs s s' hb hl
    unfold kp at hb
    simp only [EV,hl,if_true] at hb
    by_cases hn:xt d s.ρ ((ops.toList.filterMap (·.dst)).filter fun t=>!Nat.beq t d)=true
    ·exact hn
    ·simp [hn] at hb
   unfold bE at sL
   split at sL
   ·rename_i t GV
    rw [EV] at sL
    simp only at sL
    split at sL
    ·rename_i hl
     rw [GV] at h1
     simp only [ae0] at h1
     obtain⟨z,_,h1⟩:=h1
     exact PG _ _ _ h1 hl
    ·cases sL
   ·rename_i t x GV
    rw [EV] at sL
    simp only at sL
    split at sL
    ·rename_i hl
     rw [GV] at h1
     exact PG _ _ _ h1 hl
    ·cases sL
   all_goals first
    | (split at sL<;>cases sL)
    | (split at sL<;>first | cases sL | (split at sL<;>cases sL))
    | cases sL)
  unfold A7 at h1
  rw [h1] at this
  rw [h2]
  exact afB this
 | false=>
  simp only [afa,if_false] at h
  rw [h.1,h.2]
  exact kD (tx k) (tx k) {} _ _ rfl rfl
theorem w9 (s2:RS)(f:nJ)(d:Option Nat)(s':RS)(t:Nat):(s2.shift f d s').ρ t=if d=some t then s'.ρ t else s2.ρ t:=by
 cases d with
 | none=>simp [RS.shift]
 | some d=>
  simp only [RS.shift,ae2]
  by_cases h:t=d
  ·subst h; simp
  ·rw [if_neg h,if_neg (Ne.symm h)]
theorem ti (s2:RS)(f:nJ)(d:Option Nat)(s':RS)(b:Nat):(s2.shift f d s').bx b=if f.wb=some b then s'.bx b else s2.bx b:=by
 cases hf:f.wb with
 | none=>simp [RS.shift,hf]
 | some k=>
  simp only [RS.shift,hf,ae2]
  by_cases h:b=k
  ·subst h; simp
  ·rw [if_neg h,if_neg (Ne.symm h)]
theorem xQ.lt (T:xQ P cf aS ops tx ft ord):∀{j k:Nat},ord k j→k<j:=by
 intro j
 induction j using Nat.strongRecOn with
 | _ j ih=>
  intro k h
  obtain⟨o,ho,e,he,hb,h1⟩:=T.QE k j h
  have h2:=T.back j o ho e he hb
  rcases h1 with h1 | h1
  ·omega
  ·have:=ih e.on h2 h1; omega
def uw (ops:Array Oper)(S:Nat→Bool):Prop:=∀j o,ops[j]? = some o→S j=true→∀e∈o.after,Region.binds .any e=true→S e.on=true
theorem xQ.down (T:xQ P cf aS ops tx ft ord){S:Nat→Bool}(hc:uw ops S):∀{j k:Nat},ord k j→S j=true→S k=true:=by
 intro j
 induction j using Nat.strongRecOn with
 | _ j ih=>
  intro k h hs
  obtain⟨o,ho,e,he,hb,h1⟩:=T.QE k j h
  have h2:=T.back j o ho e he hb
  have h3:=hc j o ho hs e he hb
  rcases h1 with h1 | h1
  ·rw [←h1]; exact h3
  ·exact ih e.on h2 h1 h3
variable {S:Nat→Bool}{i:Nat}{oi:Oper}
theorem xQ.before (T:xQ P cf aS ops tx ft ord)(hc:uw ops S)(ho:ops[i]? = some oi)(hr:∀e∈oi.after,Region.binds .any e=true→S e.on=true){k:Nat}(h:ord k i):S k=true:=by
 obtain⟨o,SQ,e,he,hb,h1⟩:=T.QE k i h
 rw [ho] at SQ
 cases SQ
 rcases h1 with h1 | h1
 ·rw [←h1]; exact hr e he hb
 ·exact T.down hc h1 (hr e he hb)
theorem xQ.iff (T:xQ P cf aS ops tx ft ord)(hc:uw ops S)(ho:ops[i]? = some oi)(hr:∀e∈oi.after,Region.binds .any e=true→S e.on=true)(hi:S i=false){k:Nat}(h:ord i k∨ord k i):S k=true↔k<i:=by
 rcases h with h | h
 ·have:=T.lt h
  refine⟨fun hk=>?_,fun _=>by omega⟩
  have:=T.down hc h hk
  rw [hi] at this; cases this
 ·exact⟨fun _=>T.lt h,fun _=>T.before hc ho hr h⟩
theorem Bq (t:Nat)(k:Nat)(hd:lM ops k=some t)(hs:S k=true):(mR ops tx ft S (k+1)).ρ t=(tx (k+1)).ρ t:=by
 simp only [mR,hs,if_true,w9,hd]
theorem Br (t:Nat)(k:Nat)(h:¬lM ops k=some t∨S k=false):(mR ops tx ft S (k+1)).ρ t=(mR ops tx ft S k).ρ t:=by
 simp only [mR]
 split
 ·rename_i hs
  rcases h with h | h
  ·rw [w9,if_neg h]
  ·rw [h] at hs; cases hs
 ·rfl
theorem Bs (b:Nat)(k:Nat)(hd:(ft k).wb=some b)(hs:S k=true):(mR ops tx ft S (k+1)).bx b=(tx (k+1)).bx b:=by
 simp only [mR,hs,if_true,ti,hd]
theorem Bu (b:Nat)(k:Nat)(h:¬(ft k).wb=some b∨S k=false):(mR ops tx ft S (k+1)).bx b=(mR ops tx ft S k).bx b:=by
 simp only [mR]
 split
 ·rename_i hs
  rcases h with h | h
  ·rw [ti,if_neg h]
  ·rw [h] at hs; cases hs
 ·rfl
theorem Bv (k:Nat)(hd:(ft k).wh=true)(hs:S k=true):(mR ops tx ft S (k+1)).h=(tx (k+1)).h:=by
 simp only [mR,hs,if_true,RS.shift,hd]
theorem Bw (k:Nat)(h:¬(ft k).wh=true∨S k=false):(mR ops tx ft S (k+1)).h=(mR ops tx ft S k).h:=by
 simp only [mR]
 split
 ·rename_i hs
  rcases h with h | h
  ·simp only [RS.shift]; rw [if_neg h]
  ·rw [h] at hs; cases hs
 ·rfl
theorem xQ.W3 (T:xQ P cf aS ops tx ft ord)(t:Nat)(k:Nat)(hk:k<ops.size)(h:¬lM ops k=some t):(tx (k+1)).ρ t=(tx k).ρ t:=by
 rw [T.shift hk,w9,if_neg h]
theorem xQ.T3 (T:xQ P cf aS ops tx ft ord)(b:Nat)(k:Nat)(hk:k<ops.size)(h:¬(ft k).wb=some b):(tx (k+1)).bx b=(tx k).bx b:=by
 rw [T.shift hk,ti,if_neg h]
theorem xQ.QF (T:xQ P cf aS ops tx ft ord)(k:Nat)(hk:k<ops.size)(h:¬(ft k).wh=true):(tx (k+1)).h=(tx k).h:=by
 rw [T.shift hk]; simp only [RS.shift]; rw [if_neg h]
theorem xQ.reads (T:xQ P cf aS ops tx ft ord)(hc:uw ops S)(ho:ops[i]? = some oi)(hr:∀e∈oi.after,Region.binds .any e=true→S e.on=true)(hi:S i=false) :
  (∀t∈oi.looksAt ops,(mR ops tx ft S ops.size).ρ t=(tx i).ρ t)∧(∀b∈(ft i).rb,(mR ops tx ft S ops.size).bx b=(tx i).bx b)∧
  (∀id∈(ft i).rh,(mR ops tx ft S ops.size).h.get id=(tx i).h.get id)∧((ft i).wh=true→(mR ops tx ft S ops.size).h=(tx i).h):=by
 have hin:i<ops.size:=(afH.1 ho).1
 have GA:∀k,k<ops.size→ops[k]? = some ops[k]!:=fun k hk=>by simp [hk]
 have rU:∀k,k=i→(S k=true↔k<i):=by
  rintro k rfl
  rw [hi]; simp
 refine⟨fun t ht=>?_,fun b hb=>?_,fun id hid=>?_,fun hw=>?_⟩
 ·refine th (W:=fun k=>lM ops k=some t) (m:=fun k=>(mR ops tx ft S k).ρ t) (x:=fun k=>(tx k).ρ t) (S:=S) (Nat.le_of_lt hin) rfl (fun k _ h hs=>Bq t k h hs) (fun k _ h=>Br t k h) (fun k hk h=>T.W3 t k hk h) (fun k hk h=>?_)
  by_cases w8:k=i
  ·exact rU k w8
  ·obtain⟨y,hy,QG⟩:=ae0.1 h
   rcases T.PF k i y oi w8 hy ho with h1 | h1 | h1
   ·exact T.iff hc ho hr hi (.inr h1)
   ·exact T.iff hc ho hr hi (.inl h1)
   ·exact absurd ht (h1 t QG).1
 ·refine th (W:=fun k=>(ft k).wb=some b) (m:=fun k=>(mR ops tx ft S k).bx b) (x:=fun k=>(tx k).bx b) (S:=S) (Nat.le_of_lt hin) rfl (fun k _ h hs=>Bs b k h hs) (fun k _ h=>Bu b k h) (fun k hk h=>T.T3 b k hk h) (fun k hk h=>?_)
  by_cases w8:k=i
  ·exact rU k w8
  ·rcases T.boxes k i hk hin w8 with h1 | h1 | h1
   ·exact T.iff hc ho hr hi (.inr h1)
   ·exact T.iff hc ho hr hi (.inl h1)
   ·exact absurd hb (h1.1 b h).1
 ·
  obtain⟨p,hp,TQ⟩:∃p,p≤ops.size∧∀k,k<ops.size→(ft k).wh=true→(S k=true↔k<p):=by
   have key:∀m,m≤ops.size→(∀k,k<m→(ft k).wh=true→S k=true)∨∃p,p<m∧(ft p).wh=true∧S p=false∧∀k,k<p→(ft k).wh=true→S k=true:=by
    intro m
    induction m with
    | zero=>intro _; exact .inl fun k hk=>by omega
    | succ m ih=>
     intro hm
     rcases ih (by omega) with h | ⟨p,h1,h2⟩
     ·by_cases hw:(ft m).wh=true∧S m=false
      ·exact .inr ⟨m,by omega,hw.1,hw.2,h⟩
      ·refine .inl fun k hk hkw=>?_
       by_cases hkm:k=m
       ·subst hkm
        cases hs:S k with
        | true=>rfl
        | false=>exact absurd ⟨hkw,hs⟩ hw
       ·exact h k (by omega) hkw
     ·exact .inr ⟨p,by omega,h2⟩
   rcases key ops.size (ae4 _) with h | ⟨p,h1,h2,h3,h4⟩
   ·exact⟨ops.size,ae4 _,fun k hk hw=>⟨fun _=>hk,fun _=>h k hk hw⟩⟩
   ·refine⟨p,by omega,fun k hk hw=>⟨fun hs=>?_,fun Wd=>h4 k Wd hw⟩⟩
    rcases Nat.lt_or_ge k p with h5 | h5
    ·exact h5
    ·by_cases Wd:k=p
     ·subst Wd; rw [h3] at hs; cases hs
     ·rcases T.boxes p k h1 hk (Ne.symm Wd) with h6 | h6 | h6
      ·have:=T.down hc h6 hs; rw [h3] at this; cases this
      ·have:=T.lt h6; omega
      ·have:=(h6.2 h2).1; rw [hw] at this; cases this
  have QH:(mR ops tx ft S ops.size).h=(tx p).h:=
   th (W:=fun k=>(ft k).wh=true) (m:=fun k=>(mR ops tx ft S k).h) (x:=fun k=>(tx k).h) (S:=S) hp rfl (fun k _ h hs=>Bv k h hs) (fun k _ h=>Bw k h) (fun k hk h=>T.QF k hk h) TQ
  rw [QH]
  have PH:∀k,k<ops.size→(p≤k∧k<i)∨(i≤k∧k<p)→(tx (k+1)).h.get id=(tx k).h.get id:=by
   intro k hk hb
   by_cases hw:(ft k).wh=true
   ·have hs:=TQ k hk hw
    have w8:k≠i:=by
     rintro rfl
     rcases hb with hb | hb
     ·omega
     ·have:=hs.2 hb.2; rw [hi] at this; cases this
    rcases T.boxes k i hk hin w8 with h1 | h1 | h1
    ·have hlt:=T.lt h1
     have:=hs.1 (T.before hc ho hr h1)
     omega
    ·have hlt:=T.lt h1
     have:=T.down hc h1 (hs.2 (by omega))
     rw [hi] at this; cases this
    ·exact ((h1.2 hw).2 id hid).symm
   ·rw [T.QF k hk hw]
  have walk:∀a b,a≤b→b≤ops.size→(∀k,a≤k→k<b→(tx (k+1)).h.get id=(tx k).h.get id)→(tx b).h.get id=(tx a).h.get id:=by
   intro a b NB
   induction b with
   | zero=>
     intro _ _; have:a=0:=by omega
     subst this; rfl
   | succ b ih=>
    intro hb hk
    by_cases W4:a=b+1
    ·subst W4; rfl
    ·rw [hk b (by omega) (by omega)]
     exact ih (by omega) (by omega) fun k h1 h2=>hk k h1 (by omega)
  rcases Nat.le_total p i with h | h
  ·exact (walk p i h (Nat.le_of_lt hin) fun k h1 h2=>PH k (by omega) (.inl ⟨h1,h2⟩)).symm
  ·exact walk i p h hp fun k h1 h2=>PH k (by omega) (.inr ⟨h1,h2⟩)
 ·refine th (W:=fun k=>(ft k).wh=true) (m:=fun k=>(mR ops tx ft S k).h) (x:=fun k=>(tx k).h) (S:=S) (Nat.le_of_lt hin) rfl (fun k _ h hs=>Bv k h hs) (fun k _ h=>Bw k h) (fun k hk h=>T.QF k hk h) (fun k hk h=>?_)
  by_cases w8:k=i
  ·exact rU k w8
  ·rcases T.boxes k i hk hin w8 with h1 | h1 | h1
   ·exact T.iff hc ho hr hi (.inr h1)
   ·exact T.iff hc ho hr hi (.inl h1)
   ·have:=(h1.2 h).1; rw [hw] at this; cases this
theorem Dl (t:Nat):∀k,(mR ops tx ft S k).ρ t=(tx 0).ρ t∨∃j,j<k∧S j=true∧lM ops j=some t∧(mR ops tx ft S k).ρ t=(tx (j+1)).ρ t
 | 0=>.inl rfl
 | k+1=>by
  by_cases h:lM ops k=some t∧S k=true
  ·exact .inr ⟨k,by omega,h.2,h.1,Bq t k h.1 h.2⟩
  ·have h':¬lM ops k=some t∨S k=false:=by
    by_cases h1:lM ops k=some t
    ·right; cases hs:S k with
     | true=>exact absurd ⟨h1,hs⟩ h
     | false=>rfl
    ·exact .inl h1
   rw [Br t k h']
   rcases Dl t k with h1 | ⟨j,h1,h2⟩
   ·exact .inl h1
   ·exact .inr ⟨j,by omega,h2⟩
theorem xR {k:Nat}{ρ:Nat→AV}:∀{l:List Nat},(∀t∈l,∀off,ρ t≠.lp k off)→xt k ρ l=true
 | [],_=>rfl
 | t::l,h=>by
  simp only [xt,ae3]
  refine⟨?_,xR fun u hu=>h u (by simp [hu])⟩
  have:=h t (by simp)
  split
  ·rename_i j off heq
   simp only [bne_iff_ne,ne_eq]
   rintro rfl
   exact this off heq
  ·rfl
open Classical in
theorem xQ.next (T:xQ P cf aS ops tx ft ord)(hc:uw ops S)(ho:ops[i]? = some oi)(hr:∀e∈oi.after,Region.binds .any e=true→S e.on=true)(hi:S i=false){S':Nat→Bool}(IT:∀k,S' k=if k=i then true else S k) :
  pY P cf aS ops.toList (mR ops tx ft S ops.size) oi=some (mR ops tx ft S' ops.size):=by
 have hin:i<ops.size:=(afH.1 ho).1
 obtain⟨h1,h2,h3,h4⟩:=T.reads hc ho hr hi
 obtain⟨w,hw,GV⟩:=T.op i oi ho
 have wk:lM ops i=oi.dst:=by simp [lM,ho]
 have Ac:∀j,i<j→j<ops.size→(ord i j∨ord j i)→S j=false:=by
  intro j CN hj h
  cases hs:S j with
  | false=>rfl
  | true=>have:=(T.iff hc ho hr hi h).1 hs; omega
 have QH:mR ops tx ft S' ops.size=(mR ops tx ft S ops.size).shift (ft i) (lM ops i) (tx (i+1)):=by
  refine RS.ext' (fun t=>?_) (fun b=>?_) ?_
  ·rw [w9]
   have:=Bp (W:=fun k=>lM ops k=some t) (m:=fun k=>(mR ops tx ft S k).ρ t) (m':=fun k=>(mR ops tx ft S' k).ρ t) (x:=fun k=>(tx k).ρ t) (S:=S) (S':=S') hin rfl
    (fun k _ h hs=>Bq t k h hs) (fun k _ h=>Br t k h) (fun k _ h hs=>Bq t k h hs) (fun k _ h=>Br t k h) IT hi (fun SU j hj CN T4=>by
     obtain⟨y,hy,QG⟩:=ae0.1 T4
     rw [wk] at SU
     rcases T.PF i j oi y (by omega) ho hy with h | h | h
     ·exact Ac j CN hj (.inl h)
     ·exact Ac j CN hj (.inr h)
     ·exact absurd QG (h t SU).2)
   rw [this]
   by_cases hd:lM ops i=some t
   ·rw [if_pos hd,if_pos hd]
   ·rw [if_neg hd,if_neg hd]
  ·rw [ti]
   have:=Bp (W:=fun k=>(ft k).wb=some b) (m:=fun k=>(mR ops tx ft S k).bx b) (m':=fun k=>(mR ops tx ft S' k).bx b) (x:=fun k=>(tx k).bx b) (S:=S) (S':=S') hin rfl
    (fun k _ h hs=>Bs b k h hs) (fun k _ h=>Bu b k h) (fun k _ h hs=>Bs b k h hs) (fun k _ h=>Bu b k h) IT hi (fun SU j hj CN T4=>by
     rcases T.boxes i j hin hj (by omega) with h | h | h
     ·exact Ac j CN hj (.inl h)
     ·exact Ac j CN hj (.inr h)
     ·exact absurd T4 (h.1 b SU).2)
   rw [this]
   by_cases hd:(ft i).wb=some b
   ·rw [if_pos hd,if_pos hd]
   ·rw [if_neg hd,if_neg hd]
  ·have:=Bp (W:=fun k=>(ft k).wh=true) (m:=fun k=>(mR ops tx ft S k).h) (m':=fun k=>(mR ops tx ft S' k).h) (x:=fun k=>(tx k).h) (S:=S) (S':=S') hin rfl
    (fun k _ h hs=>Bv k h hs) (fun k _ h=>Bw k h) (fun k _ h hs=>Bv k h hs) (fun k _ h=>Bw k h) IT hi (fun SU j hj CN T4=>by
     rcases T.boxes i j hin hj (by omega) with h | h | h
     ·exact Ac j CN hj (.inl h)
     ·exact Ac j CN hj (.inr h)
     ·have:=(h.2 SU).1; rw [T4] at this; cases this)
   rw [this]
   simp only [RS.shift]
   by_cases hd:(ft i).wh=true
   ·rw [if_pos hd,if_pos hd]
   ·rw [if_neg hd,if_neg hd]
 have T5:∀x∈oi.op.operands,ck (mR ops tx ft S ops.size).ρ x=ck (tx i).ρ x:=by
  intro x hx
  cases x with
  | tmp t=>
   refine h1 t ?_
   unfold Oper.looksAt
   rw [afk]
   left
   rw [List.mem_filterMap]
   exact⟨.tmp t,af3.2 hx,rfl⟩
  | _=>rfl
 have T6:jN ops.toList (mR ops tx ft S ops.size).ρ oi=jN ops.toList (tx i).ρ oi:=by
  unfold jN
  cases hg:oi.guard with
  | none=>rfl
  | some g=>
   obtain⟨g,want⟩:=g
   simp only
   cases hq:(ops.toList[g]?).bind (·.dst) with
   | none=>rfl
   | some d=>
    simp only [aeZ]
    rw [h1 d]
    unfold Oper.looksAt
    rw [afk]
    right
    rw [hg]
    simp only
    have:(ops[g]?).bind (·.dst)=some d:=by simpa using hq
    rw [this]
    simp
 unfold pY
 rw [T6,hw]
 simp only [aeZ]
 rw [QH,wk]
 cases w with
 | false=>
  simp only [afa,if_false] at GV ⊢
  rw [GV.1,GV.2]
  congr 1
  exact kD (tx i) _ {} _ _ rfl rfl
 | true=>
  simp only [if_true] at GV ⊢
  obtain⟨GV,SV⟩:=GV
  unfold A7 at GV ⊢
  rw [IS T5,SV]
  rw [SV] at h2 h3 h4
  refine Ab GV h2 h3 h4 (fun sL d EV=>xR fun t ht off he=>?_)
  rw [agp] at ht
  obtain⟨ht1,ht2⟩:=ht
  have Py:t≠d:=by simpa [beq_nat] using ht2
  obtain⟨l1,l2⟩:=T.W2 i oi d ho (by rw [SV]; exact sL) EV
  rcases Dl (ops:=ops) (tx:=tx) (ft:=ft) (S:=S) t ops.size with h | ⟨j,hj,hs,hjd,h⟩
  ·rw [h] at he
   exact l1 t ht1 Py off he
  ·rw [h] at he
   obtain⟨y,hy,QG⟩:=ae0.1 hjd
   have hji:j≠i:=by rintro rfl; rw [hi] at hs; cases hs
   rcases l2 j y t hy hji with h5 | h5
   ·have:=T.down hc h5 hs; rw [hi] at this; cases this
   ·exact h5 QG off he
theorem GW (T:xQ P cf aS ops tx ft ord)(mC:∀k,k<ops.size→S k=true):∀k,k≤ops.size→mR ops tx ft S k=tx k
 | 0,_=>rfl
 | k+1,hk=>by
  simp only [mR,mC k (by omega),if_true]
  rw [GW T mC k (by omega)]
  exact (T.shift (by omega)).symm
def left (n:Nat)(S:Nat→Bool):Nat:=(af7 n).countP fun j=>!S j
theorem IU {n:Nat}{S:Nat→Bool}(h:left n S=0):∀k,k<n→S k=true:=by
 intro k hk
 unfold left at h
 rw [List.countP_eq_zero] at h
 simpa using h k (agi.2 hk)
theorem Kt {n i:Nat}(hi:i<n){S S':Nat→Bool}(T0:S i=false)(IT:∀k,S' k=if k=i then true else S k):left n S'+1=left n S:=by
 unfold left
 have:∀m,(af7 m).countP (fun j=>!S' j)+(if i<m then 1 else 0)=(af7 m).countP fun j=>!S j:=by
  intro m
  induction m with
  | zero=>simp
  | succ m ih=>
   rw [List.range_succ,List.countP_append,List.countP_append]
   simp only [List.countP_cons,List.countP_nil]
   by_cases hm:m=i
   ·subst hm
    have h1:S' m=true:=by rw [IT]; simp
    rw [h1,T0]
    simp at ih ⊢
    omega
   ·have h1:S' m=S m:=by rw [IT,if_neg hm]
    rw [h1]
    by_cases him:i<m
    ·have h3:i<m+1:=by omega
     simp only [him,h3,if_true] at ih ⊢
     omega
    ·have h3:¬i<m+1:=by omega
     simp only [him,h3,if_false] at ih ⊢
     omega
 have:=this n
 rw [if_pos hi] at this
 exact this
theorem QI (T:xQ P cf aS ops tx ft ord)(hcf:CallOK P cf){L0:Nat→Prop}{c0:Cx}{n:Nat}(hb0:c0.base≤c0.w.heap.size)(C5:Aa n ops.toList=true){Q:Exit→Act→World→Prop}
  (hQ:∀a' w',Inv L0 c0 n (ops.toList.filterMap (·.dst)) (tx ops.size) a' w'→Q .normal a' w') :
  ∀(fuel:Nat) (fM:Array Bool) (a:Act) (w:World),fM.size=ops.size→uw ops (fun j=>fM.getD j false)→left ops.size (fun j=>fM.getD j false)≤fuel→
   Inv L0 c0 n (ops.toList.filterMap (·.dst)) (mR ops tx ft (fun j=>fM.getD j false) ops.size) a w→wpAny P .any ops Q fuel fM a w:=by
 intro fuel
 have Ku:∀(fM:Array Bool) a w,fM.size=ops.size→Region.ready .any ops fM=[]→Inv L0 c0 n (ops.toList.filterMap (·.dst)) (mR ops tx ft (fun j=>fM.getD j false) ops.size) a w→Q .normal a w:=by
  intro fM a w hsz SW hi
  have mC:∀k,k<ops.size→fM.getD k false=true:=by
   intro k
   induction k using Nat.strongRecOn with
   | _ k ih=>
    intro hk
    cases hl:fM.getD k false with
    | true=>rfl
    | false=>
     have:k∈Region.ready .any ops fM:=mem_ready.2 ⟨getD_in (by omega) hl,ops[k],by simp [hk],fun e he hb=>by
      have:=T.back k ops[k] (by simp [hk]) e he hb
      exact ih e.on this (by omega)⟩
     rw [SW] at this
     cases this
  rw [GW (S:=fun j=>fM.getD j false) T mC _ (ae4 _)] at hi
  exact hQ a w hi
 induction fuel with
 | zero=>
  intro fM a w hsz hc hl hi
  have mC:=IU (Nat.le_zero.1 hl)
  have SW:Region.ready .any ops fM=[]:=by
   rw [List.eq_nil_iff_forall_not_mem]
   intro j hj
   obtain⟨h1,o,ho,_⟩:=mem_ready.1 hj
   have T7:j<ops.size:=(afH.1 ho).1
   have h2:=mC j T7
   have Fv:j<fM.size:=by omega
   simp [Fv] at h1 h2
   rw [h1] at h2; cases h2
  exact⟨SW,Ku fM a w hsz SW hi⟩
 | succ fuel ih=>
  intro fM a w hsz hc hl hi
  refine⟨fun SW=>Ku fM a w hsz SW hi,fun i IV=>?_⟩
  obtain⟨h1,o,ho,T8⟩:=mem_ready.1 IV
  have hin:i<ops.size:=(afH.1 ho).1
  have Fw:i<fM.size:=by omega
  have T0:fM.getD i false=false:=by simp [Fw] at h1 ⊢; exact h1
  have IT:∀k,(fM.setIfInBounds i true).getD k false=if k=i then true else fM.getD k false:=by
   intro k
   by_cases hk:k=i
   ·subst hk
    rw [if_pos rfl]
    simp [Fw]
   ·rw [if_neg hk,getD_set_ne false (Ne.symm hk)]
  have hst:=T.next (S:=fun j=>fM.getD j false) (S':=fun k=>(fM.setIfInBounds i true).getD k false) hc ho T8 T0 IT
  unfold wpOp
  rw [ho]
  simp only
  have T9:o∈ops.toList:=af3.2 (Array.mem_of_getElem? ho)
  have:=De (Q:=Q) (K:=wpAny P .any ops Q fuel (fM.setIfInBounds i true)) hcf hb0 rfl (Df C5 T9) hst hi (fun a' w' mw=>by
   refine ih _ a' w' (by simpa using hsz) ?_ ?_ mw
   ·intro j oj W5 hj e he hb
    dsimp only at hj ⊢
    rw [IT] at hj ⊢
    by_cases hji:j=i
    ·subst hji
     rw [ho] at W5
     cases W5
     have:=T8 e he hb
     rw [this]; simp
    ·rw [if_neg hji] at hj
     have:=hc j oj W5 hj e he hb
     simp only at this
     rw [this]; simp
   ·have:=Kt hin (S:=fun j=>fM.getD j false) T0 IT
    omega)
  split
  ·rename_i hw; rw [if_pos hw] at this; exact .inl this
  ·rename_i hw; rw [if_neg hw] at this; exact this
theorem Ad {opsL:List Oper}:∀(l:List Oper) (s r:RS) (es:List pD),sU P cf aS opsL s l=some (es,r)→∃tx:Nat→RS,tx 0=s∧tx l.length=r∧
  ∀k o,l[k]? = some o→∃w,jN opsL (tx k).ρ o=some w∧(if w then A7 P cf aS (opsL.filterMap (·.dst)) (tx k) o=some (tx (k+1)) else tx (k+1)=(tx k).set o.dst (.tup []))∧
   es[k]? = some {o,f:=if w then bE aS (ck (tx k).ρ) o else {},s:=tx k,s':=tx (k+1)}
 | [],s,r,es,h=>by
  simp only [sU,ae2,ae9] at h
  obtain⟨rfl,rfl⟩:=h
  exact⟨fun _=>s,rfl,rfl,fun k o ho=>by simp at ho⟩
 | o::l,s,r,es,h=>by
  simp only [sU,ae0,ae1] at h
  obtain⟨w,hw,s1,h1,⟨vt,r'⟩,h2,h3⟩:=h
  simp only [ae9] at h3
  obtain⟨rfl,rfl⟩:=h3
  obtain⟨tx,t0,tn,ht⟩:=Ad l s1 r' vt h2
  refine⟨fun | 0=>s | k+1=>tx k,rfl,tn,fun k o' ho=>?_⟩
  cases k with
  | zero=>
   simp only [afK,ae2] at ho
   subst ho
   refine⟨w,hw,?_,?_⟩
   ·cases w with
    | true=>simpa [t0] using h1
    | false=>
     simp only [afa,if_false,ae2] at h1 ⊢
     rw [t0]; exact h1.symm
   ·simp [t0]
  | succ k=>
   obtain⟨w',h4,h5,h6⟩:=ht k o' (by simpa using ho)
   exact⟨w',h4,h5,by simpa using h6⟩
theorem Kv {e:Operand→AV}{o:Oper}(h:(bE aS e o).al=true):(bE aS e o).wb.isSome=true:=by
 unfold bE at h ⊢
 split at h<;>try (cases h; done)
 all_goals (split at h<;>try (cases h; done))
 all_goals (split at h<;>try (cases h; done))
 all_goals simp_all
theorem IW {k:Nat}{x:AV}(h:Ql k x=false):∀off,x≠.lp k off:=by
 rintro off rfl
 simp [Ql] at h
theorem Dm (hm:P.follows .mixedOrders=true)(hcf:CallOK P cf)(hsf:SteadyF cf):Fu P cf:=by
 intro L0 c0 n aS id ops s s' h hb0 C5 a w Q hi hQ
 unfold mu at h
 dsimp only at h
 split at h
 rotate_left
 ·cases h
 rename_i Bx
 rw [ae0] at h
 obtain⟨⟨es,r⟩,Fk,h⟩:=h
 simp only at h
 split at h
 rotate_left
 ·cases h
 rename_i Dn
 cases h
 obtain⟨tx,t0,tn,ht⟩:=Ad ops.toList s s' es Fk
 generalize Tz:lR [] ops.toList=ms at Bx Dn
 have W6:∀k i,(ms.getD i 0).testBit k=true→∃o,ops[i]? = some o∧∃e∈o.after,Region.binds .any e=true∧(e.on=k∨(ms.getD e.on 0).testBit k=true):=by
  intro k i hk
  obtain⟨o,ho,e,he,hb,h1⟩:=(vJ ops.toList []).2 i k (by rw [Tz]; exact hk) (by simp)
  refine⟨o,by simpa using ho,e,af3.1 he,hb,?_⟩
  rw [Tz] at h1
  exact h1
 unfold rf at Bx
 simp only [ae3] at Bx
 obtain⟨QJ,Kw⟩:=Bx
 let ft:Nat→nJ:=fun k=>((es[k]?).map (·.f)).getD {}
 have xD:∀k o,ops[k]? = some o→∃w,jN ops.toList (tx k).ρ o=some w∧(if w then A7 P cf aS (ops.toList.filterMap (·.dst)) (tx k) o=some (tx (k+1)) else tx (k+1)=(tx k).set o.dst (.tup []))∧
   es[k]? = some {o,f:=ft k,s:=tx k,s':=tx (k+1)}∧ft k=if w then bE aS (ck (tx k).ρ) o else {}:=by
  intro k o ho
  obtain⟨w,h1,h2,h3⟩:=ht k o (by simpa using ho)
  have SV:ft k=if w then bE aS (ck (tx k).ρ) o else {}:=by simp only [ft,h3,ae6,af6]
  exact⟨w,h1,h2,by rw [SV]; exact h3,SV⟩
 have IV:∀k o,ops[k]? = some o→((⟨o,ft k,tx k,tx (k+1)⟩:pD),k)∈es.zipIdx:=by
  intro k o ho
  obtain⟨w,_,_,h3,_⟩:=xD k o ho
  exact List.mk_mem_zipIdx_iff_getElem?.2 h3
 simp only [afr,agp,ae3] at Dn
 have vw:∀k o,ops[k]? = some o→(ft k).quiet=false→(((⟨o,ft k,tx k,tx (k+1)⟩:pD),k)∈es.zipIdx∧(!(ft k).quiet)=true):=fun k o ho hq=>⟨IV k o ho,by rw [hq]; rfl⟩
 have GA:∀k,k<ops.size→ops[k]? = some ops[k]!:=fun k hk=>by simp [hk]
 have QK:∀i j x y,ops[i]? = some x→ops[j]? = some y→i≠j→(ft i).quiet=false→(ft j).quiet=false→(ms.getD j 0).testBit i=true∨(ms.getD i 0).testBit j=true∨
   pD.lQ ⟨x,ft i,tx i,tx (i+1)⟩ ⟨y,ft j,tx j,tx (j+1)⟩=true:=by
  intro i j x y hx hy CN NC ND
  rcases Nat.lt_or_ge i j with hlt | hge
  ·have:=(Dn _ (vw i x hx NC)).2 _ (vw j y hy ND)
   simp only [afR,ae3] at this
   rcases this with (h1 | h1) | h1
   ·have:=Nat.le_of_ble_eq_true h1; omega
   ·exact .inl h1
   ·exact .inr (.inr h1.1)
  ·have:=(Dn _ (vw j y hy ND)).2 _ (vw i x hx NC)
   simp only [afR,ae3] at this
   rcases this with (h1 | h1) | h1
   ·have:=Nat.le_of_ble_eq_true h1; omega
   ·exact .inr (.inl h1)
   ·exact .inr (.inr h1.2)
 have W7:∀id,(tx 0).h.ver id<(tx 0).h.next:=by
  obtain⟨_,c,Lo,lam,_,f,_⟩:=hi
  rw [t0,←f.h]; exact f.rel.ver
 have hst:∀k,k<ops.size→Steady (tx k).h (tx (k+1)).h:=by
  intro k hk
  obtain⟨w,h1,h2,_⟩:=xD k _ (GA k hk)
  cases w with
  | true=>exact xP hsf (by simpa [A7] using h2)
  | false=>
   simp only [afa,if_false] at h2
   rw [h2,lL]; exact Steady.refl _
 have We:∀k,k≤ops.size→∀id,(tx k).h.ver id<(tx k).h.next:=by
  intro k
  induction k with
  | zero=>intro _; exact W7
  | succ k ih=>intro hk; exact (hst k (by omega)).wf (ih (by omega))
 have T:xQ P cf aS ops tx ft (fun k i=>(ms.getD i 0).testBit k=true):=by
  refine⟨fun k o ho=>?_,W6,fun i o ho e he hb=>?_,fun i j x y CN hx hy=>?_,fun i j hin T7 CN=>?_,fun i o d ho sL hd=>?_⟩
  ·obtain⟨w,h1,h2,h3,h4⟩:=xD k o ho
   refine⟨w,h1,?_⟩
   cases w with
   | true=>exact⟨h2,h4⟩
   | false=>exact⟨h2,h4⟩
  ·have:=tg _ 0 QJ i o (by simpa using ho) e (af3.2 he) hb
   omega
  ·have vK:∀x y:Oper,A8 ops x y=true→∀d,x.dst=some d→d∉y.looksAt ops∧y.dst≠some d:=by
    intro x y h d hd
    unfold A8 at h
    rw [hd] at h
    simpa using h
   rcases Nat.lt_or_ge i j with hlt | hge
   ·have:=nw _ _ 0 Kw i j x y hlt (by simpa using hx) (by simpa using hy)
    simp only [aft,afR,ae3] at this
    rcases this with h1 | h1
    ·exact .inl h1
    ·exact .inr (.inr (vK _ _ h1.1))
   ·have:=nw _ _ 0 Kw j i y x (by omega) (by simpa using hy) (by simpa using hx)
    simp only [aft,afR,ae3] at this
    rcases this with h1 | h1
    ·exact .inr (.inl h1)
    ·exact .inr (.inr (vK _ _ h1.2))
  ·cases NC:(ft i).quiet with
   | true=>
    unfold nJ.quiet at NC
    simp only [ae3,Option.isNone_iff_eq_none,agk] at NC
    exact .inr (.inr ⟨fun k hk=>(by rw [NC.1.1.2] at hk; cases hk),fun hk=>(by rw [NC.2] at hk; cases hk)⟩)
   | false=>
    cases ND:(ft j).quiet with
    | true=>
     unfold nJ.quiet at ND
     simp only [ae3,Option.isNone_iff_eq_none,agk,List.isEmpty_iff] at ND
     obtain⟨⟨⟨q1,q2⟩,q3⟩,q4⟩:=ND
     exact .inr (.inr ⟨fun k hk=>⟨by rw [q1]; simp,by rw [q2]; simp⟩,fun hk=>⟨q4,by rw [q3]; simp⟩⟩)
    | false=>
     rcases QK i j _ _ (GA i hin) (GA j T7) CN NC ND with h1 | h1 | h1
     ·exact .inl h1
     ·exact .inr (.inl h1)
     ·refine .inr (.inr ?_)
      unfold pD.lQ at h1
      simp only [ae3,afR,agk,afr] at h1
      obtain⟨h2,h3⟩:=h1
      refine⟨fun k hk=>?_,fun hk=>?_⟩
      ·rw [hk] at h2
       simpa using h2
      ·rcases h3 with h3 | h3
       ·rw [hk] at h3; cases h3
       ·refine⟨h3.1,fun id hid=>?_⟩
        have hv:=agd (h3.2 id hid)
        rcases (hst i hin).keep id with⟨_,h5⟩| h5
        ·exact h5.symm
        ·have:=We i (by omega) id; omega
  ·obtain⟨w,h1,h2,h3,h4⟩:=xD i o ho
   have hq:(ft i).quiet=false:=by
    cases w with
    | false=>rw [h4] at sL; cases sL
    | true=>
     rw [h4] at sL ⊢
     have:=Kv sL
     unfold nJ.quiet
     simp only [if_true] at this ⊢
     cases hwb:(bE aS (ck (tx i).ρ) o).wb with
     | none=>rw [hwb] at this; cases this
     | some k=>simp
   have:=(Dn _ (vw i o ho hq)).1
   unfold w5 at this
   simp only [sL,hd] at this
   simp only [ae3,afr,afR] at this
   obtain⟨k1,k2⟩:=this
   refine⟨fun t ht Py off=>?_,fun j y t hy hji=>?_⟩
   ·rw [t0]
    exact uo k1 t (by rw [agp]; exact⟨ht,by simpa [beq_nat] using Py⟩) off
   ·have:=k2 _ (IV j y hy)
    rcases this with (h5 | h5) | h5
    ·have:=agd h5; omega
    ·exact .inl h5
    ·right
     intro QG off
     simp only [pD.out,QG,agk] at h5
     exact IW h5 off
 have hlen:tx ops.size=s':=by simpa using tn
 refine wp_region_any hm ?_
 refine QI T hcf hb0 C5 (fun a' w' mw=>hQ a' w' (by rw [hlen] at mw; exact mw)) ops.size _ _ _ (by simp) ?_ ?_ ?_
 ·intro j o _ hj
  simp only [getD_replicate_false] at hj
  cases hj
 ·unfold left
  exact afV (List.countP_le_length) (by simp)
 ·have Kh:∀k,mR ops tx ft (fun j=>(Array.replicate ops.size false).getD j false) k=tx 0:=by
   intro k
   induction k with
   | zero=>rfl
   | succ k ih=>
    rw [mR,getD_replicate_false,if_neg (by simp)]
    exact ih
  rw [Kh,t0]
  exact hi.drew
end
end Go.R
namespace Go.R
open Go
section
variable {c d:Cx}{L L':Nat→Prop}
mutual
theorem GX (hw:d.w=c.w)(hbs:d.base≤c.base)(ow:∀b,RO c L b→RO d L' b):∀(x:AV) (v:Value),x.fK=true→VR c L x v→VR d L' x v
 | .any,_,h,_=>by simp [AV.fK] at h
 | .bool _,_,_,h=>h
 | .int _ _,_,_,h=>h
 | .str _,_,_,h=>h
 | .rF,_,_,h=>h
 | .ptr _ _,_,h,_=>by simp [AV.fK] at h
 | .lp _ _,_,h,_=>by simp [AV.fK] at h
 | .fp cs off,v,h,hv=>by
  simp only [AV.fK] at h
  simp only [VR] at hv ⊢
  obtain⟨b,o,rfl,hc⟩:=hv
  exact⟨b,o,rfl,hc.imp id fun ⟨hr,hc⟩=>⟨ow b hr,sj hw hbs ow cs b o h hc⟩⟩
 | .nils,_,_,h=>h
 | .fz cs n ex,v,h,hv=>by
  simp only [AV.fK] at h
  simp only [VR] at hv ⊢
  obtain⟨a,cap,rfl,h1,h2,hs,hc⟩:=hv
  exact⟨a,cap,rfl,h1,h2,hs,hc.imp id fun ⟨b,o,ha,hr,hex,hc⟩=>⟨b,o,ha,ow b hr,fun h=>afV hbs (hex h),sj hw hbs ow cs b o h hc⟩⟩
 | .rs _ _ _ _,_,h,_=>by simp [AV.fK] at h
 | .pC,_,_,h=>h
 | .mp _,_,h,_=>by simp [AV.fK] at h
 | .fn f cap,v,h,hv=>by
  simp only [AV.fK] at h
  simp only [VR] at hv ⊢
  obtain⟨vs,rfl,h1⟩:=hv
  exact⟨vs,rfl,tj hw hbs ow cap vs.toList h h1⟩
 | .sQ,_,_,h=>h
 | .agg cs,v,h,hv=>by
  simp only [AV.fK] at h
  simp only [VR] at hv ⊢
  obtain⟨vs,rfl,h1⟩:=hv
  exact⟨vs,rfl,tj hw hbs ow cs vs.toList h h1⟩
 | .tup cs,v,h,hv=>by
  simp only [AV.fK] at h
  simp only [VR] at hv ⊢
  obtain⟨vs,rfl,h1⟩:=hv
  exact⟨vs,rfl,tj hw hbs ow cs vs.toList h h1⟩
theorem tj (hw:d.w=c.w)(hbs:d.base≤c.base)(ow:∀b,RO c L b→RO d L' b):∀(xs:List AV) (vs:List Value),dH xs=true→VRs c L xs vs→VRs d L' xs vs
 | [],[],_,_=>trivial
 | x::xs,v::vs,h,hv=>by
  simp only [dH,ae3] at h
  exact⟨GX hw hbs ow x v h.1 hv.1,tj hw hbs ow xs vs h.2 hv.2⟩
 | [],_::_,_,h=>h.elim
 | _::_,[],_,h=>h.elim
theorem sj (hw:d.w=c.w)(hbs:d.base≤c.base)(ow:∀b,RO c L b→RO d L' b):∀(xs:List AV) (b o:Nat),dH xs=true→Cells c L xs b o→Cells d L' xs b o
 | [],_,_,_,_=>trivial
 | x::xs,b,o,h,hv=>by
  simp only [dH,ae3] at h
  obtain⟨⟨v,h1,h2,h3⟩,h4⟩:=hv
  exact⟨⟨v,by rw [hw]; exact h1,h2,GX hw hbs ow x v h.1 h3⟩,sj hw hbs ow xs b (o+1) h.2 h4⟩
end
mutual
theorem By (hw:d.w=c.w)(ow:∀b,RO c L b→RO d L' b):∀(x:AV) (v:Value),x.fK=true→VR c L x v→VR d L' x.lH v
 | .any,_,h,_=>by simp [AV.fK] at h
 | .bool _,_,_,h=>h
 | .int _ _,_,_,h=>h
 | .str _,_,_,h=>h
 | .rF,_,_,h=>h
 | .ptr _ _,_,h,_=>by simp [AV.fK] at h
 | .lp _ _,_,h,_=>by simp [AV.fK] at h
 | .fp cs off,v,h,hv=>by
  simp only [AV.fK] at h
  simp only [VR,AV.lH] at hv ⊢
  obtain⟨b,o,rfl,hc⟩:=hv
  refine⟨b,o,rfl,?_⟩
  rcases hc with rfl | ⟨hr,hc⟩
  ·exact .inl rfl
  ·exact .inr ⟨ow b hr,ux hw ow cs b o h hc⟩
 | .nils,v,_,h=>by
  simp only [VR] at h
  simp only [AV.lH,VR]
  exact⟨none,0,h,ae4 _,by simp,.inr ⟨trivial,rfl⟩,.inl trivial⟩
 | .fz cs n ex,v,h,hv=>by
  simp only [AV.fK] at h
  simp only [VR,AV.lH] at hv ⊢
  obtain⟨a,cap,rfl,h1,h2,hs,hc⟩:=hv
  refine⟨a,cap,rfl,h1,by simp,hs.imp id fun h=>⟨by rw [h.1]; rfl,h.2⟩,?_⟩
  rcases hc with rfl | ⟨b,o,ha,hr,hex,hc⟩
  ·exact .inl rfl
  ·exact .inr ⟨b,o,ha,ow b hr,by simp,ux hw ow cs b o h hc⟩
 | .rs _ _ _ _,_,h,_=>by simp [AV.fK] at h
 | .pC,_,_,h=>h
 | .mp _,_,h,_=>by simp [AV.fK] at h
 | .fn f cap,v,h,hv=>by
  simp only [AV.fK] at h
  simp only [VR,AV.lH] at hv ⊢
  obtain⟨vs,rfl,h1⟩:=hv
  exact⟨vs,rfl,tk hw ow cap vs.toList h h1⟩
 | .sQ,_,_,h=>h
 | .agg cs,v,h,hv=>by
  simp only [AV.fK] at h
  simp only [VR,AV.lH] at hv ⊢
  obtain⟨vs,rfl,h1⟩:=hv
  exact⟨vs,rfl,tk hw ow cs vs.toList h h1⟩
 | .tup cs,v,h,hv=>by
  simp only [AV.fK] at h
  simp only [VR,AV.lH] at hv ⊢
  obtain⟨vs,rfl,h1⟩:=hv
  exact⟨vs,rfl,tk hw ow cs vs.toList h h1⟩
theorem tk (hw:d.w=c.w)(ow:∀b,RO c L b→RO d L' b):∀(xs:List AV) (vs:List Value),dH xs=true→VRs c L xs vs→VRs d L' (en xs) vs
 | [],[],_,_=>trivial
 | x::xs,v::vs,h,hv=>by
  simp only [dH,ae3] at h
  exact⟨By hw ow x v h.1 hv.1,tk hw ow xs vs h.2 hv.2⟩
 | [],_::_,_,h=>h.elim
 | _::_,[],_,h=>h.elim
theorem ux (hw:d.w=c.w)(ow:∀b,RO c L b→RO d L' b):∀(xs:List AV) (b o:Nat),dH xs=true→Cells c L xs b o→Cells d L' (en xs) b o
 | [],_,_,_,_=>trivial
 | x::xs,b,o,h,hv=>by
  simp only [dH,ae3] at h
  obtain⟨⟨v,h1,h2,h3⟩,h4⟩:=hv
  exact⟨⟨v,by rw [hw]; exact h1,h2,By hw ow x v h.1 h3⟩,ux hw ow xs b (o+1) h.2 h4⟩
end
mutual
theorem uy (hw:d.w=c.w)(ow:∀b,RO c L b→RO d L' b)(hrel:HRel c L)(hid:∀id,Live c.h id→RO d L' (c.β id).1):∀(n:Nat) (x y:AV) (v:Value),cK c.h n x=some y→VR c L x v→VR d L' y v
 | 0,x,y,v,h,_=>by simp [cK] at h
 | n+1,x,y,v,h,hv=>by
  have W8:(if x.fK then some x.lH else none)=some y→VR d L' y v:=by
   intro h
   split at h
   ·rename_i hn; cases h; exact By hw ow x v hn hv
   ·cases h
  cases x with
  | ptr id off=>
   simp only [cK,ae0] at h
   obtain⟨ob,ho,h⟩:=h
   cases ob with
   | map es=>cases h
   | row t cs=>cases h
   | cells cs=>
    simp only [ae1] at h
    obtain⟨gF,hcs,rfl⟩:=h
    have hl:Live c.h id:=⟨hrel.lt _ _ ho,by simp [ho]⟩
    obtain⟨m,_,_,hc⟩:=hrel.obj _ _ ho
    simp only [VR] at hv ⊢
    obtain⟨_,a,rfl,ha⟩:=hv
    rw [ha hl]
    exact⟨_,_,rfl,.inr ⟨hid id hl,mE hw ow hrel hid n cs gF _ _ hcs hc⟩⟩
  | rs id off len kA=>
   simp only [cK] at h
   split at h
   ·rename_i hid
    split at h
    rotate_left
    ·cases h
    rename_i hl0
    cases h
    simp only [VR] at hv ⊢
    rcases hv with⟨_,_,_,a,rfl⟩| hv
    ·exact⟨a,0,rfl,ae4 _,by simp,.inr ⟨trivial,rfl⟩,.inl trivial⟩
    ·exact absurd hid hv.1
   rename_i mT
   rw [ae0] at h
   obtain⟨ob,ho,h⟩:=h
   cases ob with
   | map es=>cases h
   | row t cs=>cases h
   | cells cs=>
    simp only at h
    split at h
    rotate_left
    ·cases h
    rename_i hle
    simp only [ae1] at h
    obtain⟨gF,hcs,rfl⟩:=h
    have hl:Live c.h id:=⟨hrel.lt _ _ ho,by simp [ho]⟩
    obtain⟨m,_,_,hc⟩:=hrel.obj _ _ ho
    simp only [VR] at hv ⊢
    rcases hv with hv | ⟨_,_,a,cap,rfl,h1,h2,h3⟩
    ·exact absurd hv.1 mT
    refine⟨a,cap,rfl,h1,by simp,.inl h2,?_⟩
    rcases h3 hl with⟨h4,_⟩| h4
    ·exact .inr ⟨_,_,h4,hid id hl,by simp,mE hw ow hrel hid n _ gF _ _ hcs ((hc.drop off).take (len*kA))⟩
    ·left
     have hz:len=0:=by omega
     subst hz
     rw [Nat.zero_mul,List.take_zero] at hcs
     cases n with
     | zero=>simp [bK] at hcs
     | succ n=>simp only [bK,ae2] at hcs; exact hcs.symm
  | agg cs=>
   simp only [cK,ae1] at h
   obtain⟨gF,hcs,rfl⟩:=h
   simp only [VR] at hv ⊢
   obtain⟨vs,rfl,h1⟩:=hv
   exact⟨vs,rfl,kE hw ow hrel hid n cs gF vs.toList hcs h1⟩
  | tup cs=>
   simp only [cK,ae1] at h
   obtain⟨gF,hcs,rfl⟩:=h
   simp only [VR] at hv ⊢
   obtain⟨vs,rfl,h1⟩:=hv
   exact⟨vs,rfl,kE hw ow hrel hid n cs gF vs.toList hcs h1⟩
  | fn f cs=>
   simp only [cK,ae1] at h
   obtain⟨gF,hcs,rfl⟩:=h
   simp only [VR] at hv ⊢
   obtain⟨vs,rfl,h1⟩:=hv
   exact⟨vs,rfl,kE hw ow hrel hid n cs gF vs.toList hcs h1⟩
  | _=>exact W8 (by simpa only [cK] using h)
theorem kE (hw:d.w=c.w)(ow:∀b,RO c L b→RO d L' b)(hrel:HRel c L)(hid:∀id,Live c.h id→RO d L' (c.β id).1):∀(n:Nat) (xs ys:List AV) (vs:List Value),bK c.h n xs=some ys→VRs c L xs vs→VRs d L' ys vs
 | 0,xs,ys,vs,h,_=>by simp [bK] at h
 | n+1,[],ys,vs,h,hv=>by
  simp only [bK,ae2] at h
  subst h
  cases vs with
  | nil=>trivial
  | cons v vs=>exact hv.elim
 | n+1,x::xs,ys,vs,h,hv=>by
  simp only [bK,ae0,ae1] at h
  obtain⟨y,hy,zs,hz,rfl⟩:=h
  cases vs with
  | nil=>exact hv.elim
  | cons v vs=>exact⟨uy hw ow hrel hid n x y v hy hv.1,kE hw ow hrel hid n xs zs vs hz hv.2⟩
theorem mE (hw:d.w=c.w)(ow:∀b,RO c L b→RO d L' b)(hrel:HRel c L)(hid:∀id,Live c.h id→RO d L' (c.β id).1):∀(n:Nat) (xs ys:List AV) (b o:Nat),bK c.h n xs=some ys→Cells c L xs b o→Cells d L' ys b o
 | 0,xs,ys,b,o,h,_=>by simp [bK] at h
 | n+1,[],ys,b,o,h,hv=>by
  simp only [bK,ae2] at h
  subst h
  trivial
 | n+1,x::xs,ys,b,o,h,hv=>by
  simp only [bK,ae0,ae1] at h
  obtain⟨y,hy,zs,hz,rfl⟩:=h
  obtain⟨⟨v,h1,h2,h3⟩,h4⟩:=hv
  exact⟨⟨v,by rw [hw]; exact h1,h2,uy hw ow hrel hid n x y v hy h3⟩,mE hw ow hrel hid n xs zs b (o+1) hz h4⟩
end
mutual
theorem sk (hw:d.w=c.w)(hrel:HRel c L)(hid:∀id,Live c.h id→RO d L' (c.β id).1):∀(n:Nat) (x y:AV) (v:Value),iT c.h n x=some y→VR c L x v→VR d L' y v
 | 0,x,y,v,h,_=>by simp [iT] at h
 | n+1,x,y,v,h,hv=>by
  unfold iT at h
  split at h
  ·cases h; exact hv
  ·cases h; exact hv
  ·cases h; exact hv
  ·cases h; exact hv
  ·cases h; exact hv
  ·cases h; exact hv
  ·cases h
   simp only [VR] at hv ⊢
   exact⟨none,0,hv,ae4 _,by simp,.inr ⟨trivial,rfl⟩,.inl trivial⟩
  ·cases h
   simp only [VR] at hv ⊢
   obtain⟨a,cap,rfl,h1,h2,hs,_⟩:=hv
   exact⟨a,cap,rfl,h1,by simp,hs,.inl trivial⟩
  ·rename_i id off len kA
   split at h
   ·rename_i mT
    split at h
    rotate_left
    ·cases h
    rename_i hl0
    cases h
    simp only [VR] at hv ⊢
    rcases hv with⟨_,_,_,a,rfl⟩| hv
    ·exact⟨a,0,rfl,ae4 _,by simp,.inr ⟨trivial,rfl⟩,.inl trivial⟩
    ·exact absurd mT hv.1
   rename_i mT
   rw [ae0] at h
   obtain⟨ob,ho,h⟩:=h
   cases ob with
   | map es=>cases h
   | row t cs=>cases h
   | cells cs=>
    simp only at h
    split at h
    rotate_left
    ·cases h
    rename_i hle
    simp only [ae1] at h
    obtain⟨gF,hcs,rfl⟩:=h
    have hl:Live c.h id:=⟨hrel.lt _ _ ho,by simp [ho]⟩
    obtain⟨m,_,_,hc⟩:=hrel.obj _ _ ho
    simp only [VR] at hv ⊢
    rcases hv with hv | ⟨_,_,a,cap,rfl,h1,h2,h3⟩
    ·exact absurd hv.1 mT
    refine⟨a,cap,rfl,h1,by simp,.inl h2,?_⟩
    rcases h3 hl with⟨h4,_⟩| h4
    ·exact .inr ⟨_,_,h4,hid id hl,by simp,pv hw hrel hid n _ gF _ _ hcs ((hc.drop off).take (len*kA))⟩
    ·left
     have hz:len=0:=by omega
     subst hz
     rw [Nat.zero_mul,List.take_zero] at hcs
     cases n with
     | zero=>simp [eP] at hcs
     | succ n=>simp only [eP,ae2] at hcs; exact hcs.symm
  ·rename_i cs
   simp only [ae1] at h
   obtain⟨gF,hcs,rfl⟩:=h
   simp only [VR] at hv ⊢
   obtain⟨vs,rfl,h1⟩:=hv
   exact⟨vs,rfl,qo hw hrel hid n cs gF vs.toList hcs h1⟩
  ·rename_i cs
   simp only [ae1] at h
   obtain⟨gF,hcs,rfl⟩:=h
   simp only [VR] at hv ⊢
   obtain⟨vs,rfl,h1⟩:=hv
   exact⟨vs,rfl,qo hw hrel hid n cs gF vs.toList hcs h1⟩
  ·cases h
theorem qo (hw:d.w=c.w)(hrel:HRel c L)(hid:∀id,Live c.h id→RO d L' (c.β id).1):∀(n:Nat) (xs ys:List AV) (vs:List Value),eP c.h n xs=some ys→VRs c L xs vs→VRs d L' ys vs
 | 0,xs,ys,vs,h,_=>by simp [eP] at h
 | n+1,[],ys,vs,h,hv=>by
  simp only [eP,ae2] at h
  subst h
  cases vs with
  | nil=>trivial
  | cons v vs=>exact hv.elim
 | n+1,x::xs,ys,vs,h,hv=>by
  simp only [eP,ae0,ae1] at h
  obtain⟨y,hy,zs,hz,rfl⟩:=h
  cases vs with
  | nil=>exact hv.elim
  | cons v vs=>exact⟨sk hw hrel hid n x y v hy hv.1,qo hw hrel hid n xs zs vs hz hv.2⟩
theorem pv (hw:d.w=c.w)(hrel:HRel c L)(hid:∀id,Live c.h id→RO d L' (c.β id).1):∀(n:Nat) (xs ys:List AV) (b o:Nat),eP c.h n xs=some ys→Cells c L xs b o→Cells d L' ys b o
 | 0,xs,ys,b,o,h,_=>by simp [eP] at h
 | n+1,[],ys,b,o,h,hv=>by
  simp only [eP,ae2] at h
  subst h
  trivial
 | n+1,x::xs,ys,b,o,h,hv=>by
  simp only [eP,ae0,ae1] at h
  obtain⟨y,hy,zs,hz,rfl⟩:=h
  obtain⟨⟨v,h1,h2,h3⟩,h4⟩:=hv
  exact⟨⟨v,by rw [hw]; exact h1,h2,sk hw hrel hid n x y v hy h3⟩,pv hw hrel hid n xs zs b (o+1) hz h4⟩
end
end
section
variable {P:Program}
theorem N8 {cf:CallF}(hcf:CallOK P cf)(deep:Nat):CallOK P fun f args h=>if dH args then (cf f (en args) bC).bind fun x=>(cK x.2 deep x.1).map fun r=>(r,h) else cf f args h:=by
 intro f args h r h' hc
 dsimp only at hc
 split at hc
 rotate_left
 ·exact hcf f args h r h' hc
 rename_i w7
 rw [ae0] at hc
 obtain⟨⟨x,h1⟩,hx,hc⟩:=hc
 rw [ae1] at hc
 obtain⟨r',hr,he⟩:=hc
 simp only [ae9] at he
 obtain⟨rfl,rfl⟩:=he
 obtain⟨hin,hcall⟩:=hcf f (en args) bC x h1 hx
 refine⟨hin,fun L0 c vs hh hb0 hrel hargs=>?_⟩
 let L1:Nat→Prop:=fun b=>L0 b∨∃id,Live c.h id∧(c.β id).1=b
 let c0:Cx:=⟨fun _=>(0,0),bC,c.w,c.w.heap.size⟩
 have hnl:∀id,¬Live c0.h id:=fun id hl=>by have:=hl.2; cases this
 have Kx:∀b,RO c L0 b→RO c0 L1 b:=fun b hb=>⟨fun id hl=>absurd hl (hnl id),fun h=>by
  rcases h with h | ⟨id,h1,h2⟩
  ·exact hb.2 h
  ·exact hb.1 id h1 h2⟩
 have xS:HRel c0 L1:=⟨fun id o ho=>(by cases ho),fun id o ho=>(by cases ho),fun id _ hl _ _=>absurd hl (hnl id),fun id hl=>absurd hl (hnl id),fun b hb=>by
  rcases hb with h | ⟨id,h1,h2⟩
  ·exact hrel.bd b h
  ·rw [←h2]; exact hrel.block h1,fun id hl=>absurd hl (hnl id),fun _=>agD⟩
 refine (hcall L1 c0 vs rfl (ae4 _) xS (tk (c:=c) (d:=c0) rfl Kx _ _ w7 hargs)).mono ?_
 rintro e w' ⟨c1,v,rfl,rfl,SX,hv,hrel1,e1⟩
 let d:Cx:=⟨c.β,c.h,c1.w,c.base⟩
 have hk:∀b,b<c.w.heap.size→c1.w.heap[b]? = c.w.heap[b]?:=fun b hb=>e1.exact b hb
 have ed:Ext c none0 d none0:=⟨ae4 _,fun id _ hl=>⟨hl,rfl,jY.len (c:=c) (c':=d) (.inl (hk _ (hrel.block hl)))⟩,e1.size,fun b hb _ _=>.inl (hk b hb),fun b hb=>hk b (afx hb hb0),rfl,fun id hl=>.inr ⟨id,hl,rfl⟩,fun _ h=>h,fun _ h=>.inl h,e1.os,e1.tape,e1.output⟩
 have hb1:d.base≤c1.base:=by rw [e1.base]; exact hb0
 have W9:∀b,RO c1 L1 b→RO d L0 b:=fun b hb=>⟨fun id hl he=>hb.2 (.inr ⟨id,hl,he⟩),fun h=>hb.2 (.inl h)⟩
 refine⟨d,v,rfl,rfl,hh,?_,⟨hrel.lt,fun id o ho=>?_,hrel.inj,hrel.out,fun b hb=>afx (hrel.bd b hb) e1.size,hrel.low,hrel.ver⟩,ed⟩
 ·refine uy (c:=c1) (d:=d) (L:=L1) rfl W9 hrel1 (fun id hl=>⟨fun nu rN he=>hrel1.out id hl (.inr ⟨nu,rN,he⟩),fun h=>hrel1.out id hl (.inl h)⟩) deep x r' v ?_ hv
  rw [SX]; exact hr
 ·have hl:Live c.h id:=⟨hrel.lt _ _ ho,by rw [ho]; rfl⟩
  have:=(hrel.obj id o ho)
  have h2:=sV.ext (L0:=L0) ed (b:=(c.β id).1) (base:=(c.β id).2) (o:=o) (by rw [j6]; exact this) (hk _ (hrel.block hl))
  rw [j6] at h2
  exact h2
theorem tl {c:Cx}{L:Nat→Prop}:∀{xs:List AV} {vs:List Value},VRs c L xs vs→VRs c L (xs.map aP) vs
 | [],[],_=>trivial
 | x::_,_::_,h=>⟨by
   unfold aP
   cases hn:x.fK with
   | false=>exact h.1
   | true=>exact By rfl (fun _ h=>h) x _ hn h.1,tl h.2⟩
 | [],_::_,h=>h.elim
 | _::_,[],h=>h.elim
theorem Dp {cf:CallF}(hcf:CallOK P cf):CallOK P fun f args h=>cf f (args.map aP) h:=by
 intro f args h r h' hc
 obtain⟨h1,h2⟩:=hcf f _ h r h' hc
 exact⟨h1,fun L0 c vs hh hb0 hrel hargs=>h2 L0 c vs hh hb0 hrel (tl hargs)⟩
theorem N9 {cf:CallF}(hcf:CallOK P cf)(deep:Nat):CallOK P fun f args h=>(bK h deep args).bind fun as=>(cf f as bC).bind fun x=>(iT x.2 deep x.1).map fun r=>(r,h):=by
 intro f args h r h' hc
 dsimp only at hc
 simp only [ae0,ae1,ae9] at hc
 obtain⟨as,has,⟨x,h1⟩,hx,r',hr,rfl,rfl⟩:=hc
 obtain⟨hin,hcall⟩:=hcf f as bC x h1 hx
 refine⟨hin,fun L0 c vs hh hb0 hrel hargs=>?_⟩
 let c0:Cx:=⟨fun _=>(0,0),bC,c.w,c.w.heap.size⟩
 have hnl:∀id,¬Live c0.h id:=fun id hl=>by have:=hl.2; cases this
 have Kx:∀b,RO c L0 b→RO c0 L0 b:=fun b hb=>⟨fun id hl=>absurd hl (hnl id),hb.2⟩
 have xS:HRel c0 L0:=⟨fun id o ho=>(by cases ho),fun id o ho=>(by cases ho),fun id _ hl _ _=>absurd hl (hnl id),fun id hl=>absurd hl (hnl id),hrel.bd,fun id hl=>absurd hl (hnl id),fun _=>agD⟩
 have xT:VRs c0 L0 as vs:=kE (c:=c) (d:=c0) rfl Kx hrel (fun id hl=>⟨fun nu rN=>absurd rN (hnl nu),hrel.out id hl⟩) deep args as vs (by rw [hh]; exact has) hargs
 refine (hcall L0 c0 vs rfl (ae4 _) xS xT).mono ?_
 rintro e w' ⟨c1,v,rfl,rfl,SX,hv,hrel1,e1⟩
 let d:Cx:=⟨c.β,c.h,c1.w,c.base⟩
 have hk:∀b,b<c.w.heap.size→c1.w.heap[b]? = c.w.heap[b]?:=fun b hb=>e1.exact b hb
 have ed:Ext c none0 d none0:=⟨ae4 _,fun id _ hl=>⟨hl,rfl,jY.len (c:=c) (c':=d) (.inl (hk _ (hrel.block hl)))⟩,e1.size,fun b hb _ _=>.inl (hk b hb),fun b hb=>hk b (afx hb hb0),rfl,fun id hl=>.inr ⟨id,hl,rfl⟩,fun _ h=>h,fun _ h=>.inl h,e1.os,e1.tape,e1.output⟩
 refine⟨d,v,rfl,rfl,hh,?_,⟨hrel.lt,fun id o ho=>?_,hrel.inj,hrel.out,fun b hb=>afx (hrel.bd b hb) e1.size,hrel.low,hrel.ver⟩,ed⟩
 ·refine sk (c:=c1) (d:=d) (L:=L0) rfl hrel1 (fun id hl=>⟨fun nu rN he=>?_,hrel1.out id hl⟩) deep x r' v ?_ hv
  ·rcases e1.NP id hl with h2 | ⟨ud,h2,_⟩
   ·have:=hrel.block rN
    have h3:(c.β nu).1=(c1.β id).1:=he
    have h4:c.w.heap.size≤(c1.β id).1:=h2
    omega
   ·exact absurd h2 (hnl ud)
  ·rw [SX]; exact hr
 ·have hl:Live c.h id:=⟨hrel.lt _ _ ho,by rw [ho]; rfl⟩
  have:=(hrel.obj id o ho)
  have h2:=sV.ext (L0:=L0) ed (b:=(c.β id).1) (base:=(c.β id).2) (o:=o) (by rw [j6]; exact this) (hk _ (hrel.block hl))
  rw [j6] at h2
  exact h2
section
variable {c1 d:Cx}{L1:Nat→Prop}{k:Nat}
mutual
theorem xU (hw:d.w=c1.w)(hn:∀id,id<c1.h.next→id+k<d.h.next)(hl:∀id,Live d.h (id+k)→Live c1.h id∧d.β (id+k)=c1.β id):∀(x y:AV) (v:Value),eC k x=some y→VR c1 L1 x v→VR d L1 y v
 | .any,_,_,h,_=>by simp [eC] at h
 | .bool _,_,_,h,hv=>by simp only [eC,ae2] at h; subst h; exact hv
 | .int _ _,_,_,h,hv=>by simp only [eC,ae2] at h; subst h; exact hv
 | .str _,_,_,h,hv=>by simp only [eC,ae2] at h; subst h; exact hv
 | .rF,_,_,h,hv=>by simp only [eC,ae2] at h; subst h; exact hv
 | .pC,_,_,h,hv=>by simp only [eC,ae2] at h; subst h; exact hv
 | .sQ,_,_,h,hv=>by simp only [eC,ae2] at h; subst h; exact hv
 | .nils,_,_,h,hv=>by simp only [eC,ae2] at h; subst h; exact hv
 | .ptr id off,_,_,h,hv=>by
  simp only [eC,ae2] at h
  subst h
  simp only [VR] at hv ⊢
  obtain⟨h1,a,rfl,h2⟩:=hv
  refine⟨hn _ h1,a,rfl,fun nf=>?_⟩
  obtain⟨g1,g2⟩:=hl _ nf
  rw [g2]; exact h2 g1
 | .lp _ _,_,_,h,_=>by simp [eC] at h
 | .fp _ _,_,_,h,_=>by simp [eC] at h
 | .fz _ _ _,_,_,h,_=>by simp [eC] at h
 | .rs id off len z,y,v,h,hv=>by
  simp only [eC] at h
  split at h
  ·rename_i h0
   cases h
   subst h0
   simp only [VR] at hv ⊢
   rcases hv with⟨_,h2,h3,h4⟩| h1
   ·exact .inl ⟨trivial,h2,h3,h4⟩
   ·exact absurd rfl h1.1
  ·rename_i h0
   cases h
   simp only [VR] at hv ⊢
   rcases hv with h1 | ⟨_,h1,a,cap,rfl,h2,h3,h4⟩
   ·exact absurd h1.1 h0
   refine .inr ⟨by omega,hn _ h1,a,cap,rfl,h2,h3,fun nf=>?_⟩
   obtain⟨g1,g2⟩:=hl _ nf
   have:=h4 g1
   rw [g2]
   unfold Cx.len at this ⊢
   rw [hw]; exact this
 | .mp _,_,_,h,_=>by simp [eC] at h
 | .fn _ _,_,_,h,_=>by simp [eC] at h
 | .agg cs,_,v,h,hv=>by
  simp only [eC,ae1] at h
  obtain⟨ys,h1,rfl⟩:=h
  simp only [VR] at hv ⊢
  obtain⟨vs,rfl,h2⟩:=hv
  exact⟨vs,rfl,uz hw hn hl cs ys vs.toList h1 h2⟩
 | .tup cs,_,v,h,hv=>by
  simp only [eC,ae1] at h
  obtain⟨ys,h1,rfl⟩:=h
  simp only [VR] at hv ⊢
  obtain⟨vs,rfl,h2⟩:=hv
  exact⟨vs,rfl,uz hw hn hl cs ys vs.toList h1 h2⟩
theorem uz (hw:d.w=c1.w)(hn:∀id,id<c1.h.next→id+k<d.h.next)(hl:∀id,Live d.h (id+k)→Live c1.h id∧d.β (id+k)=c1.β id):∀(xs ys:List AV) (vs:List Value),dA k xs=some ys→VRs c1 L1 xs vs→VRs d L1 ys vs
 | [],ys,[],h,_=>by simp only [dA,ae2] at h; subst h; trivial
 | x::xs,ys,v::vs,h,hv=>by
  simp only [dA,ae0,ae1] at h
  obtain⟨y,h1,ys',h2,rfl⟩:=h
  exact⟨xU hw hn hl x y v h1 hv.1,uz hw hn hl xs ys' vs h2 hv.2⟩
 | [],_,_::_,_,h=>h.elim
 | _::_,_,[],_,h=>h.elim
end
theorem vL (hw:d.w=c1.w)(hn:∀id,id<c1.h.next→id+k<d.h.next)(hl:∀id,Live d.h (id+k)→Live c1.h id∧d.β (id+k)=c1.β id):∀(xs:List AV) (b o:Nat),Cells c1 L1 xs b o→Cells d L1 (iB k xs) b o
 | [],_,_,_=>trivial
 | x::xs,b,o,h=>by
  obtain⟨⟨v,h1,h2,h3⟩,h4⟩:=h
  unfold iB
  cases hx:eC k x with
  | none=>trivial
  | some y=>exact⟨⟨v,by rw [hw]; exact h1,h2,xU hw hn hl x y v hx h3⟩,vL hw hn hl xs b (o+1) h4⟩
end
theorem xV (k:Nat):∀xs:List AV,(iB k xs).length≤xs.length
 | []=>ae4 _
 | x::xs=>by
  unfold iB
  cases eC k x with
  | none=>exact afU _
  | some y=>exact Nat.succ_le_succ (xV k xs)
theorem lN {h h1:AHeap}{i:Nat}(hi:i<h.next):(h.gm h1).get i=h.get i∧(h.gm h1).ver i=h.ver i:=by
 have:Nat.blt i h.next=true:=by rw [Nat.blt_eq]; exact hi
 simp only [AHeap.gm,this,cond_true,and_self]
theorem mF {h h1:AHeap}{i:Nat}(hi:h.next≤i):(h.gm h1).get i=(h1.get (i - h.next)).bind (Fc h.next)∧(h.gm h1).ver i=h.next+h1.ver (i - h.next):=by
 have:Nat.blt i h.next=false:=by
  cases hb:Nat.blt i h.next with
  | false=>rfl
  | true=>rw [Nat.blt_eq] at hb; omega
 simp only [AHeap.gm,this,cond_false,and_self]
theorem Steady.gm {h h1:AHeap}(hw:∀id,h1.ver id<h1.next):Steady h (h.gm h1):=by
 refine⟨Nat.le_add_right _ _,fun i=>?_,fun hv i=>?_⟩
 ·by_cases hi:i<h.next
  ·exact .inl ⟨(lN hi).2,(lN hi).1⟩
  ·right; rw [(mF (afD hi)).2]; exact Nat.le_add_right _ _
 ·show _<h.next+h1.next
  by_cases hi:i<h.next
  ·rw [(lN hi).2]; have:=hv i; omega
  ·rw [(mF (afD hi)).2]; have:=hw (i - h.next); omega
theorem Ky {cf:CallF}(hcf:CallOK P cf)(deep:Nat):CallOK P fun f args h=>(bK h deep args).bind fun us=>(cf f us bC).bind fun x=>(eC h.next x.1).map fun r=>(r,h.gm x.2):=by
 intro f args h r h' hc
 dsimp only at hc
 simp only [ae0,ae1,ae9] at hc
 obtain⟨us,has,⟨x,h1⟩,hx,r',hr,rfl,rfl⟩:=hc
 obtain⟨hin,hcall⟩:=hcf f us bC x h1 hx
 refine⟨hin,fun L0 c vs hh hb0 hrel hargs=>?_⟩
 let c0:Cx:=⟨fun _=>(0,0),bC,c.w,c.w.heap.size⟩
 have hnl:∀id,¬Live c0.h id:=fun id hl=>by have:=hl.2; cases this
 have Kx:∀b,RO c L0 b→RO c0 L0 b:=fun b hb=>⟨fun id hl=>absurd hl (hnl id),hb.2⟩
 have xS:HRel c0 L0:=⟨fun id o ho=>(by cases ho),fun id o ho=>(by cases ho),fun id _ hl _ _=>absurd hl (hnl id),fun id hl=>absurd hl (hnl id),hrel.bd,fun id hl=>absurd hl (hnl id),fun _=>agD⟩
 have xT:VRs c0 L0 us vs:=kE (c:=c) (d:=c0) rfl Kx hrel (fun id hl=>⟨fun nu rN=>absurd rN (hnl nu),hrel.out id hl⟩) deep args us vs (by rw [hh]; exact has) hargs
 refine (hcall L0 c0 vs rfl (ae4 _) xS xT).mono ?_
 rintro e w' ⟨c1,v,rfl,rfl,SX,hv,hrel1,e1⟩
 let d:Cx:=⟨fun i=>if i<c.h.next then c.β i else c1.β (i - c.h.next),c.h.gm c1.h,c1.w,c.base⟩
 have hk:∀b,b<c.w.heap.size→c1.w.heap[b]? = c.w.heap[b]?:=fun b hb=>e1.exact b hb
 have vw:∀i,i<c.h.next→Live d.h i→Live c.h i:=fun i hi hl=>⟨hi,by have:=hl.2; rw [show d.h.get i=_ from (lN hi).1] at this; exact this⟩
 have PI:∀i,c.h.next≤i→Live d.h i→Live c1.h (i - c.h.next):=fun i hi hl=>by
  have h2:=hl.2
  rw [show d.h.get i=_ from (mF hi).1] at h2
  cases hg:c1.h.get (i - c.h.next) with
  | none=>rw [hg] at h2; cases h2
  | some o=>exact⟨hrel1.lt _ _ hg,by rw [hg]; rfl⟩
 have Oa:∀i,i<c.h.next→d.β i=c.β i:=fun i hi=>if_pos hi
 have Kz:∀i,c.h.next≤i→d.β i=c1.β (i - c.h.next):=fun i hi=>if_neg (by omega)
 have Ob:∀i,Live c1.h i→c.w.heap.size≤(c1.β i).1:=fun i hl=>by
  rcases e1.NP i hl with h2 | ⟨ud,h2,_⟩
  ·exact h2
  ·exact absurd h2 (hnl ud)
 have ed:Ext c none0 d none0:=⟨Nat.le_add_right _ _,fun id hi hl=>⟨vw id hi hl,Oa id hi,jY.len (c:=c) (c':=d) (.inl (hk _ (hrel.block (vw id hi hl))))⟩,e1.size,fun b hb _ _=>.inl (hk b hb),fun b hb=>hk b (afx hb hb0),rfl,fun id hl=>by
  by_cases hi:id<c.h.next
  ·exact .inr ⟨id,vw id hi hl,by rw [Oa id hi]⟩
  ·rw [Kz id (afD hi)]
   exact .inl (Ob _ (PI id (afD hi) hl)),fun _ h=>h,fun _ h=>.inl h,e1.os,e1.tape,e1.output⟩
 have gn:∀id,id<c1.h.next→id+c.h.next<d.h.next:=fun id hi=>by show _<c.h.next+c1.h.next; omega
 have gl:∀id,Live d.h (id+c.h.next)→Live c1.h id∧d.β (id+c.h.next)=c1.β id:=fun id hl=>by
  have a:=PI (id+c.h.next) (Nat.le_add_left _ _) hl
  have b:=Kz (id+c.h.next) (Nat.le_add_left _ _)
  rw [Nat.add_sub_cancel] at a b
  exact⟨a,b⟩
 refine⟨d,v,rfl,rfl,?_,?_,⟨fun id o ho=>?_,fun id o ho=>?_,fun id nu hl rN he=>?_,fun id hl=>?_,fun b hb=>afx (hrel.bd b hb) e1.size,fun id hl=>?_,fun id=>?_⟩,ed⟩
 ·show c.h.gm c1.h=h.gm h1
  rw [hh,SX]
 ·refine xU (c1:=c1) (d:=d) (k:=c.h.next) rfl gn gl x r' v ?_ hv
  rw [hh]; exact hr
 ·show id<c.h.next+c1.h.next
  by_cases hi:id<c.h.next
  ·omega
  ·rw [show d.h.get id=_ from (mF (afD hi)).1,ae0] at ho
   obtain⟨o1,PA,_⟩:=ho
   have:=hrel1.lt _ _ PA
   omega
 ·by_cases hi:id<c.h.next
  ·rw [show d.h.get id=_ from (lN hi).1] at ho
   have hl:Live c.h id:=⟨hi,by rw [ho]; rfl⟩
   have:=(hrel.obj id o ho)
   have h2:=sV.ext (L0:=L0) ed (b:=(c.β id).1) (base:=(c.β id).2) (o:=o) (by rw [j6]; exact this) (hk _ (hrel.block hl))
   rw [j6] at h2
   rw [Oa id hi]
   exact h2
  ·rw [show d.h.get id=_ from (mF (afD hi)).1,ae0] at ho
   obtain⟨o1,PA,ho⟩:=ho
   rw [Kz id (afD hi)]
   cases o1 with
   | map es=>cases ho
   | row t cs=>cases ho
   | cells cs=>
    simp only [Fc,ae2] at ho
    subst ho
    obtain⟨n,g1,g2,g3⟩:=hrel1.obj _ _ PA
    exact⟨n,g1,afV (Nat.add_le_add_left (xV _ _) _) g2,vL (c1:=c1) (d:=d) rfl gn gl cs _ _ g3⟩
 ·by_cases hi:id<c.h.next<;>by_cases mw:nu<c.h.next
  ·rw [Oa id hi,Oa nu mw] at he
   exact hrel.inj id nu (vw id hi hl) (vw nu mw rN) he
  ·rw [Oa id hi,Kz nu (afD mw)] at he
   have a:=hrel.block (vw id hi hl)
   have b:=Ob _ (PI nu (afD mw) rN)
   omega
  ·rw [Kz id (afD hi),Oa nu mw] at he
   have a:=hrel.block (vw nu mw rN)
   have b:=Ob _ (PI id (afD hi) hl)
   omega
  ·rw [Kz id (afD hi),Kz nu (afD mw)] at he
   have:=hrel1.inj _ _ (PI id (afD hi) hl) (PI nu (afD mw) rN) he
   omega
 ·by_cases hi:id<c.h.next
  ·rw [Oa id hi]; exact hrel.out id (vw id hi hl)
  ·rw [Kz id (afD hi)]; exact hrel1.out _ (PI id (afD hi) hl)
 ·show c.base≤_
  by_cases hi:id<c.h.next
  ·rw [Oa id hi]; exact hrel.low id (vw id hi hl)
  ·rw [Kz id (afD hi)]; exact afV hb0 (Ob _ (PI id (afD hi) hl))
 ·show _<c.h.next+c1.h.next
  by_cases hi:id<c.h.next
  ·rw [show d.h.ver id=_ from (lN hi).2]; have:=hrel.ver id; omega
  ·rw [show d.h.ver id=_ from (mF (afD hi)).2]; have:=hrel1.ver (id - c.h.next); omega
theorem oJ {T:rM}(vM:IntrOK P T.intr)(m:Nat):∀k,SteadyF (gK P T m k)
 | 0=>fun f args h r h' hc=>by simp [gK] at hc
 | k+1=>fun f args h r h' hc=>by
  have hb:=Bo (P:=P) (aX:=T.aX) (m:=m) (oJ vM m k)
  simp only [gK] at hc
  split at hc
  ·rename_i g hg
   exact (vM f g hg).2 _ _ _ _ hc
  ·split at hc
   ·split at hc
    ·simp only [ae0] at hc
     obtain⟨us,_,x,hx,hc⟩:=hc
     obtain⟨r',_,h2⟩:=Option.map_some' hc
     cases h2
     exact Steady.gm ((hb _ _ _ _ _ hx).wf fun _=>agD)
    split at hc
    ·rw [ae0] at hc
     obtain⟨x,_,hc⟩:=hc
     obtain⟨r',_,h2⟩:=Option.map_some' hc
     cases h2
     exact Steady.refl _
    ·split at hc
     ·rw [ae0] at hc
      obtain⟨x,_,hc⟩:=hc
      obtain⟨r',_,h2⟩:=Option.map_some' hc
      cases h2
      exact Steady.refl _
     ·exact hb _ _ _ _ _ hc
   ·exact hb _ _ _ _ _ hc
theorem tm (hP:Fit P){T:rM}(vM:IntrOK P T.intr)(m:Nat):∀k,CallOK P (gK P T m k)
 | 0=>fun f args h r h' hc=>by simp [gK] at hc
 | k+1=>fun f args h r h' hc=>by
  have ih:=tm hP vM m k
  have hb:=Di hP (aX:=T.aX) ih (Dm hP.mixed ih (oJ vM m k)) m
  simp only [gK] at hc
  split at hc
  ·rename_i g hg
   exact (vM f g hg).1 f args h r h' (by simpa using hc)
  ·split at hc
   ·rename_i deep _
    split at hc
    ·exact Ky hb deep f args h r h' hc
    by_cases w7:dH args=true
    ·exact N8 hb deep f args h r h' (by dsimp only; rw [if_pos w7] at hc ⊢; exact hc)
    ·rw [if_neg w7] at hc
     split at hc
     ·rename_i as has
      refine N9 hb deep f args h r h' ?_
      dsimp only
      rw [has]
      exact hc
     ·exact Dp hb f args h r h' hc
   ·exact Dp hb f args h r h' hc
def Ua (P : Program) : Bool := P.funcs.toList.all fun fn => fn.name != "runtime.NumGoroutine" && match fn.body with | some c => ni fn.ntmps c | none => true
theorem QL (h1:P.follows .mixedOrders=true)(h2:Ua P=true):Fit P:=by
 refine⟨h1,fun f fn c hf hb=>?_⟩
 unfold Ua at h2
 rw [afr] at h2
 have:=h2 fn (af3.2 (Array.mem_of_getElem? hf))
 rw [hb] at this
 simp only [ae3,bne_iff_ne,ne_eq] at this
 exact⟨this.2,this.1⟩
theorem rr:IntrOK P fun _=>none:=fun f g h=>by cases h
end
end Go.R
