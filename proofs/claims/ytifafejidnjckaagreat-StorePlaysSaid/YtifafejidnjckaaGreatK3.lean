/- Part of the proof: RLocal, RSteady, RDraw, RPure. -/
import Derived.Test.YtifafejidnjckaaGreatK2
import Derived.StillTail
set_option linter.unusedVariables false
set_option linter.unusedSimpArgs false
set_option maxRecDepth 100000
open Array renaming getElem?_eq_some_iff → ajt, mem_toList_iff → ajO
open Bool renaming and_eq_true → aiM, false_eq_true → aiW, not_true → ajA, or_eq_true → ajE, not_eq_true' → ajX
open List renaming mem_append → ai3, getElem?_append_left → ai6, getElem?_eq_none → ai8, mem_map → ajc, all_eq_true → ajd, getElem?_cons_zero → ajx, range → ajP, map_congr_left → aj0, mem_filter → aj1, mem_range → aj6
open Nat renaming le_refl → aiQ, zero_add → ajf, lt_of_lt_of_le → ajk, zero_le → ajm, le_of_not_lt → ajq, le_trans → ajF, add_assoc → ajT, eq_of_beq_eq_true → aj2, min_eq_left → ako, zero_lt_one → akp, add_comm → akt
open Option renaming bind_some → aiI, bind_eq_some_iff → aiJ, map_eq_some_iff → aiK, map_some → aiR, getD_some → ajR
open Option.some renaming injEq → aiL, inj → ajn
open Prod.mk renaming injEq → aiV
namespace Go.R
open Go
def RS.shift (s2:RS)(f:oT)(d:Option Nat)(s':RS):RS:=
 {ρ:=match d with | none=>s2.ρ | some d=>fun t=>if t=d then s'.ρ d else s2.ρ t
  bx:=match f.wb with | none=>s2.bx | some k=>fun t=>if t=k then s'.bx k else s2.bx t
  h:=if f.wh then s'.h else s2.h}
theorem RS.ext' {s t:RS}(h1:∀i,s.ρ i=t.ρ i)(h2:∀i,s.bx i=t.bx i)(h3:s.h=t.h):s=t:=by
 cases s; cases t
 congr
 ·exact funext h1
 ·exact funext h2
theorem lA (s s2:RS)(f:oT)(d:Option Nat)(z:AV)(hw:f.wb=none)(hh:f.wh=false):s2.set d z=s2.shift f d (s.set d z):=by
 refine RS.ext' (fun i=>?_) (fun i=>?_) ?_
 ·cases d with
  | none=>rfl
  | some d=>simp only [BF,RS.shift,if_true]
 ·simp only [RS.shift,hw]; cases d<;>rfl
 ·simp only [RS.shift,hh]; cases d<;>rfl
theorem mE (s:RS)(d:Option Nat)(z:AV):(s.set d z).h=s.h:=by cases d<;>rfl
theorem TU (s:RS)(d:Option Nat)(z:AV):(s.set d z).bx=s.bx:=by cases d<;>rfl
theorem M8 (s:RS)(k i:Nat)(cs:List AV):(s.box k cs).bx i=if i=k then some cs else s.bx i:=by
 simp only [RS.box,beq_nat]
 by_cases h:i=k<;>simp [h]
theorem ko (s s2:RS)(f:oT)(d:Option Nat)(z:AV)(h':AHeap)(hw:f.wb=none)(hh:f.wh=true):({s2 with h:=h'}:RS).set d z=s2.shift f d (({s with h:=h'}:RS).set d z):=by
 refine RS.ext' (fun i=>?_) (fun i=>?_) ?_
 ·cases d with
  | none=>rfl
  | some d=>simp only [BF,RS.shift,if_true]
 ·simp only [RS.shift,hw]; cases d<;>rfl
 ·simp only [RS.shift,hh]; cases d<;>rfl
theorem Lm (s s2:RS)(f:oT)(k:Nat)(cs:List AV)(hw:f.wb=some k)(hh:f.wh=false):s2.box k cs=s2.shift f none (s.box k cs):=by
 refine RS.ext' (fun i=>rfl) (fun i=>?_) ?_
 ·simp only [M8,RS.shift,hw,if_true]
 ·simp only [RS.shift,hh]; rfl
section
variable {P:Program}{cf:CallF}{bb ds:List Nat}{o:Oper}{s s' s2:RS}
theorem uL {cs:List AV}{f:oT}(h:lh s bb ds o cs=some s')(hf:f=(match o.dst with
  | some d=>if bb.contains d then {wb:=some d,al:=true} else {wh:=true}
  | none=>{})) (hh:f.wh=true→s2.h=s.h) (tS:f.al=true→∀d,o.dst=some d→zb d s2.ρ (ds.filter fun t=>!Nat.beq t d)=true) :
  lh s2 bb ds o cs=some (s2.shift f o.dst s'):=by
 unfold lh at h ⊢
 split at h
 rotate_left
 ·cases h
 rename_i uw
 rw [if_pos uw]
 cases hd:o.dst with
 | none=>rw [hd] at h; cases h
 | some d=>
  rw [hd] at h hf
  simp only at h hf ⊢
  by_cases hl:bb.contains d=true
  ·rw [if_pos hl] at h hf ⊢
   subst hf
   split at h
   rotate_left
   ·cases h
   cases h
   rw [if_pos (tS rfl d hd)]
   congr 1
   refine RS.ext' (fun i=>?_) (fun i=>?_) ?_
   ·simp only [BF,RS.shift,if_true]; rfl
   ·simp only [TU,M8,RS.shift,if_true]
   ·simp only [mE,RS.shift]; rfl
  ·rw [if_neg hl] at h hf ⊢
   subst hf
   cases h
   rw [hh rfl]
   congr 1
   exact ko s s2 {wh:=true} (some d) _ _ rfl rfl
theorem BQ {e:Operand→AV}(h:G8 P cf bb ds e s o=some s')(hb:∀k∈(bX bb e o).rb,s2.bx k=s.bx k)(hr:∀id∈(bX bb e o).rh,s2.h.get id=s.h.get id)
  (hh:(bX bb e o).wh=true→s2.h=s.h) (tS:(bX bb e o).al=true→∀d,o.dst=some d→zb d s2.ρ (ds.filter fun t=>!Nat.beq t d)=true) :
  G8 P cf bb ds e s2 o=some (s2.shift (bX bb e o) o.dst s'):=by
 have gF:∀{x x2:Option AV} (f:oT),(x.map fun x=>s.set o.dst x)=some s'→(x2=x)→f.wb=none→f.wh=false→(x2.map fun x=>s2.set o.dst x)=some (s2.shift f o.dst s'):=by
  intro x x2 f hx h2 h3 h4
  obtain⟨z,rfl,rfl⟩:=Option.map_some' hx
  subst h2
  simp only [aiR]
  rw [←lA s s2 f o.dst z h3 h4]
 have EY:∀{α:Type} {x x2:Option α} (f:oT) (g:α→AV) (k:α→AHeap),(x.map fun y=>({s with h:=k y}:RS).set o.dst (g y))=some s'→(x2=x)→f.wb=none→f.wh=true→
   (x2.map fun y=>({s2 with h:=k y}:RS).set o.dst (g y))=some (s2.shift f o.dst s'):=by
  intro α x x2 f g k hx h2 h3 h4
  obtain⟨z,rfl,rfl⟩:=Option.map_some' hx
  subst h2
  simp only [aiR]
  rw [←ko s s2 f o.dst (g z) (k z) h3 h4]
 unfold G8 at h ⊢
 dsimp only at h ⊢
 split at h
 ·rename_i x ho; cases h; simp only [aiL]; exact lA s s2 _ _ _ (by simp [bX,ho]) (by simp [bX,ho])
 ·rename_i x ho; cases h; simp only [aiL]; exact lA s s2 _ _ _ (by simp [bX,ho]) (by simp [bX,ho])
 ·rename_i k x y ho
  obtain⟨t,ht,rfl⟩:=Option.map_some' h
  simp only [ht,aiR,aiL]
  exact lA s s2 _ _ _ (by simp [bX,ho]) (by simp [bX,ho])
 ·rename_i t ho
  rw [aiJ] at h
  obtain⟨z,hz,h⟩:=h
  simp only [hz,aiI]
  exact uL h (by simp only [bX,ho]; rfl) hh tS
 ·rename_i t x ho
  exact uL h (by simp only [bX,ho]; rfl) hh tS
 ·rename_i t ps ho; exact gF _ h rfl (by simp [bX,ho]) (by simp [bX,ho])
 ·rename_i t k ps ho
  obtain⟨z,hz,rfl⟩:=Option.map_some' h
  simp only [hz,aiR,aiL]
  have hf:bX bb e o=(match o.dst with | some d=>if bb.contains d then {wh:=true} else {} | none=>{}):=by simp only [bX,ho]; rfl
  unfold wa
  cases TL:tM P bb o t z with
  | none=>
   simp only
   cases hd:o.dst with
   | none=>rw [hd] at hf; rw [hf]; exact lA s s2 _ none _ rfl rfl
   | some d=>
    rw [hd] at hf
    simp only at hf
    by_cases hl:bb.contains d=true
    ·rw [if_pos hl] at hf
     have h2:=hh (by rw [hf])
     rw [hf]
     have h3:=ko s s2 {wh:=true} (some d) z s2.h rfl rfl
     refine h3.trans ?_
     rw [h2]
    ·rw [if_neg hl] at hf
     rw [hf]; exact lA s s2 _ _ _ rfl rfl
  | some q=>
   obtain⟨d,hd,hl⟩:∃d,o.dst=some d∧bb.contains d=true:=by
    unfold tM at TL
    split at TL
    ·rename_i d _ _ _ hd
     refine⟨d,hd,?_⟩
     cases hc:bb.contains d with
     | false=>rw [hc] at TL; cases TL
     | true=>rfl
    ·cases TL
   rw [hd] at hf
   simp only [hl,if_true] at hf
   rw [hf] at hh ⊢
   simp only [hh rfl]
   exact ko s s2 _ _ _ _ rfl rfl
 ·
  rename_i t x ho
  have hf:bX bb e o=(match e x with | .lp k _=>{rb:=[k]} | .ptr id _=>{rh:=[id]} | _=>{}):=by simp only [bX,ho]; rfl
  refine gF _ h ?_ ?_ ?_
  ·rw [hf] at hb hr
   unfold nr
   cases hx:e x<;>rw [hx] at hb hr<;>try rfl
   ·simp only; rw [hr _ (by simp)]
   ·simp only; rw [hb _ (by simp)]
  ·rw [hf]; cases e x<;>rfl
  ·rw [hf]; cases e x<;>rfl
 ·
  rename_i t x y ho
  have hf:bX bb e o=(match e x with | .lp k _=>{rb:=[k],wb:=some k} | _=>{wh:=true}):=by simp only [bX,ho]; rfl
  try simp only at h ⊢
  split at h
  ·cases h
  rename_i hd
  rw [if_neg hd]
  have Qe:o.dst=none:=by simpa using hd
  cases hx:e x<;>rw [hx] at h hf<;>simp only at h hf ⊢<;>try (cases h; done)
  ·rename_i id off
   rw [hf] at hh ⊢
   rw [aiJ] at h
   obtain⟨ob,hob,h⟩:=h
   rw [hh rfl,hob]
   cases ob with
   | map es=>cases h
   | row t cs=>cases h
   | cells cs=>
    obtain⟨iO,hcs,rfl⟩:=Option.map_some' h
    simp only [aiI,hcs,aiR,Qe,aiL]
    exact ko s s2 {wh:=true} none .any _ rfl rfl
  ·rename_i k off
   rw [hf] at hb ⊢
   rw [aiJ] at h
   obtain⟨cs,hcs,h⟩:=h
   rw [hb k (by simp),hcs]
   obtain⟨iO,ZX,rfl⟩:=Option.map_some' h
   simp only [aiI,ZX,aiR,Qe,aiL]
   exact Lm s s2 _ k iO rfl rfl
 ·rename_i ho; exact gF _ h rfl (by simp [bX,ho]) (by simp [bX,ho])
 ·rename_i ho; exact gF _ h rfl (by simp [bX,ho]) (by simp [bX,ho])
 ·rename_i ho; exact gF _ h rfl (by simp [bX,ho]) (by simp [bX,ho])
 ·
  rename_i a b x ho
  have hf:bX bb e o=(match e x with | .rs id _ _ _=>{rh:=[id]} | _=>{}):=by simp only [bX,ho]; rfl
  refine gF _ h ?_ ?_ ?_
  ·have hc:fW s2.h 1 (e x)=fW s.h 1 (e x):=by
    rw [hf] at hr
    unfold fW
    cases hx:e x<;>rw [hx] at hr<;>try rfl
    simp only; rw [hr _ (by simp)]
   unfold rG
   rw [hc]
  ·rw [hf]; cases e x<;>rfl
  ·rw [hf]; cases e x<;>rfl
 ·rename_i Ho first cap ho
  try simp only
  split at h
  ·rename_i hc
   rw [if_pos hc]
   exact gF _ h rfl (by simp [bX,ho]) (by simp [bX,ho])
  ·cases h
 ·rename_i ho
  have hf:(bX bb e o).wh=true:=by simp [bX,ho]
  cases h
  simp only [hh hf,aiL]
  exact ko s s2 _ _ _ _ (by simp [bX,ho]) hf
 ·rename_i t l c ho
  have hf:(bX bb e o).wh=true:=by simp [bX,ho]
  exact EY _ (fun y:AV × AHeap=>y.1) (fun y=>y.2) h (by simp only [hh hf]) (by simp [bX,ho]) hf
 ·rename_i ho; exact gF _ h rfl (by simp [bX,ho]) (by simp [bX,ho])
 ·rename_i ho; exact gF _ h rfl (by simp [bX,ho]) (by simp [bX,ho])
 ·rename_i ho; exact gF _ h rfl (by simp [bX,ho]) (by simp [bX,ho])
 ·rename_i ho; exact gF _ h rfl (by simp [bX,ho]) (by simp [bX,ho])
 ·rename_i ho; exact gF _ h rfl (by simp [bX,ho]) (by simp [bX,ho])
 ·
  rename_i t m k ok ho
  have hf:bX bb e o=(match e m with | .mp id=>{rh:=[id]} | _=>{}):=by simp only [bX,ho]; rfl
  refine gF _ h ?_ ?_ ?_
  ·rw [hf] at hr
   unfold hZ
   cases hx:e m<;>rw [hx] at hr<;>try rfl
   simp only; rw [hr _ (by simp)]
  ·rw [hf]; cases e m<;>rfl
  ·rw [hf]; cases e m<;>rfl
 ·rename_i t m k x ho
  have hf:(bX bb e o).wh=true:=by simp [bX,ho]
  try simp only at h ⊢
  split at h
  ·cases h
  rename_i hd
  rw [if_neg hd]
  have Qe:o.dst=none:=by simpa using hd
  obtain⟨h',hm,rfl⟩:=Option.map_some' h
  simp only [hh hf,hm,aiR,Qe,aiL]
  exact ko s s2 _ none .any _ (by simp [bX,ho]) hf
 ·rename_i t m k x ho
  have hf:(bX bb e o).wh=true:=by simp [bX,ho]
  try simp only at h ⊢
  split at h
  ·cases h
  rename_i hd
  rw [if_neg hd]
  have Qe:o.dst=none:=by simpa using hd
  obtain⟨h',hm,rfl⟩:=Option.map_some' h
  simp only [hh hf,hm,aiR,Qe,aiL]
  exact ko s s2 _ none .any _ (by simp [bX,ho]) hf
 ·rename_i ho; exact gF _ h rfl (by simp [bX,ho]) (by simp [bX,ho])
 ·
  rename_i b args IW ho
  try simp only
  unfold jI at h ⊢
  generalize hargs:args.toList.map e=as at h ⊢
  generalize IW.toList=ts at h ⊢
  split at h
  ·rename_i t x
   try simp only
   have hf:bX bb e o=(match x with | .mp id=>{rh:=[id]} | _=>{}):=by
    simp only [bX,ho,hargs]
    cases x<;>rfl
   refine gF _ h ?_ ?_ ?_
   ·rw [hf] at hr
    unfold za
    cases x<;>try rfl
    simp only; rw [hr _ (by simp)]
   ·rw [hf]; cases x<;>rfl
   ·rw [hf]; cases x<;>rfl
  ·try simp only
   have hf:(bX bb e o).wh=true∧(bX bb e o).wb=none:=by simp only [bX,ho,hargs]; simp
   exact EY _ (fun y:AV × AHeap=>y.1) (fun y=>y.2) h (by simp only [hh hf.1]) hf.2 hf.1
  ·try simp only
   have hf:(bX bb e o).wh=true∧(bX bb e o).wb=none:=by simp only [bX,ho,hargs]; simp
   exact EY _ (fun y:AV × AHeap=>y.1) (fun y=>y.2) h (by simp only [hh hf.1]) hf.2 hf.1
  ·try simp only
   have hf:(bX bb e o).wh=true∧(bX bb e o).wb=none:=by simp only [bX,ho,hargs]; simp
   exact EY _ (fun _:AHeap=>.tup []) (fun y=>y) h (by simp only [hh hf.1]) hf.2 hf.1
  ·try simp only
   rw [aiJ] at h
   obtain⟨v,hv,h⟩:=h
   rw [aiJ] at h
   obtain⟨vs,Mr,h⟩:=h
   rw [aiJ] at h
   obtain⟨u,hu,h⟩:=h
   simp only [hv,Mr,hu,aiI]
   exact gF _ h rfl (by simp [bX,ho]) (by simp [bX,ho])
  ·try simp only
   rw [aiJ] at h
   obtain⟨v,hv,h⟩:=h
   rw [aiJ] at h
   obtain⟨vs,Mr,h⟩:=h
   rw [aiJ] at h
   obtain⟨u,hu,h⟩:=h
   simp only [hv,Mr,hu,aiI]
   exact gF _ h rfl (by simp [bX,ho]) (by simp [bX,ho])
  ·cases h
 ·
  rename_i fx args IW ho
  have hf:(bX bb e o).wh=true∧(bX bb e o).wb=none:=by simp [bX,ho]
  try simp only
  cases hx:e fx<;>rw [hx] at h<;>simp only at h ⊢<;>try (cases h; done)
  rename_i Ho cap
  split at h
  ·rename_i ha
   rw [if_pos ha]
   exact EY _ (fun y:AV × AHeap=>y.1) (fun y=>y.2) h (by simp only [hh hf.1]) hf.2 hf.1
  ·cases h
 ·cases h
end
end Go.R
namespace Go.R
open Go
def SteadyF (cf:CallF):Prop:=∀f args h r h',cf f args h=some (r,h')→Steady h h'
section
variable {P:Program}{cf:CallF}{bb ds:List Nat}{o:Oper}{s s':RS}
theorem zw {h h':AHeap}{t t2:TypeId}{x y z:AV}(hh:eC P h t t2 x y=some (z,h')):Steady h h':=by
 unfold eC at hh
 rw [aiJ] at hh
 obtain⟨d,_,hh⟩:=hh
 cases d<;>simp only at hh<;>try (cases hh; done)
 rw [aiJ] at hh
 obtain⟨i,_,hh⟩:=hh
 rw [aiJ] at hh
 obtain⟨⟨new,m⟩,_,hh⟩:=hh
 simp only at hh
 split at hh
 ·cases hh
 split at hh
 ·split at hh
  ·cases hh
  ·split at hh<;>cases hh
   ·exact Steady.refl _
   ·exact Steady.put _ _ _
 ·split at hh
  ·cases hh
  ·split at hh
   ·split at hh<;>cases hh<;>exact Steady.refl _
   ·cases hh; exact Steady.put _ _ _
 ·split at hh
  ·split at hh
   ·cases hh
   ·split at hh<;>cases hh
    ·exact Steady.refl _
    ·exact Steady.put _ _ _
  rw [aiJ] at hh
  obtain⟨ob,_,hh⟩:=hh
  cases ob with
  | map es=>cases hh
  | row t cs=>cases hh
  | cells cs=>
   simp only at hh
   split at hh
   ·cases hh
   ·split at hh<;>cases hh
    ·exact Steady.refl _
    ·exact (Steady.kill _ _).trans (Steady.put _ _ _)
 ·cases hh
theorem C2 {h h':AHeap}{t t2:TypeId}{x y z:AV}(hh:xp P h t t2 x y=some (z,h')):Steady h h':=by
 unfold xp at hh
 rw [aiJ] at hh
 obtain⟨d,_,hh⟩:=hh
 cases d<;>simp only at hh<;>try (cases hh; done)
 rw [aiJ] at hh
 obtain⟨i,_,hh⟩:=hh
 rw [aiJ] at hh
 obtain⟨⟨new,m⟩,_,hh⟩:=hh
 simp only at hh
 split at hh
 ·cases hh
 split at hh
 ·split at hh
  ·split at hh<;>cases hh
   exact Steady.refl _
  rw [aiJ] at hh
  obtain⟨ob,_,hh⟩:=hh
  cases ob with
  | map es=>cases hh
  | row t cs=>cases hh
  | cells cs=>
   simp only at hh
   split at hh<;>cases hh
   exact Steady.put _ _ _
 ·split at hh<;>cases hh
  exact Steady.refl _
 ·cases hh
theorem Bm {h h':AHeap}{t:TypeId}{x:AV}(hh:pH P h t x=some h'):Steady h h':=by
 unfold pH at hh
 rw [aiJ] at hh
 obtain⟨d,_,hh⟩:=hh
 cases x<;>simp only at hh<;>try (cases hh; done)
 ·split at hh
  ·cases hh; exact Steady.refl _
  split at hh
  ·cases hh
  cases d<;>simp only at hh<;>try (cases hh; done)
  simp only [aiJ] at hh
  obtain⟨i,_,z,_,ob,_,hh⟩:=hh
  cases ob with
  | map es=>cases hh
  | row t cs=>cases hh
  | cells cs=>
   simp only at hh
   split at hh
   ·cases hh; exact Steady.put _ _ _
   ·cases hh
 ·cases hh; exact Steady.refl _
 ·rw [aiJ] at hh
  obtain⟨ob,_,hh⟩:=hh
  cases ob with
  | cells cs=>cases hh
  | row t cs=>cases hh
  | map es=>cases hh; exact Steady.put _ _ _
theorem EZ {bb:List Nat}{d:Option Nat}{x y:AV × AHeap}(hz:CK bb d x=some y):Steady x.2 y.2:=by
 unfold CK at hz
 cases hm:Wr bb d with
 | true=>rw [hm,cond_true] at hz; exact rO hz
 | false=>rw [hm,cond_false] at hz; cases hz; exact Steady.refl _
theorem rS {h h':AHeap}{t:TypeId}{x y z:AV}(hh:kC P h t x y z=some h'):Steady h h':=by
 unfold kC at hh
 rw [aiJ] at hh
 obtain⟨d,_,hh⟩:=hh
 cases d<;>simp only at hh<;>try (cases hh; done)
 split at hh
 ·cases hh
 cases x<;>simp only at hh<;>try (cases hh; done)
 rw [aiJ] at hh
 obtain⟨ob,_,hh⟩:=hh
 cases ob with
 | cells cs=>cases hh
 | row t cs=>cases hh
 | map es=>
  obtain⟨xo,_,rfl⟩:=Option.map_some' hh
  exact Steady.put _ _ _
theorem uM {h h':AHeap}{t:TypeId}{x y z:AV}(hh:kn P h t x y=some (z,h')):Steady h h':=by
 unfold kn at hh
 split at hh
 ·rw [aiJ] at hh
  obtain⟨d,_,hh⟩:=hh
  cases d<;>simp only at hh<;>try (cases hh; done)
  rw [aiJ] at hh
  obtain⟨i,_,hh⟩:=hh
  rw [aiJ] at hh
  obtain⟨z,_,hh⟩:=hh
  split at hh<;>cases hh
  exact Steady.put _ _ _
 ·cases hh
theorem tv {cs:List AV}(h:lh s bb ds o cs=some s'):Steady s.h s'.h:=by
 unfold lh at h
 split at h
 rotate_left
 ·cases h
 split at h
 ·split at h
  ·split at h<;>cases h
   rw [mE]; exact Steady.refl _
  ·cases h
   rw [mE]; exact Steady.put _ _ _
 ·cases h
theorem zx (hcf:SteadyF cf){e:Operand→AV}(h:G8 P cf bb ds e s o=some s'):Steady s.h s'.h:=by
 have gF:∀{x:Option AV},(x.map fun x=>s.set o.dst x)=some s'→Steady s.h s'.h:=by
  intro x hx
  obtain⟨z,rfl,rfl⟩:=Option.map_some' hx
  rw [mE]; exact Steady.refl _
 unfold G8 at h
 dsimp only at h
 split at h
 ·cases h; rw [mE]; exact Steady.refl _
 ·cases h; rw [mE]; exact Steady.refl _
 ·obtain⟨z,_,rfl⟩:=Option.map_some' h; rw [mE]; exact Steady.refl _
 ·rw [aiJ] at h
  obtain⟨z,_,h⟩:=h
  exact tv h
 ·exact tv h
 ·exact gF h
 ·obtain⟨z,hz,rfl⟩:=Option.map_some' h
  unfold wa
  split
  ·rw [mE]; exact Steady.refl _
  ·rw [mE]; exact Steady.put _ _ _
 ·exact gF h
 ·split at h
  ·cases h
  split at h
  ·rw [aiJ] at h
   obtain⟨cs,_,h⟩:=h
   obtain⟨z,_,rfl⟩:=Option.map_some' h
   exact Steady.refl _
  ·rw [aiJ] at h
   obtain⟨ob,_,h⟩:=h
   cases ob with
   | map es=>cases h
   | row t cs=>cases h
   | cells cs=>
    obtain⟨z,_,rfl⟩:=Option.map_some' h
    exact Steady.put _ _ _
  ·cases h
 ·exact gF h
 ·exact gF h
 ·exact gF h
 ·exact gF h
 ·split at h
  ·exact gF h
  ·cases h
 ·cases h; rw [mE]; exact Steady.put _ _ _
 ·obtain⟨⟨z,h'⟩,hz,rfl⟩:=Option.map_some' h
  rw [mE]; exact uM hz
 ·exact gF h
 ·exact gF h
 ·exact gF h
 ·exact gF h
 ·exact gF h
 ·exact gF h
 ·split at h
  ·cases h
  obtain⟨h',hz,rfl⟩:=Option.map_some' h
  exact rS hz
 ·split at h
  ·cases h
  obtain⟨h',hz,rfl⟩:=Option.map_some' h
  exact rS hz
 ·exact gF h
 ·unfold jI at h
  split at h
  ·exact gF h
  ·obtain⟨⟨z,h'⟩,hz,rfl⟩:=Option.map_some' h
   rw [mE]; exact zw hz
  ·obtain⟨⟨z,h'⟩,hz,rfl⟩:=Option.map_some' h
   rw [mE]; exact C2 hz
  ·obtain⟨h',hz,rfl⟩:=Option.map_some' h
   rw [mE]; exact Bm hz
  ·rw [aiJ] at h
   obtain⟨v,_,h⟩:=h
   rw [aiJ] at h
   obtain⟨vs,_,h⟩:=h
   rw [aiJ] at h
   obtain⟨u,_,h⟩:=h
   exact gF h
  ·rw [aiJ] at h
   obtain⟨v,_,h⟩:=h
   rw [aiJ] at h
   obtain⟨vs,_,h⟩:=h
   rw [aiJ] at h
   obtain⟨u,_,h⟩:=h
   exact gF h
  ·cases h
 ·split at h
  ·split at h
   ·obtain⟨⟨z,h'⟩,hz,rfl⟩:=Option.map_some' h
    rw [aiJ] at hz
    obtain⟨⟨z0,h0⟩,hz,hm⟩:=hz
    rw [mE]; exact (hcf _ _ _ _ _ hz).trans (EZ hm)
   ·cases h
  ·cases h
 ·cases h
theorem uN (hcf:SteadyF cf){ops:List Oper}(h:rI P cf bb ops s o=some s'):Steady s.h s'.h:=by
 unfold rI at h
 rw [aiJ] at h
 obtain⟨w,_,h⟩:=h
 cases w with
 | true=>exact zx hcf (by simpa [CL] using h)
 | false=>
  simp only [aiW,if_false,aiL] at h
  subst h
  rw [mE]; exact Steady.refl _
theorem xD (hcf:SteadyF cf){ops:List Oper}:∀{l:List Oper} {s s':RS},xY P cf bb ops s l=some s'→Steady s.h s'.h
 | [],s,s',h=>by simp only [xY,aiL] at h; subst h; exact Steady.refl _
 | o::l,s,s',h=>by
  simp only [xY,aiJ] at h
  obtain⟨s1,h1,h2⟩:=h
  exact (uN hcf h1).trans (xD hcf h2)
theorem xE (hcf:SteadyF cf){ops:List Oper}:∀{l:List Oper} {s r:RS} {es:List qW},uD P cf bb ops s l=some (es,r)→Steady s.h r.h
 | [],s,r,es,h=>by simp only [uD,aiL,aiV] at h; rw [h.2]; exact Steady.refl _
 | o::l,s,r,es,h=>by
  simp only [uD,aiJ,aiK] at h
  obtain⟨w,hw,s1,h1,⟨xo,r'⟩,h2,h3⟩:=h
  simp only [aiV] at h3
  obtain⟨_,rfl⟩:=h3
  have h4:rI P cf bb ops s o=some s1:=by unfold rI; rw [hw]; exact h1
  exact (uN hcf h4).trans (xE hcf h2)
theorem Bn (hcf:SteadyF cf){ops:Array Oper}(h:nt P cf bb ops s=some s'):Steady s.h s'.h:=by
 unfold nt at h
 dsimp only at h
 split at h
 rotate_left
 ·cases h
 rw [aiJ] at h
 obtain⟨⟨es,r⟩,Hi,h⟩:=h
 simp only at h
 split at h
 ·cases h; exact xE hcf Hi
 ·cases h
theorem jP (hcf:SteadyF cf){A:b4}{m:Nat}:∀(c:Code) (st mU:St) (e:Ex),cW P cf A m c st=some (e,mU)→Steady st.h mU.h
 | .skip,st,mU,e,h=>by simp only [cW,aiL,aiV] at h; rw [h.2]; exact Steady.refl _
 | .label _,st,mU,e,h=>by simp only [cW,aiL,aiV] at h; rw [h.2]; exact Steady.refl _
 | .ret,st,mU,e,h=>by simp only [cW,aiL,aiV] at h; rw [h.2]; exact Steady.refl _
 | .exit _,st,mU,e,h=>by simp only [cW,aiL,aiV] at h; rw [h.2]; exact Steady.refl _
 | .seq x y,st,mU,e,h=>by
  simp only [cW,aiJ] at h
  obtain⟨⟨e1,s1⟩,h1,h2⟩:=h
  have:=jP hcf x st s1 e1 h1
  cases e1 with
  | norm=>exact this.trans (jP hcf y s1 mU e h2)
  | exit id=>simp only [aiL,aiV] at h2; rw [←h2.2]; exact this
  | ret=>simp only [aiL,aiV] at h2; rw [←h2.2]; exact this
 | .cond k x y,st,mU,e,h=>by
  simp only [cW,aiJ] at h
  obtain⟨t,_,h⟩:=h
  cases t with
  | true=>exact jP hcf x st mU e (by simpa using h)
  | false=>exact jP hcf y st mU e (by simpa using h)
 | .block id x,st,mU,e,h=>by
  simp only [cW,aiK] at h
  obtain⟨⟨e1,s1⟩,h1,h2⟩:=h
  have:=jP hcf x st s1 e1 h1
  cases e1<;>(simp only [aiV] at h2; rw [←h2.2]; exact this)
 | .loop x,st,mU,e,h=>by
  simp only [cW] at h
  have key:∀(j:Nat) (st:St),oV (cW P cf A m x) j st=some (e,mU)→Steady st.h mU.h:=by
   intro j
   induction j with
   | zero=>intro st h; simp [oV] at h
   | succ j ih=>
    intro st h
    simp only [oV,aiJ] at h
    obtain⟨⟨e1,s1⟩,h1,h2⟩:=h
    have:=jP hcf x st s1 e1 h1
    cases e1 with
    | norm=>exact this.trans (ih s1 h2)
    | exit id=>simp only [aiL,aiV] at h2; rw [←h2.2]; exact this
    | ret=>simp only [aiL,aiV] at h2; rw [←h2.2]; exact this
  exact key m st h
 | .region id ops draw,st,mU,e,h=>by
  simp only [cW,aiJ,aiK,aiV] at h
  obtain⟨s0,h0,s',h1,s2,h2,_,rfl⟩:=h
  rw [QK]
  refine ((rP h0).trans ?_).trans (rP h2)
  cases draw with
  | true=>exact Bn (s:=s0) hcf (by simpa using h1)
  | false=>exact xD (s:=s0) hcf (by simpa using h1)
 | .rangeFunc ..,st,mU,e,h=>by simp [cW] at h
 | .scope ..,st,mU,e,h=>by simp [cW] at h
 | .goto ..,st,mU,e,h=>by simp [cW] at h
 | .refuse ..,st,mU,e,h=>by simp [cW] at h
theorem C3 (hcf:SteadyF cf){aW:FuncId→b4}{m:Nat}:SteadyF (bj P aW cf m):=by
 intro f args h r h' hc
 unfold bj at hc
 rw [aiJ] at hc
 obtain⟨fn,hf,hc⟩:=hc
 rw [aiJ] at hc
 obtain⟨c,hb,hc⟩:=hc
 split at hc
 rotate_left
 ·cases hc
 rw [aiJ] at hc
 obtain⟨⟨e,st⟩,hex,hc⟩:=hc
 have:=jP hcf c _ _ _ hex
 cases e with
 | norm=>obtain⟨r',_,h2⟩:=Option.map_some' hc; cases h2; exact this
 | ret=>obtain⟨r',_,h2⟩:=Option.map_some' hc; cases h2; exact this
 | exit id=>cases hc
end
end Go.R
namespace Go.R
open Go
section
variable {P:Program}{cf:CallF}{bb ds:List Nat}{o:Oper}{s s':RS}
theorem Ln {e e':Operand→AV}(h:∀x∈o.op.operands,e x=e' x):G8 P cf bb ds e s o=G8 P cf bb ds e' s o:=by
 have WU:∀(l:List Operand),(∀x∈l,e x=e' x)→l.map e=l.map e':=fun l hl=>aj0 hl
 have TV:∀(q:Option Operand),(∀x,q=some x→e x=e' x)→q.map e=q.map e':=by
  intro q hq; cases q with
  | none=>rfl
  | some x=>simp [hq x rfl]
 unfold G8
 cases I0:o.op<;>rw [I0] at h
 case build t ps=>
  have:(ps.toList.map fun (i,x)=>(i,e x))=(ps.toList.map fun (i,x)=>(i,e' x)):=
   aj0 fun p hp=>by
    have:=h p.2 (by simp only [Op.operands,List.mem_toArray,ajc]; exact⟨p,hp,rfl⟩)
    simp [this]
  simp only [this]
 case buildSlice t n ps=>
  have:(ps.toList.map fun (i,x)=>(i,e x))=(ps.toList.map fun (i,x)=>(i,e' x)):=
   aj0 fun p hp=>by
    have:=h p.2 (by simp only [Op.operands,List.mem_toArray,ajc]; exact⟨p,hp,rfl⟩)
    simp [this]
  simp only [this]
 case makeFunc f first cap=>
  have:cap.toList.map e=cap.toList.map e':=WU _ fun x hx=>h x (by simp only [Op.operands,Array.mem_append]; right; exact ajO.1 hx)
  cases f<;>first | rfl | simp only [this]
 case makeMap t r=>cases r<;>rfl
 case slice t x lo hi mx=>
  have h1:e x=e' x:=h x (by simp [Op.operands])
  have h2:=TV lo fun y hy=>h y (by simp [Op.operands,hy])
  have h3:=TV hi fun y hy=>h y (by simp [Op.operands,hy])
  have h4:=TV mx fun y hy=>h y (by simp [Op.operands,hy])
  simp only [h1,h2,h3,h4]
 case call c=>
  obtain⟨callee,args,IW⟩:=c
  have h1:args.toList.map e=args.toList.map e':=WU _ fun x hx=>h x (by
   simp only [Op.operands,Call.operands]
   cases callee<;>simp<;>first | exact ajO.1 hx | (right; exact ajO.1 hx) | (left; exact ajO.1 hx))
  cases callee with
  | builtin b=>simp only [h1]
  | value f=>
   have h2:e f=e' f:=h f (by simp [Op.operands,Call.operands])
   simp only [h1,h2]
  | invoke r nm=>rfl
 all_goals first
  | rfl
  | (simp [Op.operands] at h; simp [h])
end
theorem uO (acc:List Nat)(i:Nat):∀(l:List Edge) (m:Nat),(l.foldl (fun m e=>bif Region.binds .any e then m ||| (2 ^ e.on ||| acc.getD e.on 0) else m) m).testBit i=true→
  m.testBit i=true∨∃e∈l,Region.binds .any e=true∧(e.on=i∨(acc.getD e.on 0).testBit i=true)
 | [],m,h=>.inl h
 | e::l,m,h=>by
  rcases uO acc i l _ h with h1 | ⟨e',he,h1⟩
  ·dsimp only at h1
   cases hb:Region.binds .any e with
   | false=>rw [hb] at h1; exact .inl h1
   | true=>
    rw [hb] at h1
    simp only [cond_true,Nat.testBit_or,ajE,Nat.testBit_two_pow,decide_eq_true_eq] at h1
    rcases h1 with h1 | h1 | h1
    ·exact .inl h1
    ·exact .inr ⟨e,by simp,hb,.inl h1⟩
    ·exact .inr ⟨e,by simp,hb,.inr h1⟩
  ·exact .inr ⟨e',by simp [he],h1⟩
theorem xF:∀(l:List Oper) (acc:List Nat),(∀j,j<acc.length→(mQ acc l).getD j 0=acc.getD j 0)∧
  ∀j i,((mQ acc l).getD j 0).testBit i=true→acc.length≤j→∃o,l[j - acc.length]? = some o∧∃e∈o.after.toList,Region.binds .any e=true∧(e.on=i∨((mQ acc l).getD e.on 0).testBit i=true)
 | [],acc=>⟨fun j hj=>rfl,fun j i h hj=>by simp [mQ,List.getD,ai8 hj] at h⟩
 | o::l,acc=>by
  simp only [mQ]
  generalize hm:(o.after.toList.foldl (fun m e=>bif Region.binds .any e then m ||| (2 ^ e.on ||| acc.getD e.on 0) else m) 0)=m
  obtain⟨h1,h2⟩:=xF l (acc++[m])
  have hold:∀j,j<acc.length→(mQ (acc++[m]) l).getD j 0=acc.getD j 0:=fun j hj=>by
   rw [h1 j (by simp; omega)]
   simp [List.getD,ai6 hj]
  refine⟨hold,fun j i h hj=>?_⟩
  by_cases hje:j=acc.length
  ·subst hje
   have:(mQ (acc++[m]) l).getD acc.length 0=m:=by
    rw [h1 _ (by simp)]; simp [List.getD]
   rw [this,←hm] at h
   rcases uO acc i _ _ h with h3 | ⟨e,he,hb,h3⟩
   ·simp at h3
   ·refine⟨o,by simp,e,he,hb,h3.imp id fun h4=>?_⟩
    by_cases hl:e.on<acc.length
    ·rw [hold _ hl]; exact h4
    ·simp [List.getD,ai8 (Nat.not_lt.1 hl)] at h4
  ·obtain⟨o',VZ,h3⟩:=h2 j i h (by simp; omega)
   refine⟨o',?_,h3⟩
   rw [show j - acc.length=(j - (acc++[m]).length)+1 by simp; omega]
   simpa using VZ
theorem oE {α:Type}(p:Nat→α→Nat→α→Bool):∀(l:List α) (k:Nat),uC p k l=true→∀i j x y,i<j→l[i]? = some x→l[j]? = some y→p (k+i) x (k+j) y=true
 | [],k,_,i,j,x,y,_,hx,_=>by simp at hx
 | a::l,k,h,i,j,x,y,Er,hx,hy=>by
  simp only [uC,aiM,ajd] at h
  obtain⟨h1,h2⟩:=h
  cases j with
  | zero=>omega
  | succ j=>
   cases i with
   | zero=>
    simp only [ajx,aiL] at hx
    subst hx
    have:=h1 (y,k+1+j) (by rw [List.mk_add_mem_zipIdx_iff_getElem?]; simpa using hy)
    simpa [ajT,akt 1 j] using this
   | succ i=>
    have:=oE p l (k+1) h2 i j x y (by omega) (by simpa using hx) (by simpa using hy)
    rw [show k+(i+1)=k+1+i by omega,show k+(j+1)=k+1+j by omega]
    exact this
theorem uP:∀(l:List Oper) (k:Nat),yI k l=true→∀i o,l[i]? = some o→∀e∈o.after.toList,Region.binds .any e=true→e.on<k+i
 | [],k,_,i,o,h,_,_,_=>by simp at h
 | a::l,k,h,i,o,ho,e,he,hb=>by
  simp only [yI,aiM,ajd] at h
  obtain⟨h1,h2⟩:=h
  cases i with
  | zero=>
   simp only [ajx,aiL] at ho
   subst ho
   have:=h1 e he
   simp only [hb,ajA,Bool.false_or] at this
   exact Nat.blt_eq.mp this
  | succ i=>
   have:=uP l (k+1) h2 i o (by simpa using ho) e he hb
   omega
theorem uQ {V:Type}{n i:Nat}(hi:i≤n){W:Nat→Prop}{S:Nat→Bool}{m x:Nat→V}(h0:m 0=x 0)(WV:∀k,k<n→W k→S k=true→m (k+1)=x (k+1))(yL:∀k,k<n→(¬W k∨S k=false)→m (k+1)=m k)
  (hx:∀k,k<n→¬W k→x (k+1)=x k) (hS:∀k,k<n→W k→(S k=true↔k<i)):m n=x i:=by
 have key:∀k,k≤n→m k=x (min k i):=by
  intro k
  induction k with
  | zero=>intro _; simpa using h0
  | succ k ih=>
   intro hk
   have ih:=ih (by omega)
   by_cases hw:W k
   ·have hs:=hS k (by omega) hw
    by_cases yN:k<i
    ·rw [WV k (by omega) hw (hs.2 yN),ako (by omega)]
    ·have:S k=false:=by
      cases h:S k with
      | false=>rfl
      | true=>exact absurd (hs.1 h) yN
     rw [yL k (by omega) (.inr this),ih,Nat.min_eq_right (by omega),Nat.min_eq_right (by omega)]
   ·rw [yL k (by omega) (.inl hw),ih]
    by_cases yN:k<i
    ·rw [ako (by omega),ako (by omega),hx k (by omega) hw]
    ·rw [Nat.min_eq_right (by omega),Nat.min_eq_right (by omega)]
 rw [key n (aiQ n),Nat.min_eq_right hi]
open Classical in
theorem C4 {V:Type}{n i:Nat}(hi:i<n){W:Nat→Prop}{S S':Nat→Bool}{m m' x:Nat→V}(h0:m' 0=m 0)(WV:∀k,k<n→W k→S k=true→m (k+1)=x (k+1))(yL:∀k,k<n→(¬W k∨S k=false)→m (k+1)=m k)
  (M9:∀k,k<n→W k→S' k=true→m' (k+1)=x (k+1)) (Na:∀k,k<n→(¬W k∨S' k=false)→m' (k+1)=m' k)
  (Lp:∀k,S' k=if k=i then true else S k) (WW:S i=false) (hl:W i→∀j,j<n→i<j→W j→S j=false):m' n=if W i then x (i+1) else m n:=by
 have key:∀k,k≤n→m' k=if i<k∧W i then x (i+1) else m k:=by
  intro k
  induction k with
  | zero=>intro _; simpa using h0
  | succ k ih=>
   intro hk
   have ih:=ih (by omega)
   by_cases yN:k=i
   ·subst yN
    by_cases hw:W k
    ·rw [M9 k (by omega) hw (by rw [Lp]; simp),if_pos ⟨by omega,hw⟩]
    ·rw [Na k (by omega) (.inl hw),ih,if_neg (fun h=>hw h.2),if_neg (fun h=>hw h.2),yL k (by omega) (.inl hw)]
   ·have hs:S' k=S k:=by rw [Lp,if_neg yN]
    by_cases hw:W k
    ·cases wk:S k with
     | true=>
      rw [M9 k (by omega) hw (hs.trans wk)]
      by_cases Mu:i<k+1∧W i
      ·have:=hl Mu.2 k (by omega) (by omega) hw
       rw [wk] at this; cases this
      ·rw [if_neg Mu,WV k (by omega) hw wk]
     | false=>
      rw [Na k (by omega) (.inr (hs.trans wk)),ih,yL k (by omega) (.inr wk)]
      by_cases Mu:i<k∧W i
      ·rw [if_pos Mu,if_pos ⟨by omega,Mu.2⟩]
      ·rw [if_neg Mu,if_neg (fun h=>Mu ⟨by omega,h.2⟩)]
    ·rw [Na k (by omega) (.inl hw),ih,yL k (by omega) (.inl hw)]
     by_cases Mu:i<k∧W i
     ·rw [if_pos Mu,if_pos ⟨by omega,Mu.2⟩]
     ·rw [if_neg Mu,if_neg (fun h=>Mu ⟨by omega,h.2⟩)]
 rw [key n (aiQ n)]
 by_cases hw:W i
 ·rw [if_pos ⟨hi,hw⟩,if_pos hw]
 ·rw [if_neg (fun h=>hw h.2),if_neg hw]
structure zy (P:Program)(cf:CallF)(bb:List Nat)(ops:Array Oper)(tx:Nat→RS)(ft:Nat→oT)(ord:Nat→Nat→Prop):Prop where
 op:∀k o,ops[k]? = some o→∃w,kD ops.toList (tx k).ρ o=some w∧(if w then CL P cf bb (ops.toList.filterMap (·.dst)) (tx k) o=some (tx (k+1))∧ft k=bX bb (cZ (tx k).ρ) o else tx (k+1)=(tx k).set o.dst (.tup [])∧ft k={})
 TW:∀k i,ord k i→∃o,ops[i]? = some o∧∃e∈o.after,Region.binds .any e=true∧(e.on=k∨ord k e.on)
 back:∀i o,ops[i]? = some o→∀e∈o.after,Region.binds .any e=true→e.on<i
 SM:∀i j x y,i≠j→ops[i]? = some x→ops[j]? = some y→ord i j∨ord j i∨∀d,x.dst=some d→d∉y.looksAt ops∧y.dst≠some d
 boxes:∀i j,i<ops.size→j<ops.size→i≠j→ord i j∨ord j i∨(∀k,(ft i).wb=some k→k∉(ft j).rb∧(ft j).wb≠some k)∧((ft i).wh=true→(ft j).wh=false∧∀id∈(ft j).rh,(tx i).h.get id=(tx (i+1)).h.get id)
 ZY:∀i o d,ops[i]? = some o→(ft i).al=true→o.dst=some d→(∀t∈ops.toList.filterMap (·.dst),t≠d→∀off,(tx 0).ρ t≠.lp d off)∧∀j y t,ops[j]? = some y→j≠i→ord i j∨(y.dst=some t→∀off,(tx (j+1)).ρ t≠.lp d off)
section
variable {P:Program}{cf:CallF}{bb:List Nat}{ops:Array Oper}{tx:Nat→RS}{ft:Nat→oT}{ord:Nat→Nat→Prop}
def mF (ops:Array Oper)(k:Nat):Option Nat:=(ops[k]?).bind (·.dst)
def nU (ops:Array Oper)(tx:Nat→RS)(ft:Nat→oT)(S:Nat→Bool):Nat→RS
 | 0=>tx 0
 | k+1=>if S k then (nU ops tx ft S k).shift (ft k) (mF ops k) (tx (k+1)) else nU ops tx ft S k
theorem zy.shift (T:zy P cf bb ops tx ft ord){k:Nat}(hk:k<ops.size):tx (k+1)=(tx k).shift (ft k) (mF ops k) (tx (k+1)):=by
 have ho:ops[k]? = some ops[k]:=by simp [hk]
 obtain⟨w,hw,h⟩:=T.op k _ ho
 have hd:mF ops k=ops[k].dst:=by simp [mF,hk]
 rw [hd]
 cases w with
 | true=>
  simp only [if_true] at h
  obtain⟨h1,h2⟩:=h
  have:=BQ (s2:=tx k) (e:=cZ (tx k).ρ) h1 (fun _ _=>rfl) (fun _ _=>rfl) (fun _=>rfl) (fun tS d GS=>by
   unfold CL G8 at h1
   dsimp only at h1
   have SN:∀(cs:List AV) (s s':RS),lh s bb (ops.toList.filterMap (·.dst)) ops[k] cs=some s'→bb.contains d=true→zb d s.ρ ((ops.toList.filterMap (·.dst)).filter fun t=>!Nat.beq t d)=true:=by
    intro cs s s' hb hl
    unfold lh at hb
    simp only [GS,hl,if_true] at hb
    by_cases hn:zb d s.ρ ((ops.toList.filterMap (·.dst)).filter fun t=>!Nat.beq t d)=true
    ·exact hn
    ·simp [hn] at hb
   unfold bX at tS
   split at tS
   ·rename_i t I0
    rw [GS] at tS
    simp only at tS
    split at tS
    ·rename_i hl
     rw [I0] at h1
     simp only [aiJ] at h1
     obtain⟨z,_,h1⟩:=h1
     exact SN _ _ _ h1 hl
    ·cases tS
   ·rename_i t x I0
    rw [GS] at tS
    simp only at tS
    split at tS
    ·rename_i hl
     rw [I0] at h1
     exact SN _ _ _ h1 hl
    ·cases tS
   all_goals first
    | (split at tS<;>cases tS)
    | (split at tS<;>first | cases tS | (split at tS<;>cases tS))
    | cases tS)
  unfold CL at h1
  rw [h1] at this
  rw [h2]
  exact ajn this
 | false=>
  simp only [aiW,if_false] at h
  rw [h.1,h.2]
  exact lA (tx k) (tx k) {} _ _ rfl rfl
theorem yO (s2:RS)(f:oT)(d:Option Nat)(s':RS)(t:Nat):(s2.shift f d s').ρ t=if d=some t then s'.ρ t else s2.ρ t:=by
 cases d with
 | none=>simp [RS.shift]
 | some d=>
  simp only [RS.shift,aiL]
  by_cases h:t=d
  ·subst h; simp
  ·rw [if_neg h,if_neg (Ne.symm h)]
theorem uR (s2:RS)(f:oT)(d:Option Nat)(s':RS)(b:Nat):(s2.shift f d s').bx b=if f.wb=some b then s'.bx b else s2.bx b:=by
 cases hf:f.wb with
 | none=>simp [RS.shift,hf]
 | some k=>
  simp only [RS.shift,hf,aiL]
  by_cases h:b=k
  ·subst h; simp
  ·rw [if_neg h,if_neg (Ne.symm h)]
theorem zy.lt (T:zy P cf bb ops tx ft ord):∀{j k:Nat},ord k j→k<j:=by
 intro j
 induction j using Nat.strongRecOn with
 | _ j ih=>
  intro k h
  obtain⟨o,ho,e,he,hb,h1⟩:=T.TW k j h
  have h2:=T.back j o ho e he hb
  rcases h1 with h1 | h1
  ·omega
  ·have:=ih e.on h2 h1; omega
def wu (ops:Array Oper)(S:Nat→Bool):Prop:=∀j o,ops[j]? = some o→S j=true→∀e∈o.after,Region.binds .any e=true→S e.on=true
theorem zy.down (T:zy P cf bb ops tx ft ord){S:Nat→Bool}(hc:wu ops S):∀{j k:Nat},ord k j→S j=true→S k=true:=by
 intro j
 induction j using Nat.strongRecOn with
 | _ j ih=>
  intro k h hs
  obtain⟨o,ho,e,he,hb,h1⟩:=T.TW k j h
  have h2:=T.back j o ho e he hb
  have h3:=hc j o ho hs e he hb
  rcases h1 with h1 | h1
  ·rw [←h1]; exact h3
  ·exact ih e.on h2 h1 h3
variable {S:Nat→Bool}{i:Nat}{oi:Oper}
theorem zy.before (T:zy P cf bb ops tx ft ord)(hc:wu ops S)(ho:ops[i]? = some oi)(hr:∀e∈oi.after,Region.binds .any e=true→S e.on=true){k:Nat}(h:ord k i):S k=true:=by
 obtain⟨o,VZ,e,he,hb,h1⟩:=T.TW k i h
 rw [ho] at VZ
 cases VZ
 rcases h1 with h1 | h1
 ·rw [←h1]; exact hr e he hb
 ·exact T.down hc h1 (hr e he hb)
theorem zy.iff (T:zy P cf bb ops tx ft ord)(hc:wu ops S)(ho:ops[i]? = some oi)(hr:∀e∈oi.after,Region.binds .any e=true→S e.on=true)(hi:S i=false){k:Nat}(h:ord i k∨ord k i):S k=true↔k<i:=by
 rcases h with h | h
 ·have:=T.lt h
  refine⟨fun hk=>?_,fun _=>by omega⟩
  have:=T.down hc h hk
  rw [hi] at this; cases this
 ·exact⟨fun _=>T.lt h,fun _=>T.before hc ho hr h⟩
theorem C5 (t:Nat)(k:Nat)(hd:mF ops k=some t)(hs:S k=true):(nU ops tx ft S (k+1)).ρ t=(tx (k+1)).ρ t:=by
 simp only [nU,hs,if_true,yO,hd]
theorem C6 (t:Nat)(k:Nat)(h:¬mF ops k=some t∨S k=false):(nU ops tx ft S (k+1)).ρ t=(nU ops tx ft S k).ρ t:=by
 simp only [nU]
 split
 ·rename_i hs
  rcases h with h | h
  ·rw [yO,if_neg h]
  ·rw [h] at hs; cases hs
 ·rfl
theorem C7 (b:Nat)(k:Nat)(hd:(ft k).wb=some b)(hs:S k=true):(nU ops tx ft S (k+1)).bx b=(tx (k+1)).bx b:=by
 simp only [nU,hs,if_true,uR,hd]
theorem C8 (b:Nat)(k:Nat)(h:¬(ft k).wb=some b∨S k=false):(nU ops tx ft S (k+1)).bx b=(nU ops tx ft S k).bx b:=by
 simp only [nU]
 split
 ·rename_i hs
  rcases h with h | h
  ·rw [uR,if_neg h]
  ·rw [h] at hs; cases hs
 ·rfl
theorem C9 (k:Nat)(hd:(ft k).wh=true)(hs:S k=true):(nU ops tx ft S (k+1)).h=(tx (k+1)).h:=by
 simp only [nU,hs,if_true,RS.shift,hd]
theorem Da (k:Nat)(h:¬(ft k).wh=true∨S k=false):(nU ops tx ft S (k+1)).h=(nU ops tx ft S k).h:=by
 simp only [nU]
 split
 ·rename_i hs
  rcases h with h | h
  ·simp only [RS.shift]; rw [if_neg h]
  ·rw [h] at hs; cases hs
 ·rfl
theorem zy.ZZ (T:zy P cf bb ops tx ft ord)(t:Nat)(k:Nat)(hk:k<ops.size)(h:¬mF ops k=some t):(tx (k+1)).ρ t=(tx k).ρ t:=by
 rw [T.shift hk,yO,if_neg h]
theorem zy.WX (T:zy P cf bb ops tx ft ord)(b:Nat)(k:Nat)(hk:k<ops.size)(h:¬(ft k).wb=some b):(tx (k+1)).bx b=(tx k).bx b:=by
 rw [T.shift hk,uR,if_neg h]
theorem zy.TX (T:zy P cf bb ops tx ft ord)(k:Nat)(hk:k<ops.size)(h:¬(ft k).wh=true):(tx (k+1)).h=(tx k).h:=by
 rw [T.shift hk]; simp only [RS.shift]; rw [if_neg h]
theorem zy.reads (T:zy P cf bb ops tx ft ord)(hc:wu ops S)(ho:ops[i]? = some oi)(hr:∀e∈oi.after,Region.binds .any e=true→S e.on=true)(hi:S i=false) :
  (∀t∈oi.looksAt ops,(nU ops tx ft S ops.size).ρ t=(tx i).ρ t)∧(∀b∈(ft i).rb,(nU ops tx ft S ops.size).bx b=(tx i).bx b)∧
  (∀id∈(ft i).rh,(nU ops tx ft S ops.size).h.get id=(tx i).h.get id)∧((ft i).wh=true→(nU ops tx ft S ops.size).h=(tx i).h):=by
 have hin:i<ops.size:=(ajt.1 ho).1
 have IF:∀k,k<ops.size→ops[k]? = some ops[k]!:=fun k hk=>by simp [hk]
 have tw:∀k,k=i→(S k=true↔k<i):=by
  rintro k rfl
  rw [hi]; simp
 refine⟨fun t ht=>?_,fun b hb=>?_,fun id hid=>?_,fun hw=>?_⟩
 ·refine uQ (W:=fun k=>mF ops k=some t) (m:=fun k=>(nU ops tx ft S k).ρ t) (x:=fun k=>(tx k).ρ t) (S:=S) (Nat.le_of_lt hin) rfl (fun k _ h hs=>C5 t k h hs) (fun k _ h=>C6 t k h) (fun k hk h=>T.ZZ t k hk h) (fun k hk h=>?_)
  by_cases yN:k=i
  ·exact tw k yN
  ·obtain⟨y,hy,TY⟩:=aiJ.1 h
   rcases T.SM k i y oi yN hy ho with h1 | h1 | h1
   ·exact T.iff hc ho hr hi (.inr h1)
   ·exact T.iff hc ho hr hi (.inl h1)
   ·exact absurd ht (h1 t TY).1
 ·refine uQ (W:=fun k=>(ft k).wb=some b) (m:=fun k=>(nU ops tx ft S k).bx b) (x:=fun k=>(tx k).bx b) (S:=S) (Nat.le_of_lt hin) rfl (fun k _ h hs=>C7 b k h hs) (fun k _ h=>C8 b k h) (fun k hk h=>T.WX b k hk h) (fun k hk h=>?_)
  by_cases yN:k=i
  ·exact tw k yN
  ·rcases T.boxes k i hk hin yN with h1 | h1 | h1
   ·exact T.iff hc ho hr hi (.inr h1)
   ·exact T.iff hc ho hr hi (.inl h1)
   ·exact absurd hb (h1.1 b h).1
 ·
  obtain⟨p,hp,WM⟩:∃p,p≤ops.size∧∀k,k<ops.size→(ft k).wh=true→(S k=true↔k<p):=by
   have key:∀m,m≤ops.size→(∀k,k<m→(ft k).wh=true→S k=true)∨∃p,p<m∧(ft p).wh=true∧S p=false∧∀k,k<p→(ft k).wh=true→S k=true:=by
    intro m
    induction m with
    | zero=>intro _; exact .inl fun k hk=>by omega
    | succ m ih=>
     intro hm
     rcases ih (by omega) with h | ⟨p,h1,h2⟩
     ·by_cases hw:(ft m).wh=true∧S m=false
      ·exact .inr ⟨m,by omega,hw.1,hw.2,h⟩
      ·refine .inl fun k hk hkw=>?_
       by_cases hkm:k=m
       ·subst hkm
        cases hs:S k with
        | true=>rfl
        | false=>exact absurd ⟨hkw,hs⟩ hw
       ·exact h k (by omega) hkw
     ·exact .inr ⟨p,by omega,h2⟩
   rcases key ops.size (aiQ _) with h | ⟨p,h1,h2,h3,h4⟩
   ·exact⟨ops.size,aiQ _,fun k hk hw=>⟨fun _=>hk,fun _=>h k hk hw⟩⟩
   ·refine⟨p,by omega,fun k hk hw=>⟨fun hs=>?_,fun Y8=>h4 k Y8 hw⟩⟩
    rcases Nat.lt_or_ge k p with h5 | h5
    ·exact h5
    ·by_cases Y8:k=p
     ·subst Y8; rw [h3] at hs; cases hs
     ·rcases T.boxes p k h1 hk (Ne.symm Y8) with h6 | h6 | h6
      ·have:=T.down hc h6 hs; rw [h3] at this; cases this
      ·have:=T.lt h6; omega
      ·have:=(h6.2 h2).1; rw [hw] at this; cases this
  have TZ:(nU ops tx ft S ops.size).h=(tx p).h:=
   uQ (W:=fun k=>(ft k).wh=true) (m:=fun k=>(nU ops tx ft S k).h) (x:=fun k=>(tx k).h) (S:=S) hp rfl (fun k _ h hs=>C9 k h hs) (fun k _ h=>Da k h) (fun k hk h=>T.TX k hk h) WM
  rw [TZ]
  have SO:∀k,k<ops.size→(p≤k∧k<i)∨(i≤k∧k<p)→(tx (k+1)).h.get id=(tx k).h.get id:=by
   intro k hk hb
   by_cases hw:(ft k).wh=true
   ·have hs:=WM k hk hw
    have yN:k≠i:=by
     rintro rfl
     rcases hb with hb | hb
     ·omega
     ·have:=hs.2 hb.2; rw [hi] at this; cases this
    rcases T.boxes k i hk hin yN with h1 | h1 | h1
    ·have hlt:=T.lt h1
     have:=hs.1 (T.before hc ho hr h1)
     omega
    ·have hlt:=T.lt h1
     have:=T.down hc h1 (hs.2 (by omega))
     rw [hi] at this; cases this
    ·exact ((h1.2 hw).2 id hid).symm
   ·rw [T.TX k hk hw]
  have walk:∀a b,a≤b→b≤ops.size→(∀k,a≤k→k<b→(tx (k+1)).h.get id=(tx k).h.get id)→(tx b).h.get id=(tx a).h.get id:=by
   intro a b Qf
   induction b with
   | zero=>
     intro _ _; have:a=0:=by omega
     subst this; rfl
   | succ b ih=>
    intro hb hk
    by_cases Z0:a=b+1
    ·subst Z0; rfl
    ·rw [hk b (by omega) (by omega)]
     exact ih (by omega) (by omega) fun k h1 h2=>hk k h1 (by omega)
  rcases Nat.le_total p i with h | h
  ·exact (walk p i h (Nat.le_of_lt hin) fun k h1 h2=>SO k (by omega) (.inl ⟨h1,h2⟩)).symm
  ·exact walk i p h hp fun k h1 h2=>SO k (by omega) (.inr ⟨h1,h2⟩)
 ·refine uQ (W:=fun k=>(ft k).wh=true) (m:=fun k=>(nU ops tx ft S k).h) (x:=fun k=>(tx k).h) (S:=S) (Nat.le_of_lt hin) rfl (fun k _ h hs=>C9 k h hs) (fun k _ h=>Da k h) (fun k hk h=>T.TX k hk h) (fun k hk h=>?_)
  by_cases yN:k=i
  ·exact tw k yN
  ·rcases T.boxes k i hk hin yN with h1 | h1 | h1
   ·exact T.iff hc ho hr hi (.inr h1)
   ·exact T.iff hc ho hr hi (.inl h1)
   ·have:=(h1.2 h).1; rw [hw] at this; cases this
theorem E0 (t:Nat):∀k,(nU ops tx ft S k).ρ t=(tx 0).ρ t∨∃j,j<k∧S j=true∧mF ops j=some t∧(nU ops tx ft S k).ρ t=(tx (j+1)).ρ t
 | 0=>.inl rfl
 | k+1=>by
  by_cases h:mF ops k=some t∧S k=true
  ·exact .inr ⟨k,by omega,h.2,h.1,C5 t k h.1 h.2⟩
  ·have h':¬mF ops k=some t∨S k=false:=by
    by_cases h1:mF ops k=some t
    ·right; cases hs:S k with
     | true=>exact absurd ⟨h1,hs⟩ h
     | false=>rfl
    ·exact .inl h1
   rw [C6 t k h']
   rcases E0 t k with h1 | ⟨j,h1,h2⟩
   ·exact .inl h1
   ·exact .inr ⟨j,by omega,h2⟩
theorem zz {k:Nat}{ρ:Nat→AV}:∀{l:List Nat},(∀t∈l,∀off,ρ t≠.lp k off)→zb k ρ l=true
 | [],_=>rfl
 | t::l,h=>by
  simp only [zb,aiM]
  refine⟨?_,zz fun u hu=>h u (by simp [hu])⟩
  have:=h t (by simp)
  split
  ·rename_i j off heq
   simp only [bne_iff_ne,ne_eq]
   rintro rfl
   exact this off heq
  ·rfl
open Classical in
theorem zy.next (T:zy P cf bb ops tx ft ord)(hc:wu ops S)(ho:ops[i]? = some oi)(hr:∀e∈oi.after,Region.binds .any e=true→S e.on=true)(hi:S i=false){S':Nat→Bool}(Lp:∀k,S' k=if k=i then true else S k) :
  rI P cf bb ops.toList (nU ops tx ft S ops.size) oi=some (nU ops tx ft S' ops.size):=by
 have hin:i<ops.size:=(ajt.1 ho).1
 obtain⟨h1,h2,h3,h4⟩:=T.reads hc ho hr hi
 obtain⟨w,hw,I0⟩:=T.op i oi ho
 have ya:mF ops i=oi.dst:=by simp [mF,ho]
 have BR:∀j,i<j→j<ops.size→(ord i j∨ord j i)→S j=false:=by
  intro j Er hj h
  cases hs:S j with
  | false=>rfl
  | true=>have:=(T.iff hc ho hr hi h).1 hs; omega
 have TZ:nU ops tx ft S' ops.size=(nU ops tx ft S ops.size).shift (ft i) (mF ops i) (tx (i+1)):=by
  refine RS.ext' (fun t=>?_) (fun b=>?_) ?_
  ·rw [yO]
   have:=C4 (W:=fun k=>mF ops k=some t) (m:=fun k=>(nU ops tx ft S k).ρ t) (m':=fun k=>(nU ops tx ft S' k).ρ t) (x:=fun k=>(tx k).ρ t) (S:=S) (S':=S') hin rfl
    (fun k _ h hs=>C5 t k h hs) (fun k _ h=>C6 t k h) (fun k _ h hs=>C5 t k h hs) (fun k _ h=>C6 t k h) Lp hi (fun V0 j hj Er WY=>by
     obtain⟨y,hy,TY⟩:=aiJ.1 WY
     rw [ya] at V0
     rcases T.SM i j oi y (by omega) ho hy with h | h | h
     ·exact BR j Er hj (.inl h)
     ·exact BR j Er hj (.inr h)
     ·exact absurd TY (h t V0).2)
   rw [this]
   by_cases hd:mF ops i=some t
   ·rw [if_pos hd,if_pos hd]
   ·rw [if_neg hd,if_neg hd]
  ·rw [uR]
   have:=C4 (W:=fun k=>(ft k).wb=some b) (m:=fun k=>(nU ops tx ft S k).bx b) (m':=fun k=>(nU ops tx ft S' k).bx b) (x:=fun k=>(tx k).bx b) (S:=S) (S':=S') hin rfl
    (fun k _ h hs=>C7 b k h hs) (fun k _ h=>C8 b k h) (fun k _ h hs=>C7 b k h hs) (fun k _ h=>C8 b k h) Lp hi (fun V0 j hj Er WY=>by
     rcases T.boxes i j hin hj (by omega) with h | h | h
     ·exact BR j Er hj (.inl h)
     ·exact BR j Er hj (.inr h)
     ·exact absurd WY (h.1 b V0).2)
   rw [this]
   by_cases hd:(ft i).wb=some b
   ·rw [if_pos hd,if_pos hd]
   ·rw [if_neg hd,if_neg hd]
  ·have:=C4 (W:=fun k=>(ft k).wh=true) (m:=fun k=>(nU ops tx ft S k).h) (m':=fun k=>(nU ops tx ft S' k).h) (x:=fun k=>(tx k).h) (S:=S) (S':=S') hin rfl
    (fun k _ h hs=>C9 k h hs) (fun k _ h=>Da k h) (fun k _ h hs=>C9 k h hs) (fun k _ h=>Da k h) Lp hi (fun V0 j hj Er WY=>by
     rcases T.boxes i j hin hj (by omega) with h | h | h
     ·exact BR j Er hj (.inl h)
     ·exact BR j Er hj (.inr h)
     ·have:=(h.2 V0).1; rw [WY] at this; cases this)
   rw [this]
   simp only [RS.shift]
   by_cases hd:(ft i).wh=true
   ·rw [if_pos hd,if_pos hd]
   ·rw [if_neg hd,if_neg hd]
 have WZ:∀x∈oi.op.operands,cZ (nU ops tx ft S ops.size).ρ x=cZ (tx i).ρ x:=by
  intro x hx
  cases x with
  | tmp t=>
   refine h1 t ?_
   unfold Oper.looksAt
   rw [ai3]
   left
   rw [List.mem_filterMap]
   exact⟨.tmp t,ajO.2 hx,rfl⟩
  | _=>rfl
 have W2:kD ops.toList (nU ops tx ft S ops.size).ρ oi=kD ops.toList (tx i).ρ oi:=by
  unfold kD
  cases hg:oi.guard with
  | none=>rfl
  | some g=>
   obtain⟨g,want⟩:=g
   simp only
   cases hq:(ops.toList[g]?).bind (·.dst) with
   | none=>rfl
   | some d=>
    simp only [aiI]
    rw [h1 d]
    unfold Oper.looksAt
    rw [ai3]
    right
    rw [hg]
    simp only
    have:(ops[g]?).bind (·.dst)=some d:=by simpa using hq
    rw [this]
    simp
 unfold rI
 rw [W2,hw]
 simp only [aiI]
 rw [TZ,ya]
 cases w with
 | false=>
  simp only [aiW,if_false] at I0 ⊢
  rw [I0.1,I0.2]
  congr 1
  exact lA (tx i) _ {} _ _ rfl rfl
 | true=>
  simp only [if_true] at I0 ⊢
  obtain⟨I0,V3⟩:=I0
  unfold CL at I0 ⊢
  rw [Ln WZ,V3]
  rw [V3] at h2 h3 h4
  refine BQ I0 h2 h3 h4 (fun tS d GS=>zz fun t ht off he=>?_)
  rw [aj1] at ht
  obtain⟨ht1,ht2⟩:=ht
  have SE:t≠d:=by simpa [beq_nat] using ht2
  obtain⟨l1,l2⟩:=T.ZY i oi d ho (by rw [V3]; exact tS) GS
  rcases E0 (ops:=ops) (tx:=tx) (ft:=ft) (S:=S) t ops.size with h | ⟨j,hj,hs,hjd,h⟩
  ·rw [h] at he
   exact l1 t ht1 SE off he
  ·rw [h] at he
   obtain⟨y,hy,TY⟩:=aiJ.1 hjd
   have hji:j≠i:=by rintro rfl; rw [hi] at hs; cases hs
   rcases l2 j y t hy hji with h5 | h5
   ·have:=T.down hc h5 hs; rw [hi] at this; cases this
   ·exact h5 TY off he
theorem I1 (T:zy P cf bb ops tx ft ord)(pc:∀k,k<ops.size→S k=true):∀k,k≤ops.size→nU ops tx ft S k=tx k
 | 0,_=>rfl
 | k+1,hk=>by
  simp only [nU,pc k (by omega),if_true]
  rw [I1 T pc k (by omega)]
  exact (T.shift (by omega)).symm
def left (n:Nat)(S:Nat→Bool):Nat:=(ajP n).countP fun j=>!S j
theorem Lq {n:Nat}{S:Nat→Bool}(h:left n S=0):∀k,k<n→S k=true:=by
 intro k hk
 unfold left at h
 rw [List.countP_eq_zero] at h
 simpa using h k (aj6.2 hk)
theorem Nb {n i:Nat}(hi:i<n){S S':Nat→Bool}(WW:S i=false)(Lp:∀k,S' k=if k=i then true else S k):left n S'+1=left n S:=by
 unfold left
 have:∀m,(ajP m).countP (fun j=>!S' j)+(if i<m then 1 else 0)=(ajP m).countP fun j=>!S j:=by
  intro m
  induction m with
  | zero=>simp
  | succ m ih=>
   rw [List.range_succ,List.countP_append,List.countP_append]
   simp only [List.countP_cons,List.countP_nil]
   by_cases hm:m=i
   ·subst hm
    have h1:S' m=true:=by rw [Lp]; simp
    rw [h1,WW]
    simp at ih ⊢
    omega
   ·have h1:S' m=S m:=by rw [Lp,if_neg hm]
    rw [h1]
    by_cases him:i<m
    ·have h3:i<m+1:=by omega
     simp only [him,h3,if_true] at ih ⊢
     omega
    ·have h3:¬i<m+1:=by omega
     simp only [him,h3,if_false] at ih ⊢
     omega
 have:=this n
 rw [if_pos hi] at this
 exact this
theorem T0 (T:zy P cf bb ops tx ft ord)(hcf:CallOK P cf){L0:Nat→Prop}{c0:Cx}{n:Nat}(hb0:c0.base≤c0.w.heap.size)(EJ:BP n ops.toList=true){Q:Exit→Act→World→Prop}
  (hQ:∀a' w',Inv L0 c0 n (ops.toList.filterMap (·.dst)) (tx ops.size) a' w'→Q .normal a' w') :
  ∀(fuel:Nat) (gG:Array Bool) (a:Act) (w:World),gG.size=ops.size→wu ops (fun j=>gG.getD j false)→left ops.size (fun j=>gG.getD j false)≤fuel→
   Inv L0 c0 n (ops.toList.filterMap (·.dst)) (nU ops tx ft (fun j=>gG.getD j false) ops.size) a w→wpAny P .any ops Q fuel gG a w:=by
 intro fuel
 have Nc:∀(gG:Array Bool) a w,gG.size=ops.size→Region.ready .any ops gG=[]→Inv L0 c0 n (ops.toList.filterMap (·.dst)) (nU ops tx ft (fun j=>gG.getD j false) ops.size) a w→Q .normal a w:=by
  intro gG a w hsz V4 hi
  have pc:∀k,k<ops.size→gG.getD k false=true:=by
   intro k
   induction k using Nat.strongRecOn with
   | _ k ih=>
    intro hk
    cases hl:gG.getD k false with
    | true=>rfl
    | false=>
     have:k∈Region.ready .any ops gG:=mem_ready.2 ⟨getD_in (by omega) hl,ops[k],by simp [hk],fun e he hb=>by
      have:=T.back k ops[k] (by simp [hk]) e he hb
      exact ih e.on this (by omega)⟩
     rw [V4] at this
     cases this
  rw [I1 (S:=fun j=>gG.getD j false) T pc _ (aiQ _)] at hi
  exact hQ a w hi
 induction fuel with
 | zero=>
  intro gG a w hsz hc hl hi
  have pc:=Lq (Nat.le_zero.1 hl)
  have V4:Region.ready .any ops gG=[]:=by
   rw [List.eq_nil_iff_forall_not_mem]
   intro j hj
   obtain⟨h1,o,ho,_⟩:=mem_ready.1 hj
   have W3:j<ops.size:=(ajt.1 ho).1
   have h2:=pc j W3
   have Hs:j<gG.size:=by omega
   simp [Hs] at h1 h2
   rw [h1] at h2; cases h2
  exact⟨V4,Nc gG a w hsz V4 hi⟩
 | succ fuel ih=>
  intro gG a w hsz hc hl hi
  refine⟨fun V4=>Nc gG a w hsz V4 hi,fun i wv=>?_⟩
  obtain⟨h1,o,ho,W4⟩:=mem_ready.1 wv
  have hin:i<ops.size:=(ajt.1 ho).1
  have Ht:i<gG.size:=by omega
  have WW:gG.getD i false=false:=by simp [Ht] at h1 ⊢; exact h1
  have Lp:∀k,(gG.setIfInBounds i true).getD k false=if k=i then true else gG.getD k false:=by
   intro k
   by_cases hk:k=i
   ·subst hk
    rw [if_pos rfl]
    simp [Ht]
   ·rw [if_neg hk,getD_set_ne false (Ne.symm hk)]
  have hst:=T.next (S:=fun j=>gG.getD j false) (S':=fun k=>(gG.setIfInBounds i true).getD k false) hc ho W4 WW Lp
  unfold wpOp
  rw [ho]
  simp only
  have W5:o∈ops.toList:=ajO.2 (Array.mem_of_getElem? ho)
  have:=ET (Q:=Q) (K:=wpAny P .any ops Q fuel (gG.setIfInBounds i true)) hcf hb0 rfl (EU EJ W5) hst hi (fun a' w' mZ=>by
   refine ih _ a' w' (by simpa using hsz) ?_ ?_ mZ
   ·intro j oj Z1 hj e he hb
    dsimp only at hj ⊢
    rw [Lp] at hj ⊢
    by_cases hji:j=i
    ·subst hji
     rw [ho] at Z1
     cases Z1
     have:=W4 e he hb
     rw [this]; simp
    ·rw [if_neg hji] at hj
     have:=hc j oj Z1 hj e he hb
     simp only at this
     rw [this]; simp
   ·have:=Nb hin (S:=fun j=>gG.getD j false) WW Lp
    omega)
  split
  ·rename_i hw; rw [if_pos hw] at this; exact .inl this
  ·rename_i hw; rw [if_neg hw] at this; exact this
theorem BS {opsL:List Oper}:∀(l:List Oper) (s r:RS) (es:List qW),uD P cf bb opsL s l=some (es,r)→∃tx:Nat→RS,tx 0=s∧tx l.length=r∧
  ∀k o,l[k]? = some o→∃w,kD opsL (tx k).ρ o=some w∧(if w then CL P cf bb (opsL.filterMap (·.dst)) (tx k) o=some (tx (k+1)) else tx (k+1)=(tx k).set o.dst (.tup []))∧
   es[k]? = some {o,f:=if w then bX bb (cZ (tx k).ρ) o else {},s:=tx k,s':=tx (k+1)}
 | [],s,r,es,h=>by
  simp only [uD,aiL,aiV] at h
  obtain⟨rfl,rfl⟩:=h
  exact⟨fun _=>s,rfl,rfl,fun k o ho=>by simp at ho⟩
 | o::l,s,r,es,h=>by
  simp only [uD,aiJ,aiK] at h
  obtain⟨w,hw,s1,h1,⟨xo,r'⟩,h2,h3⟩:=h
  simp only [aiV] at h3
  obtain⟨rfl,rfl⟩:=h3
  obtain⟨tx,t0,tn,ht⟩:=BS l s1 r' xo h2
  refine⟨fun | 0=>s | k+1=>tx k,rfl,tn,fun k o' ho=>?_⟩
  cases k with
  | zero=>
   simp only [ajx,aiL] at ho
   subst ho
   refine⟨w,hw,?_,?_⟩
   ·cases w with
    | true=>simpa [t0] using h1
    | false=>
     simp only [aiW,if_false,aiL] at h1 ⊢
     rw [t0]; exact h1.symm
   ·simp [t0]
  | succ k=>
   obtain⟨w',h4,h5,h6⟩:=ht k o' (by simpa using ho)
   exact⟨w',h4,h5,by simpa using h6⟩
theorem Nd {e:Operand→AV}{o:Oper}(h:(bX bb e o).al=true):(bX bb e o).wb.isSome=true:=by
 unfold bX at h ⊢
 split at h<;>try (cases h; done)
 all_goals (split at h<;>try (cases h; done))
 all_goals (split at h<;>try (cases h; done))
 all_goals simp_all
theorem Lr {k:Nat}{x:AV}(h:TF k x=false):∀off,x≠.lp k off:=by
 rintro off rfl
 simp [TF] at h
theorem E1 (hm:P.follows .mixedOrders=true)(hcf:CallOK P cf)(hsf:SteadyF cf):Hr P cf:=by
 intro L0 c0 n bb id ops s s' h hb0 EJ a w Q hi hQ
 unfold nt at h
 dsimp only at h
 split at h
 rotate_left
 ·cases h
 rename_i Db
 rw [aiJ] at h
 obtain⟨⟨es,r⟩,Hi,h⟩:=h
 simp only at h
 split at h
 rotate_left
 ·cases h
 rename_i E2
 cases h
 obtain⟨tx,t0,tn,ht⟩:=BS ops.toList s s' es Hi
 generalize Wu:mQ [] ops.toList=ms at Db E2
 have Z2:∀k i,(ms.getD i 0).testBit k=true→∃o,ops[i]? = some o∧∃e∈o.after,Region.binds .any e=true∧(e.on=k∨(ms.getD e.on 0).testBit k=true):=by
  intro k i hk
  obtain⟨o,ho,e,he,hb,h1⟩:=(xF ops.toList []).2 i k (by rw [Wu]; exact hk) (by simp)
  refine⟨o,by simpa using ho,e,ajO.1 he,hb,?_⟩
  rw [Wu] at h1
  exact h1
 unfold sI at Db
 simp only [aiM] at Db
 obtain⟨T3,Ng⟩:=Db
 let ft:Nat→oT:=fun k=>((es[k]?).map (·.f)).getD {}
 have zj:∀k o,ops[k]? = some o→∃w,kD ops.toList (tx k).ρ o=some w∧(if w then CL P cf bb (ops.toList.filterMap (·.dst)) (tx k) o=some (tx (k+1)) else tx (k+1)=(tx k).set o.dst (.tup []))∧
   es[k]? = some {o,f:=ft k,s:=tx k,s':=tx (k+1)}∧ft k=if w then bX bb (cZ (tx k).ρ) o else {}:=by
  intro k o ho
  obtain⟨w,h1,h2,h3⟩:=ht k o (by simpa using ho)
  have V3:ft k=if w then bX bb (cZ (tx k).ρ) o else {}:=by simp only [ft,h3,aiR,ajR]
  exact⟨w,h1,h2,by rw [V3]; exact h3,V3⟩
 have wv:∀k o,ops[k]? = some o→((⟨o,ft k,tx k,tx (k+1)⟩:qW),k)∈es.zipIdx:=by
  intro k o ho
  obtain⟨w,_,_,h3,_⟩:=zj k o ho
  exact List.mk_mem_zipIdx_iff_getElem?.2 h3
 simp only [ajd,aj1,aiM] at E2
 have xq:∀k o,ops[k]? = some o→(ft k).quiet=false→(((⟨o,ft k,tx k,tx (k+1)⟩:qW),k)∈es.zipIdx∧(!(ft k).quiet)=true):=fun k o ho hq=>⟨wv k o ho,by rw [hq]; rfl⟩
 have IF:∀k,k<ops.size→ops[k]? = some ops[k]!:=fun k hk=>by simp [hk]
 have T4:∀i j x y,ops[i]? = some x→ops[j]? = some y→i≠j→(ft i).quiet=false→(ft j).quiet=false→(ms.getD j 0).testBit i=true∨(ms.getD i 0).testBit j=true∨
   qW.mP ⟨x,ft i,tx i,tx (i+1)⟩ ⟨y,ft j,tx j,tx (j+1)⟩=true:=by
  intro i j x y hx hy Er Qg Qh
  rcases Nat.lt_or_ge i j with hlt | hge
  ·have:=(E2 _ (xq i x hx Qg)).2 _ (xq j y hy Qh)
   simp only [ajE,aiM] at this
   rcases this with (h1 | h1) | h1
   ·have:=Nat.le_of_ble_eq_true h1; omega
   ·exact .inl h1
   ·exact .inr (.inr h1.1)
  ·have:=(E2 _ (xq j y hy Qh)).2 _ (xq i x hx Qg)
   simp only [ajE,aiM] at this
   rcases this with (h1 | h1) | h1
   ·have:=Nat.le_of_ble_eq_true h1; omega
   ·exact .inr (.inl h1)
   ·exact .inr (.inr h1.2)
 have Z5:∀id,(tx 0).h.ver id<(tx 0).h.next:=by
  obtain⟨_,c,Lo,lam,_,f,_⟩:=hi
  rw [t0,←f.h]; exact f.rel.ver
 have hst:∀k,k<ops.size→Steady (tx k).h (tx (k+1)).h:=by
  intro k hk
  obtain⟨w,h1,h2,_⟩:=zj k _ (IF k hk)
  cases w with
  | true=>exact zx hsf (by simpa [CL] using h2)
  | false=>
   simp only [aiW,if_false] at h2
   rw [h2,mE]; exact Steady.refl _
 have Y9:∀k,k≤ops.size→∀id,(tx k).h.ver id<(tx k).h.next:=by
  intro k
  induction k with
  | zero=>intro _; exact Z5
  | succ k ih=>intro hk; exact (hst k (by omega)).wf (ih (by omega))
 have T:zy P cf bb ops tx ft (fun k i=>(ms.getD i 0).testBit k=true):=by
  refine⟨fun k o ho=>?_,Z2,fun i o ho e he hb=>?_,fun i j x y Er hx hy=>?_,fun i j hin W3 Er=>?_,fun i o d ho tS hd=>?_⟩
  ·obtain⟨w,h1,h2,h3,h4⟩:=zj k o ho
   refine⟨w,h1,?_⟩
   cases w with
   | true=>exact⟨h2,h4⟩
   | false=>exact⟨h2,h4⟩
  ·have:=uP _ 0 T3 i o (by simpa using ho) e (ajO.2 he) hb
   omega
  ·have ux:∀x y:Oper,CM ops x y=true→∀d,x.dst=some d→d∉y.looksAt ops∧y.dst≠some d:=by
    intro x y h d hd
    unfold CM at h
    rw [hd] at h
    simpa using h
   rcases Nat.lt_or_ge i j with hlt | hge
   ·have:=oE _ _ 0 Ng i j x y hlt (by simpa using hx) (by simpa using hy)
    simp only [ajf,ajE,aiM] at this
    rcases this with h1 | h1
    ·exact .inl h1
    ·exact .inr (.inr (ux _ _ h1.1))
   ·have:=oE _ _ 0 Ng j i y x (by omega) (by simpa using hy) (by simpa using hx)
    simp only [ajf,ajE,aiM] at this
    rcases this with h1 | h1
    ·exact .inr (.inl h1)
    ·exact .inr (.inr (ux _ _ h1.2))
  ·cases Qg:(ft i).quiet with
   | true=>
    unfold oT.quiet at Qg
    simp only [aiM,Option.isNone_iff_eq_none,ajX] at Qg
    exact .inr (.inr ⟨fun k hk=>(by rw [Qg.1.1.2] at hk; cases hk),fun hk=>(by rw [Qg.2] at hk; cases hk)⟩)
   | false=>
    cases Qh:(ft j).quiet with
    | true=>
     unfold oT.quiet at Qh
     simp only [aiM,Option.isNone_iff_eq_none,ajX,List.isEmpty_iff] at Qh
     obtain⟨⟨⟨q1,q2⟩,q3⟩,q4⟩:=Qh
     exact .inr (.inr ⟨fun k hk=>⟨by rw [q1]; simp,by rw [q2]; simp⟩,fun hk=>⟨q4,by rw [q3]; simp⟩⟩)
    | false=>
     rcases T4 i j _ _ (IF i hin) (IF j W3) Er Qg Qh with h1 | h1 | h1
     ·exact .inl h1
     ·exact .inr (.inl h1)
     ·refine .inr (.inr ?_)
      unfold qW.mP at h1
      simp only [aiM,ajE,ajX,ajd] at h1
      obtain⟨h2,h3⟩:=h1
      refine⟨fun k hk=>?_,fun hk=>?_⟩
      ·rw [hk] at h2
       simpa using h2
      ·rcases h3 with h3 | h3
       ·rw [hk] at h3; cases h3
       ·refine⟨h3.1,fun id hid=>?_⟩
        have hv:=aj2 (h3.2 id hid)
        rcases (hst i hin).keep id with⟨_,h5⟩| h5
        ·exact h5.symm
        ·have:=Y9 i (by omega) id; omega
  ·obtain⟨w,h1,h2,h3,h4⟩:=zj i o ho
   have hq:(ft i).quiet=false:=by
    cases w with
    | false=>rw [h4] at tS; cases tS
    | true=>
     rw [h4] at tS ⊢
     have:=Nd tS
     unfold oT.quiet
     simp only [if_true] at this ⊢
     cases hwb:(bX bb (cZ (tx i).ρ) o).wb with
     | none=>rw [hwb] at this; cases this
     | some k=>simp
   have:=(E2 _ (xq i o ho hq)).1
   unfold yJ at this
   simp only [tS,hd] at this
   simp only [aiM,ajd,ajE] at this
   obtain⟨k1,k2⟩:=this
   refine⟨fun t ht SE off=>?_,fun j y t hy hji=>?_⟩
   ·rw [t0]
    exact we k1 t (by rw [aj1]; exact⟨ht,by simpa [beq_nat] using SE⟩) off
   ·have:=k2 _ (wv j y hy)
    rcases this with (h5 | h5) | h5
    ·have:=aj2 h5; omega
    ·exact .inl h5
    ·right
     intro TY off
     simp only [qW.out,TY,ajX] at h5
     exact Lr h5 off
 have hlen:tx ops.size=s':=by simpa using tn
 refine wp_region_any hm ?_
 refine T0 T hcf hb0 EJ (fun a' w' mZ=>hQ a' w' (by rw [hlen] at mZ; exact mZ)) ops.size _ _ _ (by simp) ?_ ?_ ?_
 ·intro j o _ hj
  simp only [getD_replicate_false] at hj
  cases hj
 ·unfold left
  exact ajF (List.countP_le_length) (by simp)
 ·have MS:∀k,nU ops tx ft (fun j=>(Array.replicate ops.size false).getD j false) k=tx 0:=by
   intro k
   induction k with
   | zero=>rfl
   | succ k ih=>
    rw [nU,getD_replicate_false,if_neg (by simp)]
    exact ih
  rw [MS,t0]
  exact hi.drew
end
end Go.R
namespace Go.R
open Go
section
variable {c d:Cx}{L L':Nat→Prop}
mutual
theorem I2 (hw:d.w=c.w)(hbs:d.base≤c.base)(pD:∀b,RO c L b→RO d L' b):∀(x:AV) (v:Value),x.gN=true→VR c L x v→VR d L' x v
 | .any,_,h,_=>by simp [AV.gN] at h
 | .bool _,_,_,h=>h
 | .int _ _,_,_,h=>h
 | .str _,_,_,h=>h
 | .sX,_,_,h=>h
 | .ptr _ _,_,h,_=>by simp [AV.gN] at h
 | .lp _ _,_,h,_=>by simp [AV.gN] at h
 | .fp cs off,v,h,hv=>by
  simp only [AV.gN] at h
  simp only [VR] at hv ⊢
  obtain⟨b,o,rfl,hc⟩:=hv
  exact⟨b,o,rfl,hc.imp id fun ⟨hr,hc⟩=>⟨pD b hr,tT hw hbs pD cs b o h hc⟩⟩
 | .nils,_,_,h=>h
 | .fz cs n ex,v,h,hv=>by
  simp only [AV.gN] at h
  simp only [VR] at hv ⊢
  obtain⟨a,cap,rfl,h1,h2,hs,hc⟩:=hv
  exact⟨a,cap,rfl,h1,h2,hs,hc.imp id fun ⟨b,o,ha,hr,hex,hc⟩=>⟨b,o,ha,pD b hr,fun h=>ajF hbs (hex h),tT hw hbs pD cs b o h hc⟩⟩
 | .rs _ _ _ _,_,h,_=>by simp [AV.gN] at h
 | .qV,_,_,h=>h
 | .mp _,_,h,_=>by simp [AV.gN] at h
 | .fn f cap,v,h,hv=>by
  simp only [AV.gN] at h
  simp only [VR] at hv ⊢
  obtain⟨vs,rfl,h1⟩:=hv
  exact⟨vs,rfl,uS hw hbs pD cap vs.toList h h1⟩
 | .uA,_,_,h=>h
 | .agg cs,v,h,hv=>by
  simp only [AV.gN] at h
  simp only [VR] at hv ⊢
  obtain⟨vs,rfl,h1⟩:=hv
  exact⟨vs,rfl,uS hw hbs pD cs vs.toList h h1⟩
 | .tup cs,v,h,hv=>by
  simp only [AV.gN] at h
  simp only [VR] at hv ⊢
  obtain⟨vs,rfl,h1⟩:=hv
  exact⟨vs,rfl,uS hw hbs pD cs vs.toList h h1⟩
theorem uS (hw:d.w=c.w)(hbs:d.base≤c.base)(pD:∀b,RO c L b→RO d L' b):∀(xs:List AV) (vs:List Value),eL xs=true→VRs c L xs vs→VRs d L' xs vs
 | [],[],_,_=>trivial
 | x::xs,v::vs,h,hv=>by
  simp only [eL,aiM] at h
  exact⟨I2 hw hbs pD x v h.1 hv.1,uS hw hbs pD xs vs h.2 hv.2⟩
 | [],_::_,_,h=>h.elim
 | _::_,[],_,h=>h.elim
theorem tT (hw:d.w=c.w)(hbs:d.base≤c.base)(pD:∀b,RO c L b→RO d L' b):∀(xs:List AV) (b o:Nat),eL xs=true→Cells c L xs b o→Cells d L' xs b o
 | [],_,_,_,_=>trivial
 | x::xs,b,o,h,hv=>by
  simp only [eL,aiM] at h
  obtain⟨⟨v,h1,h2,h3⟩,h4⟩:=hv
  exact⟨⟨v,by rw [hw]; exact h1,h2,I2 hw hbs pD x v h.1 h3⟩,tT hw hbs pD xs b (o+1) h.2 h4⟩
end
mutual
theorem Dc (hw:d.w=c.w)(pD:∀b,RO c L b→RO d L' b):∀(x:AV) (v:Value),x.gN=true→VR c L x v→VR d L' x.mO v
 | .any,_,h,_=>by simp [AV.gN] at h
 | .bool _,_,_,h=>h
 | .int _ _,_,_,h=>h
 | .str _,_,_,h=>h
 | .sX,_,_,h=>h
 | .ptr _ _,_,h,_=>by simp [AV.gN] at h
 | .lp _ _,_,h,_=>by simp [AV.gN] at h
 | .fp cs off,v,h,hv=>by
  simp only [AV.gN] at h
  simp only [VR,AV.mO] at hv ⊢
  obtain⟨b,o,rfl,hc⟩:=hv
  refine⟨b,o,rfl,?_⟩
  rcases hc with rfl | ⟨hr,hc⟩
  ·exact .inl rfl
  ·exact .inr ⟨pD b hr,wz hw pD cs b o h hc⟩
 | .nils,v,_,h=>by
  simp only [VR] at h
  simp only [AV.mO,VR]
  exact⟨none,0,h,aiQ _,by simp,.inr ⟨trivial,rfl⟩,.inl trivial⟩
 | .fz cs n ex,v,h,hv=>by
  simp only [AV.gN] at h
  simp only [VR,AV.mO] at hv ⊢
  obtain⟨a,cap,rfl,h1,h2,hs,hc⟩:=hv
  refine⟨a,cap,rfl,h1,by simp,hs.imp id fun h=>⟨by rw [h.1]; rfl,h.2⟩,?_⟩
  rcases hc with rfl | ⟨b,o,ha,hr,hex,hc⟩
  ·exact .inl rfl
  ·exact .inr ⟨b,o,ha,pD b hr,by simp,wz hw pD cs b o h hc⟩
 | .rs _ _ _ _,_,h,_=>by simp [AV.gN] at h
 | .qV,_,_,h=>h
 | .mp _,_,h,_=>by simp [AV.gN] at h
 | .fn f cap,v,h,hv=>by
  simp only [AV.gN] at h
  simp only [VR,AV.mO] at hv ⊢
  obtain⟨vs,rfl,h1⟩:=hv
  exact⟨vs,rfl,uT hw pD cap vs.toList h h1⟩
 | .uA,_,_,h=>h
 | .agg cs,v,h,hv=>by
  simp only [AV.gN] at h
  simp only [VR,AV.mO] at hv ⊢
  obtain⟨vs,rfl,h1⟩:=hv
  exact⟨vs,rfl,uT hw pD cs vs.toList h h1⟩
 | .tup cs,v,h,hv=>by
  simp only [AV.gN] at h
  simp only [VR,AV.mO] at hv ⊢
  obtain⟨vs,rfl,h1⟩:=hv
  exact⟨vs,rfl,uT hw pD cs vs.toList h h1⟩
theorem uT (hw:d.w=c.w)(pD:∀b,RO c L b→RO d L' b):∀(xs:List AV) (vs:List Value),eL xs=true→VRs c L xs vs→VRs d L' (fG xs) vs
 | [],[],_,_=>trivial
 | x::xs,v::vs,h,hv=>by
  simp only [eL,aiM] at h
  exact⟨Dc hw pD x v h.1 hv.1,uT hw pD xs vs h.2 hv.2⟩
 | [],_::_,_,h=>h.elim
 | _::_,[],_,h=>h.elim
theorem wz (hw:d.w=c.w)(pD:∀b,RO c L b→RO d L' b):∀(xs:List AV) (b o:Nat),eL xs=true→Cells c L xs b o→Cells d L' (fG xs) b o
 | [],_,_,_,_=>trivial
 | x::xs,b,o,h,hv=>by
  simp only [eL,aiM] at h
  obtain⟨⟨v,h1,h2,h3⟩,h4⟩:=hv
  exact⟨⟨v,by rw [hw]; exact h1,h2,Dc hw pD x v h.1 h3⟩,wz hw pD xs b (o+1) h.2 h4⟩
end
mutual
theorem wA (hw:d.w=c.w)(pD:∀b,RO c L b→RO d L' b)(hrel:HRel c L)(hid:∀id,Live c.h id→RO d L' (c.β id).1):∀(n:Nat) (x y:AV) (v:Value),dk c.h n x=some y→VR c L x v→VR d L' y v
 | 0,x,y,v,h,_=>by simp [dk] at h
 | n+1,x,y,v,h,hv=>by
  have Z6:(if x.gN then some x.mO else none)=some y→VR d L' y v:=by
   intro h
   split at h
   ·rename_i hn; cases h; exact Dc hw pD x v hn hv
   ·cases h
  cases x with
  | ptr id off=>
   simp only [dk,aiJ] at h
   obtain⟨ob,ho,h⟩:=h
   cases ob with
   | map es=>cases h
   | row t cs=>cases h
   | cells cs=>
    simp only [aiK] at h
    obtain⟨iO,hcs,rfl⟩:=h
    have hl:Live c.h id:=⟨hrel.lt _ _ ho,by simp [ho]⟩
    obtain⟨m,_,_,hc⟩:=hrel.obj _ _ ho
    simp only [VR] at hv ⊢
    obtain⟨_,a,rfl,ha⟩:=hv
    rw [ha hl]
    exact⟨_,_,rfl,.inr ⟨hid id hl,nC hw pD hrel hid n cs iO _ _ hcs hc⟩⟩
  | rs id off len lq=>
   simp only [dk] at h
   split at h
   ·rename_i hid
    split at h
    rotate_left
    ·cases h
    rename_i hl0
    cases h
    simp only [VR] at hv ⊢
    rcases hv with⟨_,_,_,a,rfl⟩| hv
    ·exact⟨a,0,rfl,aiQ _,by simp,.inr ⟨trivial,rfl⟩,.inl trivial⟩
    ·exact absurd hid hv.1
   rename_i nV
   rw [aiJ] at h
   obtain⟨ob,ho,h⟩:=h
   cases ob with
   | map es=>cases h
   | row t cs=>cases h
   | cells cs=>
    simp only at h
    split at h
    rotate_left
    ·cases h
    rename_i hle
    simp only [aiK] at h
    obtain⟨iO,hcs,rfl⟩:=h
    have hl:Live c.h id:=⟨hrel.lt _ _ ho,by simp [ho]⟩
    obtain⟨m,_,_,hc⟩:=hrel.obj _ _ ho
    simp only [VR] at hv ⊢
    rcases hv with hv | ⟨_,_,a,cap,rfl,h1,h2,h3⟩
    ·exact absurd hv.1 nV
    refine⟨a,cap,rfl,h1,by simp,.inl h2,?_⟩
    rcases h3 hl with⟨h4,_⟩| h4
    ·exact .inr ⟨_,_,h4,hid id hl,by simp,nC hw pD hrel hid n _ iO _ _ hcs ((hc.drop off).take (len*lq))⟩
    ·left
     have hz:len=0:=by omega
     subst hz
     rw [Nat.zero_mul,List.take_zero] at hcs
     cases n with
     | zero=>simp [b6] at hcs
     | succ n=>simp only [b6,aiL] at hcs; exact hcs.symm
  | agg cs=>
   simp only [dk,aiK] at h
   obtain⟨iO,hcs,rfl⟩:=h
   simp only [VR] at hv ⊢
   obtain⟨vs,rfl,h1⟩:=hv
   exact⟨vs,rfl,lB hw pD hrel hid n cs iO vs.toList hcs h1⟩
  | tup cs=>
   simp only [dk,aiK] at h
   obtain⟨iO,hcs,rfl⟩:=h
   simp only [VR] at hv ⊢
   obtain⟨vs,rfl,h1⟩:=hv
   exact⟨vs,rfl,lB hw pD hrel hid n cs iO vs.toList hcs h1⟩
  | fn f cs=>
   simp only [dk,aiK] at h
   obtain⟨iO,hcs,rfl⟩:=h
   simp only [VR] at hv ⊢
   obtain⟨vs,rfl,h1⟩:=hv
   exact⟨vs,rfl,lB hw pD hrel hid n cs iO vs.toList hcs h1⟩
  | _=>exact Z6 (by simpa only [dk] using h)
theorem lB (hw:d.w=c.w)(pD:∀b,RO c L b→RO d L' b)(hrel:HRel c L)(hid:∀id,Live c.h id→RO d L' (c.β id).1):∀(n:Nat) (xs ys:List AV) (vs:List Value),b6 c.h n xs=some ys→VRs c L xs vs→VRs d L' ys vs
 | 0,xs,ys,vs,h,_=>by simp [b6] at h
 | n+1,[],ys,vs,h,hv=>by
  simp only [b6,aiL] at h
  subst h
  cases vs with
  | nil=>trivial
  | cons v vs=>exact hv.elim
 | n+1,x::xs,ys,vs,h,hv=>by
  simp only [b6,aiJ,aiK] at h
  obtain⟨y,hy,zs,hz,rfl⟩:=h
  cases vs with
  | nil=>exact hv.elim
  | cons v vs=>exact⟨wA hw pD hrel hid n x y v hy hv.1,lB hw pD hrel hid n xs zs vs hz hv.2⟩
theorem nC (hw:d.w=c.w)(pD:∀b,RO c L b→RO d L' b)(hrel:HRel c L)(hid:∀id,Live c.h id→RO d L' (c.β id).1):∀(n:Nat) (xs ys:List AV) (b o:Nat),b6 c.h n xs=some ys→Cells c L xs b o→Cells d L' ys b o
 | 0,xs,ys,b,o,h,_=>by simp [b6] at h
 | n+1,[],ys,b,o,h,hv=>by
  simp only [b6,aiL] at h
  subst h
  trivial
 | n+1,x::xs,ys,b,o,h,hv=>by
  simp only [b6,aiJ,aiK] at h
  obtain⟨y,hy,zs,hz,rfl⟩:=h
  obtain⟨⟨v,h1,h2,h3⟩,h4⟩:=hv
  exact⟨⟨v,by rw [hw]; exact h1,h2,wA hw pD hrel hid n x y v hy h3⟩,nC hw pD hrel hid n xs zs b (o+1) hz h4⟩
end
mutual
theorem tU (hw:d.w=c.w)(hrel:HRel c L)(hid:∀id,Live c.h id→RO d L' (c.β id).1):∀(n:Nat) (x y:AV) (v:Value),jO c.h n x=some y→VR c L x v→VR d L' y v
 | 0,x,y,v,h,_=>by simp [jO] at h
 | n+1,x,y,v,h,hv=>by
  unfold jO at h
  split at h
  ·cases h; exact hv
  ·cases h; exact hv
  ·cases h; exact hv
  ·cases h; exact hv
  ·cases h; exact hv
  ·cases h; exact hv
  ·cases h
   simp only [VR] at hv ⊢
   exact⟨none,0,hv,aiQ _,by simp,.inr ⟨trivial,rfl⟩,.inl trivial⟩
  ·cases h
   simp only [VR] at hv ⊢
   obtain⟨a,cap,rfl,h1,h2,hs,_⟩:=hv
   exact⟨a,cap,rfl,h1,by simp,hs,.inl trivial⟩
  ·rename_i id off len lq
   split at h
   ·rename_i nV
    split at h
    rotate_left
    ·cases h
    rename_i hl0
    cases h
    simp only [VR] at hv ⊢
    rcases hv with⟨_,_,_,a,rfl⟩| hv
    ·exact⟨a,0,rfl,aiQ _,by simp,.inr ⟨trivial,rfl⟩,.inl trivial⟩
    ·exact absurd nV hv.1
   rename_i nV
   rw [aiJ] at h
   obtain⟨ob,ho,h⟩:=h
   cases ob with
   | map es=>cases h
   | row t cs=>cases h
   | cells cs=>
    simp only at h
    split at h
    rotate_left
    ·cases h
    rename_i hle
    simp only [aiK] at h
    obtain⟨iO,hcs,rfl⟩:=h
    have hl:Live c.h id:=⟨hrel.lt _ _ ho,by simp [ho]⟩
    obtain⟨m,_,_,hc⟩:=hrel.obj _ _ ho
    simp only [VR] at hv ⊢
    rcases hv with hv | ⟨_,_,a,cap,rfl,h1,h2,h3⟩
    ·exact absurd hv.1 nV
    refine⟨a,cap,rfl,h1,by simp,.inl h2,?_⟩
    rcases h3 hl with⟨h4,_⟩| h4
    ·exact .inr ⟨_,_,h4,hid id hl,by simp,qN hw hrel hid n _ iO _ _ hcs ((hc.drop off).take (len*lq))⟩
    ·left
     have hz:len=0:=by omega
     subst hz
     rw [Nat.zero_mul,List.take_zero] at hcs
     cases n with
     | zero=>simp [fu] at hcs
     | succ n=>simp only [fu,aiL] at hcs; exact hcs.symm
  ·rename_i cs
   simp only [aiK] at h
   obtain⟨iO,hcs,rfl⟩:=h
   simp only [VR] at hv ⊢
   obtain⟨vs,rfl,h1⟩:=hv
   exact⟨vs,rfl,rT hw hrel hid n cs iO vs.toList hcs h1⟩
  ·rename_i cs
   simp only [aiK] at h
   obtain⟨iO,hcs,rfl⟩:=h
   simp only [VR] at hv ⊢
   obtain⟨vs,rfl,h1⟩:=hv
   exact⟨vs,rfl,rT hw hrel hid n cs iO vs.toList hcs h1⟩
  ·cases h
theorem rT (hw:d.w=c.w)(hrel:HRel c L)(hid:∀id,Live c.h id→RO d L' (c.β id).1):∀(n:Nat) (xs ys:List AV) (vs:List Value),fu c.h n xs=some ys→VRs c L xs vs→VRs d L' ys vs
 | 0,xs,ys,vs,h,_=>by simp [fu] at h
 | n+1,[],ys,vs,h,hv=>by
  simp only [fu,aiL] at h
  subst h
  cases vs with
  | nil=>trivial
  | cons v vs=>exact hv.elim
 | n+1,x::xs,ys,vs,h,hv=>by
  simp only [fu,aiJ,aiK] at h
  obtain⟨y,hy,zs,hz,rfl⟩:=h
  cases vs with
  | nil=>exact hv.elim
  | cons v vs=>exact⟨tU hw hrel hid n x y v hy hv.1,rT hw hrel hid n xs zs vs hz hv.2⟩
theorem qN (hw:d.w=c.w)(hrel:HRel c L)(hid:∀id,Live c.h id→RO d L' (c.β id).1):∀(n:Nat) (xs ys:List AV) (b o:Nat),fu c.h n xs=some ys→Cells c L xs b o→Cells d L' ys b o
 | 0,xs,ys,b,o,h,_=>by simp [fu] at h
 | n+1,[],ys,b,o,h,hv=>by
  simp only [fu,aiL] at h
  subst h
  trivial
 | n+1,x::xs,ys,b,o,h,hv=>by
  simp only [fu,aiJ,aiK] at h
  obtain⟨y,hy,zs,hz,rfl⟩:=h
  obtain⟨⟨v,h1,h2,h3⟩,h4⟩:=hv
  exact⟨⟨v,by rw [hw]; exact h1,h2,tU hw hrel hid n x y v hy h3⟩,qN hw hrel hid n xs zs b (o+1) hz h4⟩
end
end
section
variable {P:Program}
theorem QL {cf:CallF}(hcf:CallOK P cf)(deep:Nat):CallOK P fun f args h=>if eL args then (cf f (fG args) bH).bind fun x=>(dk x.2 deep x.1).map fun r=>(r,h) else cf f args h:=by
 intro f args h r h' hc
 dsimp only at hc
 split at hc
 rotate_left
 ·exact hcf f args h r h' hc
 rename_i yM
 rw [aiJ] at hc
 obtain⟨⟨x,h1⟩,hx,hc⟩:=hc
 rw [aiK] at hc
 obtain⟨r',hr,he⟩:=hc
 simp only [aiV] at he
 obtain⟨rfl,rfl⟩:=he
 obtain⟨hin,hcall⟩:=hcf f (fG args) bH x h1 hx
 refine⟨hin,fun L0 c vs hh hb0 hrel hargs=>?_⟩
 let L1:Nat→Prop:=fun b=>L0 b∨∃id,Live c.h id∧(c.β id).1=b
 let c0:Cx:=⟨fun _=>(0,0),bH,c.w,c.w.heap.size⟩
 have hnl:∀id,¬Live c0.h id:=fun id hl=>by have:=hl.2; cases this
 have Nh:∀b,RO c L0 b→RO c0 L1 b:=fun b hb=>⟨fun id hl=>absurd hl (hnl id),fun h=>by
  rcases h with h | ⟨id,h1,h2⟩
  ·exact hb.2 h
  ·exact hb.1 id h1 h2⟩
 have zA:HRel c0 L1:=⟨fun id o ho=>(by cases ho),fun id o ho=>(by cases ho),fun id _ hl _ _=>absurd hl (hnl id),fun id hl=>absurd hl (hnl id),fun b hb=>by
  rcases hb with h | ⟨id,h1,h2⟩
  ·exact hrel.bd b h
  ·rw [←h2]; exact hrel.block h1,fun id hl=>absurd hl (hnl id),fun _=>akp⟩
 refine (hcall L1 c0 vs rfl (aiQ _) zA (uT (c:=c) (d:=c0) rfl Nh _ _ yM hargs)).mono ?_
 rintro e w' ⟨c1,v,rfl,rfl,V5,hv,hrel1,e1⟩
 let d:Cx:=⟨c.β,c.h,c1.w,c.base⟩
 have hk:∀b,b<c.w.heap.size→c1.w.heap[b]? = c.w.heap[b]?:=fun b hb=>e1.exact b hb
 have ed:Ext c none0 d none0:=⟨aiQ _,fun id _ hl=>⟨hl,rfl,kR.len (c:=c) (c':=d) (.inl (hk _ (hrel.block hl)))⟩,e1.size,fun b hb _ _=>.inl (hk b hb),fun b hb=>hk b (ajk hb hb0),rfl,fun id hl=>.inr ⟨id,hl,rfl⟩,fun _ h=>h,fun _ h=>.inl h,e1.os,e1.tape,e1.output⟩
 have hb1:d.base≤c1.base:=by rw [e1.base]; exact hb0
 have Z7:∀b,RO c1 L1 b→RO d L0 b:=fun b hb=>⟨fun id hl he=>hb.2 (.inr ⟨id,hl,he⟩),fun h=>hb.2 (.inl h)⟩
 refine⟨d,v,rfl,rfl,hh,?_,⟨hrel.lt,fun id o ho=>?_,hrel.inj,hrel.out,fun b hb=>ajk (hrel.bd b hb) e1.size,hrel.low,hrel.ver⟩,ed⟩
 ·refine wA (c:=c1) (d:=d) (L:=L1) rfl Z7 hrel1 (fun id hl=>⟨fun oC tk he=>hrel1.out id hl (.inr ⟨oC,tk,he⟩),fun h=>hrel1.out id hl (.inl h)⟩) deep x r' v ?_ hv
  rw [V5]; exact hr
 ·have hl:Live c.h id:=⟨hrel.lt _ _ ho,by rw [ho]; rfl⟩
  have:=(hrel.obj id o ho)
  have h2:=uE.ext (L0:=L0) ed (b:=(c.β id).1) (base:=(c.β id).2) (o:=o) (by rw [kU]; exact this) (hk _ (hrel.block hl))
  rw [kU] at h2
  exact h2
theorem uU {c:Cx}{L:Nat→Prop}:∀{xs:List AV} {vs:List Value},VRs c L xs vs→VRs c L (xs.map ba) vs
 | [],[],_=>trivial
 | x::_,_::_,h=>⟨by
   unfold ba
   cases hn:x.gN with
   | false=>exact h.1
   | true=>exact Dc rfl (fun _ h=>h) x _ hn h.1,uU h.2⟩
 | [],_::_,h=>h.elim
 | _::_,[],h=>h.elim
theorem E3 {cf:CallF}(hcf:CallOK P cf):CallOK P fun f args h=>cf f (args.map ba) h:=by
 intro f args h r h' hc
 obtain⟨h1,h2⟩:=hcf f _ h r h' hc
 exact⟨h1,fun L0 c vs hh hb0 hrel hargs=>h2 L0 c vs hh hb0 hrel (uU hargs)⟩
theorem QM {cf:CallF}(hcf:CallOK P cf)(deep:Nat):CallOK P fun f args h=>(b6 h deep args).bind fun as=>(cf f as bH).bind fun x=>(jO x.2 deep x.1).map fun r=>(r,h):=by
 intro f args h r h' hc
 dsimp only at hc
 simp only [aiJ,aiK,aiV] at hc
 obtain⟨as,has,⟨x,h1⟩,hx,r',hr,rfl,rfl⟩:=hc
 obtain⟨hin,hcall⟩:=hcf f as bH x h1 hx
 refine⟨hin,fun L0 c vs hh hb0 hrel hargs=>?_⟩
 let c0:Cx:=⟨fun _=>(0,0),bH,c.w,c.w.heap.size⟩
 have hnl:∀id,¬Live c0.h id:=fun id hl=>by have:=hl.2; cases this
 have Nh:∀b,RO c L0 b→RO c0 L0 b:=fun b hb=>⟨fun id hl=>absurd hl (hnl id),hb.2⟩
 have zA:HRel c0 L0:=⟨fun id o ho=>(by cases ho),fun id o ho=>(by cases ho),fun id _ hl _ _=>absurd hl (hnl id),fun id hl=>absurd hl (hnl id),hrel.bd,fun id hl=>absurd hl (hnl id),fun _=>akp⟩
 have zB:VRs c0 L0 as vs:=lB (c:=c) (d:=c0) rfl Nh hrel (fun id hl=>⟨fun oC tk=>absurd tk (hnl oC),hrel.out id hl⟩) deep args as vs (by rw [hh]; exact has) hargs
 refine (hcall L0 c0 vs rfl (aiQ _) zA zB).mono ?_
 rintro e w' ⟨c1,v,rfl,rfl,V5,hv,hrel1,e1⟩
 let d:Cx:=⟨c.β,c.h,c1.w,c.base⟩
 have hk:∀b,b<c.w.heap.size→c1.w.heap[b]? = c.w.heap[b]?:=fun b hb=>e1.exact b hb
 have ed:Ext c none0 d none0:=⟨aiQ _,fun id _ hl=>⟨hl,rfl,kR.len (c:=c) (c':=d) (.inl (hk _ (hrel.block hl)))⟩,e1.size,fun b hb _ _=>.inl (hk b hb),fun b hb=>hk b (ajk hb hb0),rfl,fun id hl=>.inr ⟨id,hl,rfl⟩,fun _ h=>h,fun _ h=>.inl h,e1.os,e1.tape,e1.output⟩
 refine⟨d,v,rfl,rfl,hh,?_,⟨hrel.lt,fun id o ho=>?_,hrel.inj,hrel.out,fun b hb=>ajk (hrel.bd b hb) e1.size,hrel.low,hrel.ver⟩,ed⟩
 ·refine tU (c:=c1) (d:=d) (L:=L0) rfl hrel1 (fun id hl=>⟨fun oC tk he=>?_,hrel1.out id hl⟩) deep x r' v ?_ hv
  ·rcases e1.Qt id hl with h2 | ⟨vV,h2,_⟩
   ·have:=hrel.block tk
    have h3:(c.β oC).1=(c1.β id).1:=he
    have h4:c.w.heap.size≤(c1.β id).1:=h2
    omega
   ·exact absurd h2 (hnl vV)
  ·rw [V5]; exact hr
 ·have hl:Live c.h id:=⟨hrel.lt _ _ ho,by rw [ho]; rfl⟩
  have:=(hrel.obj id o ho)
  have h2:=uE.ext (L0:=L0) ed (b:=(c.β id).1) (base:=(c.β id).2) (o:=o) (by rw [kU]; exact this) (hk _ (hrel.block hl))
  rw [kU] at h2
  exact h2
section
variable {c1 d:Cx}{L1:Nat→Prop}{k:Nat}
mutual
theorem zC (hw:d.w=c1.w)(hn:∀id,id<c1.h.next→id+k<d.h.next)(hl:∀id,Live d.h (id+k)→Live c1.h id∧d.β (id+k)=c1.β id):∀(x y:AV) (v:Value),eY k x=some y→VR c1 L1 x v→VR d L1 y v
 | .any,_,_,h,_=>by simp [eY] at h
 | .bool _,_,_,h,hv=>by simp only [eY,aiL] at h; subst h; exact hv
 | .int _ _,_,_,h,hv=>by simp only [eY,aiL] at h; subst h; exact hv
 | .str _,_,_,h,hv=>by simp only [eY,aiL] at h; subst h; exact hv
 | .sX,_,_,h,hv=>by simp only [eY,aiL] at h; subst h; exact hv
 | .qV,_,_,h,hv=>by simp only [eY,aiL] at h; subst h; exact hv
 | .uA,_,_,h,hv=>by simp only [eY,aiL] at h; subst h; exact hv
 | .nils,_,_,h,hv=>by simp only [eY,aiL] at h; subst h; exact hv
 | .ptr id off,_,_,h,hv=>by
  simp only [eY,aiL] at h
  subst h
  simp only [VR] at hv ⊢
  obtain⟨h1,a,rfl,h2⟩:=hv
  refine⟨hn _ h1,a,rfl,fun oQ=>?_⟩
  obtain⟨g1,g2⟩:=hl _ oQ
  rw [g2]; exact h2 g1
 | .lp _ _,_,_,h,_=>by simp [eY] at h
 | .fp _ _,_,_,h,_=>by simp [eY] at h
 | .fz _ _ _,_,_,h,_=>by simp [eY] at h
 | .rs id off len z,y,v,h,hv=>by
  simp only [eY] at h
  split at h
  ·rename_i h0
   cases h
   subst h0
   simp only [VR] at hv ⊢
   rcases hv with⟨_,h2,h3,h4⟩| h1
   ·exact .inl ⟨trivial,h2,h3,h4⟩
   ·exact absurd rfl h1.1
  ·rename_i h0
   cases h
   simp only [VR] at hv ⊢
   rcases hv with h1 | ⟨_,h1,a,cap,rfl,h2,h3,h4⟩
   ·exact absurd h1.1 h0
   refine .inr ⟨by omega,hn _ h1,a,cap,rfl,h2,h3,fun oQ=>?_⟩
   obtain⟨g1,g2⟩:=hl _ oQ
   have:=h4 g1
   rw [g2]
   unfold Cx.len at this ⊢
   rw [hw]; exact this
 | .mp _,_,_,h,_=>by simp [eY] at h
 | .fn _ _,_,_,h,_=>by simp [eY] at h
 | .agg cs,_,v,h,hv=>by
  simp only [eY,aiK] at h
  obtain⟨ys,h1,rfl⟩:=h
  simp only [VR] at hv ⊢
  obtain⟨vs,rfl,h2⟩:=hv
  exact⟨vs,rfl,wB hw hn hl cs ys vs.toList h1 h2⟩
 | .tup cs,_,v,h,hv=>by
  simp only [eY,aiK] at h
  obtain⟨ys,h1,rfl⟩:=h
  simp only [VR] at hv ⊢
  obtain⟨vs,rfl,h2⟩:=hv
  exact⟨vs,rfl,wB hw hn hl cs ys vs.toList h1 h2⟩
theorem wB (hw:d.w=c1.w)(hn:∀id,id<c1.h.next→id+k<d.h.next)(hl:∀id,Live d.h (id+k)→Live c1.h id∧d.β (id+k)=c1.β id):∀(xs ys:List AV) (vs:List Value),dW k xs=some ys→VRs c1 L1 xs vs→VRs d L1 ys vs
 | [],ys,[],h,_=>by simp only [dW,aiL] at h; subst h; trivial
 | x::xs,ys,v::vs,h,hv=>by
  simp only [dW,aiJ,aiK] at h
  obtain⟨y,h1,ys',h2,rfl⟩:=h
  exact⟨zC hw hn hl x y v h1 hv.1,wB hw hn hl xs ys' vs h2 hv.2⟩
 | [],_,_::_,_,h=>h.elim
 | _::_,_,[],_,h=>h.elim
end
theorem xG (hw:d.w=c1.w)(hn:∀id,id<c1.h.next→id+k<d.h.next)(hl:∀id,Live d.h (id+k)→Live c1.h id∧d.β (id+k)=c1.β id):∀(xs:List AV) (b o:Nat),Cells c1 L1 xs b o→Cells d L1 (jt k xs) b o
 | [],_,_,_=>trivial
 | x::xs,b,o,h=>by
  obtain⟨⟨v,h1,h2,h3⟩,h4⟩:=h
  unfold jt
  cases hx:eY k x with
  | none=>trivial
  | some y=>exact⟨⟨v,by rw [hw]; exact h1,h2,zC hw hn hl x y v hx h3⟩,xG hw hn hl xs b (o+1) h4⟩
end
theorem zD (k:Nat):∀xs:List AV,(jt k xs).length≤xs.length
 | []=>aiQ _
 | x::xs=>by
  unfold jt
  cases eY k x with
  | none=>exact ajm _
  | some y=>exact Nat.succ_le_succ (zD k xs)
theorem mG {h h1:AHeap}{i:Nat}(hi:i<h.next):(h.gr h1).get i=h.get i∧(h.gr h1).ver i=h.ver i:=by
 have:Nat.blt i h.next=true:=by rw [Nat.blt_eq]; exact hi
 simp only [AHeap.gr,this,cond_true,and_self]
theorem nD {h h1:AHeap}{i:Nat}(hi:h.next≤i):(h.gr h1).get i=(h1.get (i - h.next)).bind (Hb h.next)∧(h.gr h1).ver i=h.next+h1.ver (i - h.next):=by
 have:Nat.blt i h.next=false:=by
  cases hb:Nat.blt i h.next with
  | false=>rfl
  | true=>rw [Nat.blt_eq] at hb; omega
 simp only [AHeap.gr,this,cond_false,and_self]
theorem Steady.gr {h h1:AHeap}(hw:∀id,h1.ver id<h1.next):Steady h (h.gr h1):=by
 refine⟨Nat.le_add_right _ _,fun i=>?_,fun hv i=>?_⟩
 ·by_cases hi:i<h.next
  ·exact .inl ⟨(mG hi).2,(mG hi).1⟩
  ·right; rw [(nD (ajq hi)).2]; exact Nat.le_add_right _ _
 ·show _<h.next+h1.next
  by_cases hi:i<h.next
  ·rw [(mG hi).2]; have:=hv i; omega
  ·rw [(nD (ajq hi)).2]; have:=hw (i - h.next); omega
theorem Ni {cf:CallF}(hcf:CallOK P cf)(deep:Nat):CallOK P fun f args h=>(b6 h deep args).bind fun us=>(cf f us bH).bind fun x=>(eY h.next x.1).map fun r=>(r,h.gr x.2):=by
 intro f args h r h' hc
 dsimp only at hc
 simp only [aiJ,aiK,aiV] at hc
 obtain⟨us,has,⟨x,h1⟩,hx,r',hr,rfl,rfl⟩:=hc
 obtain⟨hin,hcall⟩:=hcf f us bH x h1 hx
 refine⟨hin,fun L0 c vs hh hb0 hrel hargs=>?_⟩
 let c0:Cx:=⟨fun _=>(0,0),bH,c.w,c.w.heap.size⟩
 have hnl:∀id,¬Live c0.h id:=fun id hl=>by have:=hl.2; cases this
 have Nh:∀b,RO c L0 b→RO c0 L0 b:=fun b hb=>⟨fun id hl=>absurd hl (hnl id),hb.2⟩
 have zA:HRel c0 L0:=⟨fun id o ho=>(by cases ho),fun id o ho=>(by cases ho),fun id _ hl _ _=>absurd hl (hnl id),fun id hl=>absurd hl (hnl id),hrel.bd,fun id hl=>absurd hl (hnl id),fun _=>akp⟩
 have zB:VRs c0 L0 us vs:=lB (c:=c) (d:=c0) rfl Nh hrel (fun id hl=>⟨fun oC tk=>absurd tk (hnl oC),hrel.out id hl⟩) deep args us vs (by rw [hh]; exact has) hargs
 refine (hcall L0 c0 vs rfl (aiQ _) zA zB).mono ?_
 rintro e w' ⟨c1,v,rfl,rfl,V5,hv,hrel1,e1⟩
 let d:Cx:=⟨fun i=>if i<c.h.next then c.β i else c1.β (i - c.h.next),c.h.gr c1.h,c1.w,c.base⟩
 have hk:∀b,b<c.w.heap.size→c1.w.heap[b]? = c.w.heap[b]?:=fun b hb=>e1.exact b hb
 have xq:∀i,i<c.h.next→Live d.h i→Live c.h i:=fun i hi hl=>⟨hi,by have:=hl.2; rw [show d.h.get i=_ from (mG hi).1] at this; exact this⟩
 have SP:∀i,c.h.next≤i→Live d.h i→Live c1.h (i - c.h.next):=fun i hi hl=>by
  have h2:=hl.2
  rw [show d.h.get i=_ from (nD hi).1] at h2
  cases hg:c1.h.get (i - c.h.next) with
  | none=>rw [hg] at h2; cases h2
  | some o=>exact⟨hrel1.lt _ _ hg,by rw [hg]; rfl⟩
 have QN:∀i,i<c.h.next→d.β i=c.β i:=fun i hi=>if_pos hi
 have Nj:∀i,c.h.next≤i→d.β i=c1.β (i - c.h.next):=fun i hi=>if_neg (by omega)
 have QP:∀i,Live c1.h i→c.w.heap.size≤(c1.β i).1:=fun i hl=>by
  rcases e1.Qt i hl with h2 | ⟨vV,h2,_⟩
  ·exact h2
  ·exact absurd h2 (hnl vV)
 have ed:Ext c none0 d none0:=⟨Nat.le_add_right _ _,fun id hi hl=>⟨xq id hi hl,QN id hi,kR.len (c:=c) (c':=d) (.inl (hk _ (hrel.block (xq id hi hl))))⟩,e1.size,fun b hb _ _=>.inl (hk b hb),fun b hb=>hk b (ajk hb hb0),rfl,fun id hl=>by
  by_cases hi:id<c.h.next
  ·exact .inr ⟨id,xq id hi hl,by rw [QN id hi]⟩
  ·rw [Nj id (ajq hi)]
   exact .inl (QP _ (SP id (ajq hi) hl)),fun _ h=>h,fun _ h=>.inl h,e1.os,e1.tape,e1.output⟩
 have gn:∀id,id<c1.h.next→id+c.h.next<d.h.next:=fun id hi=>by show _<c.h.next+c1.h.next; omega
 have gl:∀id,Live d.h (id+c.h.next)→Live c1.h id∧d.β (id+c.h.next)=c1.β id:=fun id hl=>by
  have a:=SP (id+c.h.next) (Nat.le_add_left _ _) hl
  have b:=Nj (id+c.h.next) (Nat.le_add_left _ _)
  rw [Nat.add_sub_cancel] at a b
  exact⟨a,b⟩
 refine⟨d,v,rfl,rfl,?_,?_,⟨fun id o ho=>?_,fun id o ho=>?_,fun id oC hl tk he=>?_,fun id hl=>?_,fun b hb=>ajk (hrel.bd b hb) e1.size,fun id hl=>?_,fun id=>?_⟩,ed⟩
 ·show c.h.gr c1.h=h.gr h1
  rw [hh,V5]
 ·refine zC (c1:=c1) (d:=d) (k:=c.h.next) rfl gn gl x r' v ?_ hv
  rw [hh]; exact hr
 ·show id<c.h.next+c1.h.next
  by_cases hi:id<c.h.next
  ·omega
  ·rw [show d.h.get id=_ from (nD (ajq hi)).1,aiJ] at ho
   obtain⟨o1,SG,_⟩:=ho
   have:=hrel1.lt _ _ SG
   omega
 ·by_cases hi:id<c.h.next
  ·rw [show d.h.get id=_ from (mG hi).1] at ho
   have hl:Live c.h id:=⟨hi,by rw [ho]; rfl⟩
   have:=(hrel.obj id o ho)
   have h2:=uE.ext (L0:=L0) ed (b:=(c.β id).1) (base:=(c.β id).2) (o:=o) (by rw [kU]; exact this) (hk _ (hrel.block hl))
   rw [kU] at h2
   rw [QN id hi]
   exact h2
  ·rw [show d.h.get id=_ from (nD (ajq hi)).1,aiJ] at ho
   obtain⟨o1,SG,ho⟩:=ho
   rw [Nj id (ajq hi)]
   cases o1 with
   | map es=>cases ho
   | row t cs=>cases ho
   | cells cs=>
    simp only [Hb,aiL] at ho
    subst ho
    obtain⟨n,g1,g2,g3⟩:=hrel1.obj _ _ SG
    exact⟨n,g1,ajF (Nat.add_le_add_left (zD _ _) _) g2,xG (c1:=c1) (d:=d) rfl gn gl cs _ _ g3⟩
 ·by_cases hi:id<c.h.next<;>by_cases mZ:oC<c.h.next
  ·rw [QN id hi,QN oC mZ] at he
   exact hrel.inj id oC (xq id hi hl) (xq oC mZ tk) he
  ·rw [QN id hi,Nj oC (ajq mZ)] at he
   have a:=hrel.block (xq id hi hl)
   have b:=QP _ (SP oC (ajq mZ) tk)
   omega
  ·rw [Nj id (ajq hi),QN oC mZ] at he
   have a:=hrel.block (xq oC mZ tk)
   have b:=QP _ (SP id (ajq hi) hl)
   omega
  ·rw [Nj id (ajq hi),Nj oC (ajq mZ)] at he
   have:=hrel1.inj _ _ (SP id (ajq hi) hl) (SP oC (ajq mZ) tk) he
   omega
 ·by_cases hi:id<c.h.next
  ·rw [QN id hi]; exact hrel.out id (xq id hi hl)
  ·rw [Nj id (ajq hi)]; exact hrel1.out _ (SP id (ajq hi) hl)
 ·show c.base≤_
  by_cases hi:id<c.h.next
  ·rw [QN id hi]; exact hrel.low id (xq id hi hl)
  ·rw [Nj id (ajq hi)]; exact ajF hb0 (QP _ (SP id (ajq hi) hl))
 ·show _<c.h.next+c1.h.next
  by_cases hi:id<c.h.next
  ·rw [show d.h.ver id=_ from (mG hi).2]; have:=hrel.ver id; omega
  ·rw [show d.h.ver id=_ from (nD (ajq hi)).2]; have:=hrel1.ver (id - c.h.next); omega
theorem pP {T:tj}(xH:IntrOK P T.intr)(m:Nat):∀k,SteadyF (iI P T m k)
 | 0=>fun f args h r h' hc=>by simp [iI] at hc
 | k+1=>fun f args h r h' hc=>by
  have hb:=C3 (P:=P) (aW:=T.aW) (m:=m) (pP xH m k)
  simp only [iI] at hc
  split at hc
  ·rename_i g hg
   exact (xH f g hg).2 _ _ _ _ hc
  ·split at hc
   ·split at hc
    ·simp only [aiJ] at hc
     obtain⟨us,_,x,hx,hc⟩:=hc
     obtain⟨r',_,h2⟩:=Option.map_some' hc
     cases h2
     exact Steady.gr ((hb _ _ _ _ _ hx).wf fun _=>akp)
    split at hc
    ·rw [aiJ] at hc
     obtain⟨x,_,hc⟩:=hc
     obtain⟨r',_,h2⟩:=Option.map_some' hc
     cases h2
     exact Steady.refl _
    ·split at hc
     ·rw [aiJ] at hc
      obtain⟨x,_,hc⟩:=hc
      obtain⟨r',_,h2⟩:=Option.map_some' hc
      cases h2
      exact Steady.refl _
     ·exact hb _ _ _ _ _ hc
   ·exact hb _ _ _ _ _ hc
theorem uV (hP:Fit P){T:tj}(xH:IntrOK P T.intr)(m:Nat):∀k,CallOK P (iI P T m k)
 | 0=>fun f args h r h' hc=>by simp [iI] at hc
 | k+1=>fun f args h r h' hc=>by
  have ih:=uV hP xH m k
  have hb:=EX hP (aW:=T.aW) ih (E1 hP.mixed ih (pP xH m k)) m
  simp only [iI] at hc
  split at hc
  ·rename_i g hg
   exact (xH f g hg).1 f args h r h' (by simpa using hc)
  ·split at hc
   ·rename_i deep _
    split at hc
    ·exact Ni hb deep f args h r h' hc
    by_cases yM:eL args=true
    ·exact QL hb deep f args h r h' (by dsimp only; rw [if_pos yM] at hc ⊢; exact hc)
    ·rw [if_neg yM] at hc
     split at hc
     ·rename_i as has
      refine QM hb deep f args h r h' ?_
      dsimp only
      rw [has]
      exact hc
     ·exact E3 hb f args h r h' hc
   ·exact E3 hb f args h r h' hc
def W6 (P : Program) : Bool := P.funcs.toList.all fun fn => fn.name != "runtime.NumGoroutine" && match fn.body with | some c => oe fn.ntmps c | none => true
theorem T5 (h1:P.follows .mixedOrders=true)(h2:W6 P=true):Fit P:=by
 refine⟨h1,fun f fn c hf hb=>?_⟩
 unfold W6 at h2
 rw [ajd] at h2
 have:=h2 fn (ajO.2 (Array.mem_of_getElem? hf))
 rw [hb] at this
 simp only [aiM,bne_iff_ne,ne_eq] at this
 exact⟨this.2,this.1⟩
theorem sM:IntrOK P fun _=>none:=fun f g h=>by cases h
end
end Go.R
