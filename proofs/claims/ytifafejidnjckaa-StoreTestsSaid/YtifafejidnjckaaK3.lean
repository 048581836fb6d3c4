/- Part of the proof: RLocal, RSteady, RDraw, RPure. -/
import Derived.Test.YtifafejidnjckaaK2
import Derived.StillTail
set_option linter.unusedVariables false
set_option linter.unusedSimpArgs false
set_option maxRecDepth 100000
open Array renaming getElem?_eq_some_iff → aac, mem_toList_iff → aaz
open Bool renaming and_eq_true → ZF, false_eq_true → ZN, or_eq_true → aar, not_true → aaC, not_eq_true' → aaF
open List renaming getElem?_append_left → ZS, all_eq_true → ZX, getElem?_eq_none → Z5, mem_append → aaa, getElem?_cons_zero → aag, mem_map → aah, map_congr_left → aaT, range → aa6
open Nat renaming le_refl → ZI, zero_add → Z2, lt_of_lt_of_le → Z4, le_of_not_lt → aab, zero_le → aai, le_trans → aap, add_assoc → aaB, eq_of_beq_eq_true → aaH, min_eq_left → aa0, zero_lt_one → aa1, add_comm → aa7
open Option renaming bind_some → ZB, bind_eq_some_iff → ZC, map_eq_some_iff → ZD, map_some → ZJ, getD_some → aaA
open Option.some renaming injEq → ZE, inj → aaf
open Prod.mk renaming injEq → ZL
namespace Go.R
open Go
def RS.shift (s2:RS)(f:lu)(d:Option Nat)(s':RS):RS:=
 {ρ:=match d with | none=>s2.ρ | some d=>fun t=>if t=d then s'.ρ d else s2.ρ t
  bx:=match f.wb with | none=>s2.bx | some k=>fun t=>if t=k then s'.bx k else s2.bx t
  h:=if f.wh then s'.h else s2.h}
theorem RS.ext' {s t:RS}(h1:∀i,s.ρ i=t.ρ i)(h2:∀i,s.bx i=t.bx i)(h3:s.h=t.h):s=t:=by
 cases s; cases t
 congr
 ·exact funext h1
 ·exact funext h2
theorem iV (s s2:RS)(f:lu)(d:Option Nat)(z:AV)(hw:f.wb=none)(hh:f.wh=false):s2.set d z=s2.shift f d (s.set d z):=by
 refine RS.ext' (fun i=>?_) (fun i=>?_) ?_
 ·cases d with
  | none=>rfl
  | some d=>simp only [vg,RS.shift,if_true]
 ·simp only [RS.shift,hw]; cases d<;>rfl
 ·simp only [RS.shift,hh]; cases d<;>rfl
theorem jE (s:RS)(d:Option Nat)(z:AV):(s.set d z).h=s.h:=by cases d<;>rfl
theorem Kv (s:RS)(d:Option Nat)(z:AV):(s.set d z).bx=s.bx:=by cases d<;>rfl
theorem FG (s:RS)(k i:Nat)(cs:List AV):(s.box k cs).bx i=if i=k then some cs else s.bx i:=by
 simp only [RS.box,beq_nat]
 by_cases h:i=k<;>simp [h]
theorem hX (s s2:RS)(f:lu)(d:Option Nat)(z:AV)(h':AHeap)(hw:f.wb=none)(hh:f.wh=true):({s2 with h:=h'}:RS).set d z=s2.shift f d (({s with h:=h'}:RS).set d z):=by
 refine RS.ext' (fun i=>?_) (fun i=>?_) ?_
 ·cases d with
  | none=>rfl
  | some d=>simp only [vg,RS.shift,if_true]
 ·simp only [RS.shift,hw]; cases d<;>rfl
 ·simp only [RS.shift,hh]; cases d<;>rfl
theorem D6 (s s2:RS)(f:lu)(k:Nat)(cs:List AV)(hw:f.wb=some k)(hh:f.wh=false):s2.box k cs=s2.shift f none (s.box k cs):=by
 refine RS.ext' (fun i=>rfl) (fun i=>?_) ?_
 ·simp only [FG,RS.shift,hw,if_true]
 ·simp only [RS.shift,hh]; rfl
section
variable {P:Program}{cf:CallF}{aI ds:List Nat}{o:Oper}{s s' s2:RS}
theorem pG {cs:List AV}{f:lu}(h:iO s aI ds o cs=some s')(hf:f=(match o.dst with
  | some d=>if aI.contains d then {wb:=some d,al:=true} else {wh:=true}
  | none=>{})) (hh:f.wh=true→s2.h=s.h) (pt:f.al=true→∀d,o.dst=some d→sM d s2.ρ (ds.filter fun t=>!Nat.beq t d)=true) :
  iO s2 aI ds o cs=some (s2.shift f o.dst s'):=by
 unfold iO at h ⊢
 split at h
 rotate_left
 ·cases h
 rename_i pq
 rw [if_pos pq]
 cases hd:o.dst with
 | none=>rw [hd] at h; cases h
 | some d=>
  rw [hd] at h hf
  simp only at h hf ⊢
  by_cases hl:aI.contains d=true
  ·rw [if_pos hl] at h hf ⊢
   subst hf
   split at h
   rotate_left
   ·cases h
   cases h
   rw [if_pos (pt rfl d hd)]
   congr 1
   refine RS.ext' (fun i=>?_) (fun i=>?_) ?_
   ·simp only [vg,RS.shift,if_true]; rfl
   ·simp only [Kv,FG,RS.shift,if_true]
   ·simp only [jE,RS.shift]; rfl
  ·rw [if_neg hl] at h hf ⊢
   subst hf
   cases h
   rw [hh rfl]
   congr 1
   exact hX s s2 {wh:=true} (some d) _ _ rfl rfl
theorem vu {e:Operand→AV}(h:Aw P cf aI ds e s o=some s')(hb:∀k∈(bw aI e o).rb,s2.bx k=s.bx k)(hr:∀id∈(bw aI e o).rh,s2.h.get id=s.h.get id)
  (hh:(bw aI e o).wh=true→s2.h=s.h) (pt:(bw aI e o).al=true→∀d,o.dst=some d→sM d s2.ρ (ds.filter fun t=>!Nat.beq t d)=true) :
  Aw P cf aI ds e s2 o=some (s2.shift (bw aI e o) o.dst s'):=by
 have eO:∀{x x2:Option AV} (f:lu),(x.map fun x=>s.set o.dst x)=some s'→(x2=x)→f.wb=none→f.wh=false→(x2.map fun x=>s2.set o.dst x)=some (s2.shift f o.dst s'):=by
  intro x x2 f hx h2 h3 h4
  obtain⟨z,rfl,rfl⟩:=Option.map_some' hx
  subst h2
  simp only [ZJ]
  rw [←iV s s2 f o.dst z h3 h4]
 have yE:∀{α:Type} {x x2:Option α} (f:lu) (g:α→AV) (k:α→AHeap),(x.map fun y=>({s with h:=k y}:RS).set o.dst (g y))=some s'→(x2=x)→f.wb=none→f.wh=true→
   (x2.map fun y=>({s2 with h:=k y}:RS).set o.dst (g y))=some (s2.shift f o.dst s'):=by
  intro α x x2 f g k hx h2 h3 h4
  obtain⟨z,rfl,rfl⟩:=Option.map_some' hx
  subst h2
  simp only [ZJ]
  rw [←hX s s2 f o.dst (g z) (k z) h3 h4]
 unfold Aw at h ⊢
 dsimp only at h ⊢
 split at h
 ·rename_i x ho; cases h; simp only [ZE]; exact iV s s2 _ _ _ (by simp [bw,ho]) (by simp [bw,ho])
 ·rename_i x ho; cases h; simp only [ZE]; exact iV s s2 _ _ _ (by simp [bw,ho]) (by simp [bw,ho])
 ·rename_i k x y ho
  obtain⟨t,ht,rfl⟩:=Option.map_some' h
  simp only [ht,ZJ,ZE]
  exact iV s s2 _ _ _ (by simp [bw,ho]) (by simp [bw,ho])
 ·rename_i t ho
  rw [ZC] at h
  obtain⟨z,hz,h⟩:=h
  simp only [hz,ZB]
  exact pG h (by simp only [bw,ho]; rfl) hh pt
 ·rename_i t x ho
  exact pG h (by simp only [bw,ho]; rfl) hh pt
 ·rename_i t ps ho; exact eO _ h rfl (by simp [bw,ho]) (by simp [bw,ho])
 ·rename_i t k ps ho
  obtain⟨z,hz,rfl⟩:=Option.map_some' h
  simp only [hz,ZJ,ZE]
  have hf:bw aI e o=(match o.dst with | some d=>if aI.contains d then {wh:=true} else {} | none=>{}):=by simp only [bw,ho]; rfl
  unfold qu
  cases Ko:oN P aI o t z with
  | none=>
   simp only
   cases hd:o.dst with
   | none=>rw [hd] at hf; rw [hf]; exact iV s s2 _ none _ rfl rfl
   | some d=>
    rw [hd] at hf
    simp only at hf
    by_cases hl:aI.contains d=true
    ·rw [if_pos hl] at hf
     have h2:=hh (by rw [hf])
     rw [hf]
     have h3:=hX s s2 {wh:=true} (some d) z s2.h rfl rfl
     refine h3.trans ?_
     rw [h2]
    ·rw [if_neg hl] at hf
     rw [hf]; exact iV s s2 _ _ _ rfl rfl
  | some q=>
   obtain⟨d,hd,hl⟩:∃d,o.dst=some d∧aI.contains d=true:=by
    unfold oN at Ko
    split at Ko
    ·rename_i d _ _ _ hd
     refine⟨d,hd,?_⟩
     cases hc:aI.contains d with
     | false=>rw [hc] at Ko; cases Ko
     | true=>rfl
    ·cases Ko
   rw [hd] at hf
   simp only [hl,if_true] at hf
   rw [hf] at hh ⊢
   simp only [hh rfl]
   exact hX s s2 _ _ _ _ rfl rfl
 ·
  rename_i t x ho
  have hf:bw aI e o=(match e x with | .lp k _=>{rb:=[k]} | .ptr id _=>{rh:=[id]} | _=>{}):=by simp only [bw,ho]; rfl
  refine eO _ h ?_ ?_ ?_
  ·rw [hf] at hb hr
   unfold kh
   cases hx:e x<;>rw [hx] at hb hr<;>try rfl
   ·simp only; rw [hr _ (by simp)]
   ·simp only; rw [hb _ (by simp)]
  ·rw [hf]; cases e x<;>rfl
  ·rw [hf]; cases e x<;>rfl
 ·
  rename_i t x y ho
  have hf:bw aI e o=(match e x with | .lp k _=>{rb:=[k],wb:=some k} | _=>{wh:=true}):=by simp only [bw,ho]; rfl
  try simp only at h ⊢
  split at h
  ·cases h
  rename_i hd
  rw [if_neg hd]
  have H2:o.dst=none:=by simpa using hd
  cases hx:e x<;>rw [hx] at h hf<;>simp only at h hf ⊢<;>try (cases h; done)
  ·rename_i id off
   rw [hf] at hh ⊢
   rw [ZC] at h
   obtain⟨ob,hob,h⟩:=h
   rw [hh rfl,hob]
   cases ob with
   | map es=>cases h
   | row t cs=>cases h
   | cells cs=>
    obtain⟨fU,hcs,rfl⟩:=Option.map_some' h
    simp only [ZB,hcs,ZJ,H2,ZE]
    exact hX s s2 {wh:=true} none .any _ rfl rfl
  ·rename_i k off
   rw [hf] at hb ⊢
   rw [ZC] at h
   obtain⟨cs,hcs,h⟩:=h
   rw [hb k (by simp),hcs]
   obtain⟨fU,P3,rfl⟩:=Option.map_some' h
   simp only [ZB,P3,ZJ,H2,ZE]
   exact D6 s s2 _ k fU rfl rfl
 ·rename_i ho; exact eO _ h rfl (by simp [bw,ho]) (by simp [bw,ho])
 ·rename_i ho; exact eO _ h rfl (by simp [bw,ho]) (by simp [bw,ho])
 ·rename_i ho; exact eO _ h rfl (by simp [bw,ho]) (by simp [bw,ho])
 ·
  rename_i a b x ho
  have hf:bw aI e o=(match e x with | .rs id _ _ _=>{rh:=[id]} | _=>{}):=by simp only [bw,ho]; rfl
  refine eO _ h ?_ ?_ ?_
  ·have hc:fc s2.h 1 (e x)=fc s.h 1 (e x):=by
    rw [hf] at hr
    unfold fc
    cases hx:e x<;>rw [hx] at hr<;>try rfl
    simp only; rw [hr _ (by simp)]
   unfold nh
   rw [hc]
  ·rw [hf]; cases e x<;>rfl
  ·rw [hf]; cases e x<;>rfl
 ·rename_i AM first cap ho
  try simp only
  split at h
  ·rename_i hc
   rw [if_pos hc]
   exact eO _ h rfl (by simp [bw,ho]) (by simp [bw,ho])
  ·cases h
 ·rename_i ho
  have hf:(bw aI e o).wh=true:=by simp [bw,ho]
  cases h
  simp only [hh hf,ZE]
  exact hX s s2 _ _ _ _ (by simp [bw,ho]) hf
 ·rename_i t l c ho
  have hf:(bw aI e o).wh=true:=by simp [bw,ho]
  exact yE _ (fun y:AV × AHeap=>y.1) (fun y=>y.2) h (by simp only [hh hf]) (by simp [bw,ho]) hf
 ·rename_i ho; exact eO _ h rfl (by simp [bw,ho]) (by simp [bw,ho])
 ·rename_i ho; exact eO _ h rfl (by simp [bw,ho]) (by simp [bw,ho])
 ·rename_i ho; exact eO _ h rfl (by simp [bw,ho]) (by simp [bw,ho])
 ·rename_i ho; exact eO _ h rfl (by simp [bw,ho]) (by simp [bw,ho])
 ·rename_i ho; exact eO _ h rfl (by simp [bw,ho]) (by simp [bw,ho])
 ·
  rename_i t m k ok ho
  have hf:bw aI e o=(match e m with | .mp id=>{rh:=[id]} | _=>{}):=by simp only [bw,ho]; rfl
  refine eO _ h ?_ ?_ ?_
  ·rw [hf] at hr
   unfold fh
   cases hx:e m<;>rw [hx] at hr<;>try rfl
   simp only; rw [hr _ (by simp)]
  ·rw [hf]; cases e m<;>rfl
  ·rw [hf]; cases e m<;>rfl
 ·rename_i t m k x ho
  have hf:(bw aI e o).wh=true:=by simp [bw,ho]
  try simp only at h ⊢
  split at h
  ·cases h
  rename_i hd
  rw [if_neg hd]
  have H2:o.dst=none:=by simpa using hd
  obtain⟨h',hm,rfl⟩:=Option.map_some' h
  simp only [hh hf,hm,ZJ,H2,ZE]
  exact hX s s2 _ none .any _ (by simp [bw,ho]) hf
 ·rename_i t m k x ho
  have hf:(bw aI e o).wh=true:=by simp [bw,ho]
  try simp only at h ⊢
  split at h
  ·cases h
  rename_i hd
  rw [if_neg hd]
  have H2:o.dst=none:=by simpa using hd
  obtain⟨h',hm,rfl⟩:=Option.map_some' h
  simp only [hh hf,hm,ZJ,H2,ZE]
  exact hX s s2 _ none .any _ (by simp [bw,ho]) hf
 ·rename_i ho; exact eO _ h rfl (by simp [bw,ho]) (by simp [bw,ho])
 ·
  rename_i b args B4 ho
  try simp only
  unfold gC at h ⊢
  generalize hargs:args.toList.map e=as at h ⊢
  generalize B4.toList=ts at h ⊢
  split at h
  ·rename_i t x
   try simp only
   have hf:bw aI e o=(match x with | .mp id=>{rh:=[id]} | _=>{}):=by
    simp only [bw,ho,hargs]
    cases x<;>rfl
   refine eO _ h ?_ ?_ ?_
   ·rw [hf] at hr
    unfold sL
    cases x<;>try rfl
    simp only; rw [hr _ (by simp)]
   ·rw [hf]; cases x<;>rfl
   ·rw [hf]; cases x<;>rfl
  ·try simp only
   have hf:(bw aI e o).wh=true∧(bw aI e o).wb=none:=by simp only [bw,ho,hargs]; simp
   exact yE _ (fun y:AV × AHeap=>y.1) (fun y=>y.2) h (by simp only [hh hf.1]) hf.2 hf.1
  ·try simp only
   have hf:(bw aI e o).wh=true∧(bw aI e o).wb=none:=by simp only [bw,ho,hargs]; simp
   exact yE _ (fun y:AV × AHeap=>y.1) (fun y=>y.2) h (by simp only [hh hf.1]) hf.2 hf.1
  ·try simp only
   have hf:(bw aI e o).wh=true∧(bw aI e o).wb=none:=by simp only [bw,ho,hargs]; simp
   exact yE _ (fun _:AHeap=>.tup []) (fun y=>y) h (by simp only [hh hf.1]) hf.2 hf.1
  ·try simp only
   rw [ZC] at h
   obtain⟨v,hv,h⟩:=h
   rw [ZC] at h
   obtain⟨vs,E3,h⟩:=h
   rw [ZC] at h
   obtain⟨u,hu,h⟩:=h
   simp only [hv,E3,hu,ZB]
   exact eO _ h rfl (by simp [bw,ho]) (by simp [bw,ho])
  ·try simp only
   rw [ZC] at h
   obtain⟨v,hv,h⟩:=h
   rw [ZC] at h
   obtain⟨vs,E3,h⟩:=h
   rw [ZC] at h
   obtain⟨u,hu,h⟩:=h
   simp only [hv,E3,hu,ZB]
   exact eO _ h rfl (by simp [bw,ho]) (by simp [bw,ho])
  ·cases h
 ·
  rename_i fx args B4 ho
  have hf:(bw aI e o).wh=true∧(bw aI e o).wb=none:=by simp [bw,ho]
  try simp only
  cases hx:e fx<;>rw [hx] at h<;>simp only at h ⊢<;>try (cases h; done)
  rename_i AM cap
  split at h
  ·rename_i ha
   rw [if_pos ha]
   exact yE _ (fun y:AV × AHeap=>y.1) (fun y=>y.2) h (by simp only [hh hf.1]) hf.2 hf.1
  ·cases h
 ·cases h
end
end Go.R
namespace Go.R
open Go
def SteadyF (cf:CallF):Prop:=∀f args h r h',cf f args h=some (r,h')→Steady h h'
section
variable {P:Program}{cf:CallF}{aI ds:List Nat}{o:Oper}{s s':RS}
theorem th {h h':AHeap}{t t2:TypeId}{x y z:AV}(hh:ei P h t t2 x y=some (z,h')):Steady h h':=by
 unfold ei at hh
 rw [ZC] at hh
 obtain⟨d,_,hh⟩:=hh
 cases d<;>simp only at hh<;>try (cases hh; done)
 rw [ZC] at hh
 obtain⟨i,_,hh⟩:=hh
 rw [ZC] at hh
 obtain⟨⟨new,m⟩,_,hh⟩:=hh
 simp only at hh
 split at hh
 ·cases hh
 split at hh
 ·split at hh
  ·cases hh
  ·split at hh<;>cases hh
   ·exact Steady.refl _
   ·exact Steady.put _ _ _
 ·split at hh
  ·cases hh
  ·split at hh
   ·split at hh<;>cases hh<;>exact Steady.refl _
   ·cases hh; exact Steady.put _ _ _
 ·split at hh
  ·split at hh
   ·cases hh
   ·split at hh<;>cases hh
    ·exact Steady.refl _
    ·exact Steady.put _ _ _
  rw [ZC] at hh
  obtain⟨ob,_,hh⟩:=hh
  cases ob with
  | map es=>cases hh
  | row t cs=>cases hh
  | cells cs=>
   simp only at hh
   split at hh
   ·cases hh
   ·split at hh<;>cases hh
    ·exact Steady.refl _
    ·exact (Steady.kill _ _).trans (Steady.put _ _ _)
 ·cases hh
theorem wP {h h':AHeap}{t t2:TypeId}{x y z:AV}(hh:re P h t t2 x y=some (z,h')):Steady h h':=by
 unfold re at hh
 rw [ZC] at hh
 obtain⟨d,_,hh⟩:=hh
 cases d<;>simp only at hh<;>try (cases hh; done)
 rw [ZC] at hh
 obtain⟨i,_,hh⟩:=hh
 rw [ZC] at hh
 obtain⟨⟨new,m⟩,_,hh⟩:=hh
 simp only at hh
 split at hh
 ·cases hh
 split at hh
 ·split at hh
  ·split at hh<;>cases hh
   exact Steady.refl _
  rw [ZC] at hh
  obtain⟨ob,_,hh⟩:=hh
  cases ob with
  | map es=>cases hh
  | row t cs=>cases hh
  | cells cs=>
   simp only at hh
   split at hh<;>cases hh
   exact Steady.put _ _ _
 ·split at hh<;>cases hh
  exact Steady.refl _
 ·cases hh
theorem uO {h h':AHeap}{t:TypeId}{x:AV}(hh:l8 P h t x=some h'):Steady h h':=by
 unfold l8 at hh
 rw [ZC] at hh
 obtain⟨d,_,hh⟩:=hh
 cases x<;>simp only at hh<;>try (cases hh; done)
 ·split at hh
  ·cases hh; exact Steady.refl _
  split at hh
  ·cases hh
  cases d<;>simp only at hh<;>try (cases hh; done)
  simp only [ZC] at hh
  obtain⟨i,_,z,_,ob,_,hh⟩:=hh
  cases ob with
  | map es=>cases hh
  | row t cs=>cases hh
  | cells cs=>
   simp only at hh
   split at hh
   ·cases hh; exact Steady.put _ _ _
   ·cases hh
 ·cases hh; exact Steady.refl _
 ·rw [ZC] at hh
  obtain⟨ob,_,hh⟩:=hh
  cases ob with
  | cells cs=>cases hh
  | row t cs=>cases hh
  | map es=>cases hh; exact Steady.put _ _ _
theorem yF {aI:List Nat}{d:Option Nat}{x y:AV × AHeap}(hz:wv aI d x=some y):Steady x.2 y.2:=by
 unfold wv at hz
 cases hm:MK aI d with
 | true=>rw [hm,cond_true] at hz; exact nr hz
 | false=>rw [hm,cond_false] at hz; cases hz; exact Steady.refl _
theorem nw {h h':AHeap}{t:TypeId}{x y z:AV}(hh:ij P h t x y z=some h'):Steady h h':=by
 unfold ij at hh
 rw [ZC] at hh
 obtain⟨d,_,hh⟩:=hh
 cases d<;>simp only at hh<;>try (cases hh; done)
 split at hh
 ·cases hh
 cases x<;>simp only at hh<;>try (cases hh; done)
 rw [ZC] at hh
 obtain⟨ob,_,hh⟩:=hh
 cases ob with
 | cells cs=>cases hh
 | row t cs=>cases hh
 | map es=>
  obtain⟨q9,_,rfl⟩:=Option.map_some' hh
  exact Steady.put _ _ _
theorem pH {h h':AHeap}{t:TypeId}{x y z:AV}(hh:hU P h t x y=some (z,h')):Steady h h':=by
 unfold hU at hh
 split at hh
 ·rw [ZC] at hh
  obtain⟨d,_,hh⟩:=hh
  cases d<;>simp only at hh<;>try (cases hh; done)
  rw [ZC] at hh
  obtain⟨i,_,hh⟩:=hh
  rw [ZC] at hh
  obtain⟨z,_,hh⟩:=hh
  split at hh<;>cases hh
  exact Steady.put _ _ _
 ·cases hh
theorem oE {cs:List AV}(h:iO s aI ds o cs=some s'):Steady s.h s'.h:=by
 unfold iO at h
 split at h
 rotate_left
 ·cases h
 split at h
 ·split at h
  ·split at h<;>cases h
   rw [jE]; exact Steady.refl _
  ·cases h
   rw [jE]; exact Steady.put _ _ _
 ·cases h
theorem ti (hcf:SteadyF cf){e:Operand→AV}(h:Aw P cf aI ds e s o=some s'):Steady s.h s'.h:=by
 have eO:∀{x:Option AV},(x.map fun x=>s.set o.dst x)=some s'→Steady s.h s'.h:=by
  intro x hx
  obtain⟨z,rfl,rfl⟩:=Option.map_some' hx
  rw [jE]; exact Steady.refl _
 unfold Aw at h
 dsimp only at h
 split at h
 ·cases h; rw [jE]; exact Steady.refl _
 ·cases h; rw [jE]; exact Steady.refl _
 ·obtain⟨z,_,rfl⟩:=Option.map_some' h; rw [jE]; exact Steady.refl _
 ·rw [ZC] at h
  obtain⟨z,_,h⟩:=h
  exact oE h
 ·exact oE h
 ·exact eO h
 ·obtain⟨z,hz,rfl⟩:=Option.map_some' h
  unfold qu
  split
  ·rw [jE]; exact Steady.refl _
  ·rw [jE]; exact Steady.put _ _ _
 ·exact eO h
 ·split at h
  ·cases h
  split at h
  ·rw [ZC] at h
   obtain⟨cs,_,h⟩:=h
   obtain⟨z,_,rfl⟩:=Option.map_some' h
   exact Steady.refl _
  ·rw [ZC] at h
   obtain⟨ob,_,h⟩:=h
   cases ob with
   | map es=>cases h
   | row t cs=>cases h
   | cells cs=>
    obtain⟨z,_,rfl⟩:=Option.map_some' h
    exact Steady.put _ _ _
  ·cases h
 ·exact eO h
 ·exact eO h
 ·exact eO h
 ·exact eO h
 ·split at h
  ·exact eO h
  ·cases h
 ·cases h; rw [jE]; exact Steady.put _ _ _
 ·obtain⟨⟨z,h'⟩,hz,rfl⟩:=Option.map_some' h
  rw [jE]; exact pH hz
 ·exact eO h
 ·exact eO h
 ·exact eO h
 ·exact eO h
 ·exact eO h
 ·exact eO h
 ·split at h
  ·cases h
  obtain⟨h',hz,rfl⟩:=Option.map_some' h
  exact nw hz
 ·split at h
  ·cases h
  obtain⟨h',hz,rfl⟩:=Option.map_some' h
  exact nw hz
 ·exact eO h
 ·unfold gC at h
  split at h
  ·exact eO h
  ·obtain⟨⟨z,h'⟩,hz,rfl⟩:=Option.map_some' h
   rw [jE]; exact th hz
  ·obtain⟨⟨z,h'⟩,hz,rfl⟩:=Option.map_some' h
   rw [jE]; exact wP hz
  ·obtain⟨h',hz,rfl⟩:=Option.map_some' h
   rw [jE]; exact uO hz
  ·rw [ZC] at h
   obtain⟨v,_,h⟩:=h
   rw [ZC] at h
   obtain⟨vs,_,h⟩:=h
   rw [ZC] at h
   obtain⟨u,_,h⟩:=h
   exact eO h
  ·rw [ZC] at h
   obtain⟨v,_,h⟩:=h
   rw [ZC] at h
   obtain⟨vs,_,h⟩:=h
   rw [ZC] at h
   obtain⟨u,_,h⟩:=h
   exact eO h
  ·cases h
 ·split at h
  ·split at h
   ·obtain⟨⟨z,h'⟩,hz,rfl⟩:=Option.map_some' h
    rw [ZC] at hz
    obtain⟨⟨z0,h0⟩,hz,hm⟩:=hz
    rw [jE]; exact (hcf _ _ _ _ _ hz).trans (yF hm)
   ·cases h
  ·cases h
 ·cases h
theorem pI (hcf:SteadyF cf){ops:List Oper}(h:nj P cf aI ops s o=some s'):Steady s.h s'.h:=by
 unfold nj at h
 rw [ZC] at h
 obtain⟨w,_,h⟩:=h
 cases w with
 | true=>exact ti hcf (by simpa [wz] using h)
 | false=>
  simp only [ZN,if_false,ZE] at h
  subst h
  rw [jE]; exact Steady.refl _
theorem rA (hcf:SteadyF cf){ops:List Oper}:∀{l:List Oper} {s s':RS},rO P cf aI ops s l=some s'→Steady s.h s'.h
 | [],s,s',h=>by simp only [rO,ZE] at h; subst h; exact Steady.refl _
 | o::l,s,s',h=>by
  simp only [rO,ZC] at h
  obtain⟨s1,h1,h2⟩:=h
  exact (pI hcf h1).trans (rA hcf h2)
theorem rB (hcf:SteadyF cf){ops:List Oper}:∀{l:List Oper} {s r:RS} {es:List mO},py P cf aI ops s l=some (es,r)→Steady s.h r.h
 | [],s,r,es,h=>by simp only [py,ZE,ZL] at h; rw [h.2]; exact Steady.refl _
 | o::l,s,r,es,h=>by
  simp only [py,ZC,ZD] at h
  obtain⟨w,hw,s1,h1,⟨q9,r'⟩,h2,h3⟩:=h
  simp only [ZL] at h3
  obtain⟨_,rfl⟩:=h3
  have h4:nj P cf aI ops s o=some s1:=by unfold nj; rw [hw]; exact h1
  exact (pI hcf h4).trans (rB hcf h2)
theorem uP (hcf:SteadyF cf){ops:Array Oper}(h:ki P cf aI ops s=some s'):Steady s.h s'.h:=by
 unfold ki at h
 dsimp only at h
 split at h
 rotate_left
 ·cases h
 rw [ZC] at h
 obtain⟨⟨es,r⟩,AI,h⟩:=h
 simp only at h
 split at h
 ·cases h; exact rB hcf AI
 ·cases h
theorem gI (hcf:SteadyF cf){A:b9}{m:Nat}:∀(c:Code) (st jV:St) (e:Ex),bV P cf A m c st=some (e,jV)→Steady st.h jV.h
 | .skip,st,jV,e,h=>by simp only [bV,ZE,ZL] at h; rw [h.2]; exact Steady.refl _
 | .label _,st,jV,e,h=>by simp only [bV,ZE,ZL] at h; rw [h.2]; exact Steady.refl _
 | .ret,st,jV,e,h=>by simp only [bV,ZE,ZL] at h; rw [h.2]; exact Steady.refl _
 | .exit _,st,jV,e,h=>by simp only [bV,ZE,ZL] at h; rw [h.2]; exact Steady.refl _
 | .seq x y,st,jV,e,h=>by
  simp only [bV,ZC] at h
  obtain⟨⟨e1,s1⟩,h1,h2⟩:=h
  have:=gI hcf x st s1 e1 h1
  cases e1 with
  | norm=>exact this.trans (gI hcf y s1 jV e h2)
  | exit id=>simp only [ZE,ZL] at h2; rw [←h2.2]; exact this
  | ret=>simp only [ZE,ZL] at h2; rw [←h2.2]; exact this
 | .cond k x y,st,jV,e,h=>by
  simp only [bV,ZC] at h
  obtain⟨t,_,h⟩:=h
  cases t with
  | true=>exact gI hcf x st jV e (by simpa using h)
  | false=>exact gI hcf y st jV e (by simpa using h)
 | .block id x,st,jV,e,h=>by
  simp only [bV,ZD] at h
  obtain⟨⟨e1,s1⟩,h1,h2⟩:=h
  have:=gI hcf x st s1 e1 h1
  cases e1<;>(simp only [ZL] at h2; rw [←h2.2]; exact this)
 | .loop x,st,jV,e,h=>by
  simp only [bV] at h
  have key:∀(j:Nat) (st:St),lz (bV P cf A m x) j st=some (e,jV)→Steady st.h jV.h:=by
   intro j
   induction j with
   | zero=>intro st h; simp [lz] at h
   | succ j ih=>
    intro st h
    simp only [lz,ZC] at h
    obtain⟨⟨e1,s1⟩,h1,h2⟩:=h
    have:=gI hcf x st s1 e1 h1
    cases e1 with
    | norm=>exact this.trans (ih s1 h2)
    | exit id=>simp only [ZE,ZL] at h2; rw [←h2.2]; exact this
    | ret=>simp only [ZE,ZL] at h2; rw [←h2.2]; exact this
  exact key m st h
 | .region id ops draw,st,jV,e,h=>by
  simp only [bV,ZC,ZD,ZL] at h
  obtain⟨s0,h0,s',h1,s2,h2,_,rfl⟩:=h
  rw [Iw]
  refine ((nt h0).trans ?_).trans (nt h2)
  cases draw with
  | true=>exact uP (s:=s0) hcf (by simpa using h1)
  | false=>exact rA (s:=s0) hcf (by simpa using h1)
 | .rangeFunc ..,st,jV,e,h=>by simp [bV] at h
 | .scope ..,st,jV,e,h=>by simp [bV] at h
 | .goto ..,st,jV,e,h=>by simp [bV] at h
 | .refuse ..,st,jV,e,h=>by simp [bV] at h
theorem wQ (hcf:SteadyF cf){aY:FuncId→b9}{m:Nat}:SteadyF (bf P aY cf m):=by
 intro f args h r h' hc
 unfold bf at hc
 rw [ZC] at hc
 obtain⟨fn,hf,hc⟩:=hc
 rw [ZC] at hc
 obtain⟨c,hb,hc⟩:=hc
 split at hc
 rotate_left
 ·cases hc
 rw [ZC] at hc
 obtain⟨⟨e,st⟩,hex,hc⟩:=hc
 have:=gI hcf c _ _ _ hex
 cases e with
 | norm=>obtain⟨r',_,h2⟩:=Option.map_some' hc; cases h2; exact this
 | ret=>obtain⟨r',_,h2⟩:=Option.map_some' hc; cases h2; exact this
 | exit id=>cases hc
end
end Go.R
namespace Go.R
open Go
section
variable {P:Program}{cf:CallF}{aI ds:List Nat}{o:Oper}{s s':RS}
theorem D7 {e e':Operand→AV}(h:∀x∈o.op.operands,e x=e' x):Aw P cf aI ds e s o=Aw P cf aI ds e' s o:=by
 have Nd:∀(l:List Operand),(∀x∈l,e x=e' x)→l.map e=l.map e':=fun l hl=>aaT hl
 have Kw:∀(q:Option Operand),(∀x,q=some x→e x=e' x)→q.map e=q.map e':=by
  intro q hq; cases q with
  | none=>rfl
  | some x=>simp [hq x rfl]
 unfold Aw
 cases B7:o.op<;>rw [B7] at h
 case build t ps=>
  have:(ps.toList.map fun (i,x)=>(i,e x))=(ps.toList.map fun (i,x)=>(i,e' x)):=
   aaT fun p hp=>by
    have:=h p.2 (by simp only [Op.operands,List.mem_toArray,aah]; exact⟨p,hp,rfl⟩)
    simp [this]
  simp only [this]
 case buildSlice t n ps=>
  have:(ps.toList.map fun (i,x)=>(i,e x))=(ps.toList.map fun (i,x)=>(i,e' x)):=
   aaT fun p hp=>by
    have:=h p.2 (by simp only [Op.operands,List.mem_toArray,aah]; exact⟨p,hp,rfl⟩)
    simp [this]
  simp only [this]
 case makeFunc f first cap=>
  have:cap.toList.map e=cap.toList.map e':=Nd _ fun x hx=>h x (by simp only [Op.operands,Array.mem_append]; right; exact aaz.1 hx)
  cases f<;>first | rfl | simp only [this]
 case makeMap t r=>cases r<;>rfl
 case slice t x lo hi mx=>
  have h1:e x=e' x:=h x (by simp [Op.operands])
  have h2:=Kw lo fun y hy=>h y (by simp [Op.operands,hy])
  have h3:=Kw hi fun y hy=>h y (by simp [Op.operands,hy])
  have h4:=Kw mx fun y hy=>h y (by simp [Op.operands,hy])
  simp only [h1,h2,h3,h4]
 case call c=>
  obtain⟨callee,args,B4⟩:=c
  have h1:args.toList.map e=args.toList.map e':=Nd _ fun x hx=>h x (by
   simp only [Op.operands,Call.operands]
   cases callee<;>simp<;>first | exact aaz.1 hx | (right; exact aaz.1 hx) | (left; exact aaz.1 hx))
  cases callee with
  | builtin b=>simp only [h1]
  | value f=>
   have h2:e f=e' f:=h f (by simp [Op.operands,Call.operands])
   simp only [h1,h2]
  | invoke r nm=>rfl
 all_goals first
  | rfl
  | (simp [Op.operands] at h; simp [h])
end
theorem pJ (acc:List Nat)(i:Nat):∀(l:List Edge) (m:Nat),(l.foldl (fun m e=>bif Region.binds .any e then m ||| (2 ^ e.on ||| acc.getD e.on 0) else m) m).testBit i=true→
  m.testBit i=true∨∃e∈l,Region.binds .any e=true∧(e.on=i∨(acc.getD e.on 0).testBit i=true)
 | [],m,h=>.inl h
 | e::l,m,h=>by
  rcases pJ acc i l _ h with h1 | ⟨e',he,h1⟩
  ·dsimp only at h1
   cases hb:Region.binds .any e with
   | false=>rw [hb] at h1; exact .inl h1
   | true=>
    rw [hb] at h1
    simp only [cond_true,Nat.testBit_or,aar,Nat.testBit_two_pow,decide_eq_true_eq] at h1
    rcases h1 with h1 | h1 | h1
    ·exact .inl h1
    ·exact .inr ⟨e,by simp,hb,.inl h1⟩
    ·exact .inr ⟨e,by simp,hb,.inr h1⟩
  ·exact .inr ⟨e',by simp [he],h1⟩
theorem rC:∀(l:List Oper) (acc:List Nat),(∀j,j<acc.length→(jO acc l).getD j 0=acc.getD j 0)∧
  ∀j i,((jO acc l).getD j 0).testBit i=true→acc.length≤j→∃o,l[j - acc.length]? = some o∧∃e∈o.after.toList,Region.binds .any e=true∧(e.on=i∨((jO acc l).getD e.on 0).testBit i=true)
 | [],acc=>⟨fun j hj=>rfl,fun j i h hj=>by simp [jO,List.getD,Z5 hj] at h⟩
 | o::l,acc=>by
  simp only [jO]
  generalize hm:(o.after.toList.foldl (fun m e=>bif Region.binds .any e then m ||| (2 ^ e.on ||| acc.getD e.on 0) else m) 0)=m
  obtain⟨h1,h2⟩:=rC l (acc++[m])
  have hold:∀j,j<acc.length→(jO (acc++[m]) l).getD j 0=acc.getD j 0:=fun j hj=>by
   rw [h1 j (by simp; omega)]
   simp [List.getD,ZS hj]
  refine⟨hold,fun j i h hj=>?_⟩
  by_cases V6:j=acc.length
  ·subst V6
   have:(jO (acc++[m]) l).getD acc.length 0=m:=by
    rw [h1 _ (by simp)]; simp [List.getD]
   rw [this,←hm] at h
   rcases pJ acc i _ _ h with h3 | ⟨e,he,hb,h3⟩
   ·simp at h3
   ·refine⟨o,by simp,e,he,hb,h3.imp id fun h4=>?_⟩
    by_cases hl:e.on<acc.length
    ·rw [hold _ hl]; exact h4
    ·simp [List.getD,Z5 (Nat.not_lt.1 hl)] at h4
  ·obtain⟨o',Mp,h3⟩:=h2 j i h (by simp; omega)
   refine⟨o',?_,h3⟩
   rw [show j - acc.length=(j - (acc++[m]).length)+1 by simp; omega]
   simpa using Mp
theorem k9 {α:Type}(p:Nat→α→Nat→α→Bool):∀(l:List α) (k:Nat),px p k l=true→∀i j x y,i<j→l[i]? = some x→l[j]? = some y→p (k+i) x (k+j) y=true
 | [],k,_,i,j,x,y,_,hx,_=>by simp at hx
 | a::l,k,h,i,j,x,y,Ah,hx,hy=>by
  simp only [px,ZF,ZX] at h
  obtain⟨h1,h2⟩:=h
  cases j with
  | zero=>omega
  | succ j=>
   cases i with
   | zero=>
    simp only [aag,ZE] at hx
    subst hx
    have:=h1 (y,k+1+j) (by rw [List.mk_add_mem_zipIdx_iff_getElem?]; simpa using hy)
    simpa [aaB,aa7 1 j] using this
   | succ i=>
    have:=k9 p l (k+1) h2 i j x y (by omega) (by simpa using hx) (by simpa using hy)
    rw [show k+(i+1)=k+1+i by omega,show k+(j+1)=k+1+j by omega]
    exact this
theorem pK:∀(l:List Oper) (k:Nat),sk k l=true→∀i o,l[i]? = some o→∀e∈o.after.toList,Region.binds .any e=true→e.on<k+i
 | [],k,_,i,o,h,_,_,_=>by simp at h
 | a::l,k,h,i,o,ho,e,he,hb=>by
  simp only [sk,ZF,ZX] at h
  obtain⟨h1,h2⟩:=h
  cases i with
  | zero=>
   simp only [aag,ZE] at ho
   subst ho
   have:=h1 e he
   simp only [hb,aaC,Bool.false_or] at this
   exact Nat.blt_eq.mp this
  | succ i=>
   have:=pK l (k+1) h2 i o (by simpa using ho) e he hb
   omega
theorem pL {V:Type}{n i:Nat}(hi:i≤n){W:Nat→Prop}{S:Nat→Bool}{m x:Nat→V}(h0:m 0=x 0)(Ng:∀k,k<n→W k→S k=true→m (k+1)=x (k+1))(oR:∀k,k<n→(¬W k∨S k=false)→m (k+1)=m k)
  (hx:∀k,k<n→¬W k→x (k+1)=x k) (hS:∀k,k<n→W k→(S k=true↔k<i)):m n=x i:=by
 have key:∀k,k≤n→m k=x (min k i):=by
  intro k
  induction k with
  | zero=>intro _; simpa using h0
  | succ k ih=>
   intro hk
   have ih:=ih (by omega)
   by_cases hw:W k
   ·have hs:=hS k (by omega) hw
    by_cases yG:k<i
    ·rw [Ng k (by omega) hw (hs.2 yG),aa0 (by omega)]
    ·have:S k=false:=by
      cases h:S k with
      | false=>rfl
      | true=>exact absurd (hs.1 h) yG
     rw [oR k (by omega) (.inr this),ih,Nat.min_eq_right (by omega),Nat.min_eq_right (by omega)]
   ·rw [oR k (by omega) (.inl hw),ih]
    by_cases yG:k<i
    ·rw [aa0 (by omega),aa0 (by omega),hx k (by omega) hw]
    ·rw [Nat.min_eq_right (by omega),Nat.min_eq_right (by omega)]
 rw [key n (ZI n),Nat.min_eq_right hi]
open Classical in
theorem wR {V:Type}{n i:Nat}(hi:i<n){W:Nat→Prop}{S S':Nat→Bool}{m m' x:Nat→V}(h0:m' 0=m 0)(Ng:∀k,k<n→W k→S k=true→m (k+1)=x (k+1))(oR:∀k,k<n→(¬W k∨S k=false)→m (k+1)=m k)
  (Nh:∀k,k<n→W k→S' k=true→m' (k+1)=x (k+1)) (Kx:∀k,k<n→(¬W k∨S' k=false)→m' (k+1)=m' k)
  (D8:∀k,S' k=if k=i then true else S k) (Ni:S i=false) (hl:W i→∀j,j<n→i<j→W j→S j=false):m' n=if W i then x (i+1) else m n:=by
 have key:∀k,k≤n→m' k=if i<k∧W i then x (i+1) else m k:=by
  intro k
  induction k with
  | zero=>intro _; simpa using h0
  | succ k ih=>
   intro hk
   have ih:=ih (by omega)
   by_cases yG:k=i
   ·subst yG
    by_cases hw:W k
    ·rw [Nh k (by omega) hw (by rw [D8]; simp),if_pos ⟨by omega,hw⟩]
    ·rw [Kx k (by omega) (.inl hw),ih,if_neg (fun h=>hw h.2),if_neg (fun h=>hw h.2),oR k (by omega) (.inl hw)]
   ·have hs:S' k=S k:=by rw [D8,if_neg yG]
    by_cases hw:W k
    ·cases qA:S k with
     | true=>
      rw [Nh k (by omega) hw (hs.trans qA)]
      by_cases E6:i<k+1∧W i
      ·have:=hl E6.2 k (by omega) (by omega) hw
       rw [qA] at this; cases this
      ·rw [if_neg E6,Ng k (by omega) hw qA]
     | false=>
      rw [Kx k (by omega) (.inr (hs.trans qA)),ih,oR k (by omega) (.inr qA)]
      by_cases E6:i<k∧W i
      ·rw [if_pos E6,if_pos ⟨by omega,E6.2⟩]
      ·rw [if_neg E6,if_neg (fun h=>E6 ⟨by omega,h.2⟩)]
    ·rw [Kx k (by omega) (.inl hw),ih,oR k (by omega) (.inl hw)]
     by_cases E6:i<k∧W i
     ·rw [if_pos E6,if_pos ⟨by omega,E6.2⟩]
     ·rw [if_neg E6,if_neg (fun h=>E6 ⟨by omega,h.2⟩)]
 rw [key n (ZI n)]
 by_cases hw:W i
 ·rw [if_pos ⟨hi,hw⟩,if_pos hw]
 ·rw [if_neg (fun h=>hw h.2),if_neg hw]
structure tj (P:Program)(cf:CallF)(aI:List Nat)(ops:Array Oper)(tx:Nat→RS)(ft:Nat→lu)(ord:Nat→Nat→Prop):Prop where
 op:∀k o,ops[k]? = some o→∃w,ik ops.toList (tx k).ρ o=some w∧(if w then wz P cf aI (ops.toList.filterMap (·.dst)) (tx k) o=some (tx (k+1))∧ft k=bw aI (bX (tx k).ρ) o else tx (k+1)=(tx k).set o.dst (.tup [])∧ft k={})
 Ky:∀k i,ord k i→∃o,ops[i]? = some o∧∃e∈o.after,Region.binds .any e=true∧(e.on=k∨ord k e.on)
 back:∀i o,ops[i]? = some o→∀e∈o.after,Region.binds .any e=true→e.on<i
 JQ:∀i j x y,i≠j→ops[i]? = some x→ops[j]? = some y→ord i j∨ord j i∨∀d,x.dst=some d→d∉y.looksAt ops∧y.dst≠some d
 boxes:∀i j,i<ops.size→j<ops.size→i≠j→ord i j∨ord j i∨(∀k,(ft i).wb=some k→k∉(ft j).rb∧(ft j).wb≠some k)∧((ft i).wh=true→(ft j).wh=false∧∀id∈(ft j).rh,(tx i).h.get id=(tx (i+1)).h.get id)
 P4:∀i o d,ops[i]? = some o→(ft i).al=true→o.dst=some d→(∀t∈ops.toList.filterMap (·.dst),t≠d→∀off,(tx 0).ρ t≠.lp d off)∧∀j y t,ops[j]? = some y→j≠i→ord i j∨(y.dst=some t→∀off,(tx (j+1)).ρ t≠.lp d off)
section
variable {P:Program}{cf:CallF}{aI:List Nat}{ops:Array Oper}{tx:Nat→RS}{ft:Nat→lu}{ord:Nat→Nat→Prop}
def jF (ops:Array Oper)(k:Nat):Option Nat:=(ops[k]?).bind (·.dst)
def kH (ops:Array Oper)(tx:Nat→RS)(ft:Nat→lu)(S:Nat→Bool):Nat→RS
 | 0=>tx 0
 | k+1=>if S k then (kH ops tx ft S k).shift (ft k) (jF ops k) (tx (k+1)) else kH ops tx ft S k
theorem tj.shift (T:tj P cf aI ops tx ft ord){k:Nat}(hk:k<ops.size):tx (k+1)=(tx k).shift (ft k) (jF ops k) (tx (k+1)):=by
 have ho:ops[k]? = some ops[k]:=by simp [hk]
 obtain⟨w,hw,h⟩:=T.op k _ ho
 have hd:jF ops k=ops[k].dst:=by simp [jF,hk]
 rw [hd]
 cases w with
 | true=>
  simp only [if_true] at h
  obtain⟨h1,h2⟩:=h
  have:=vu (s2:=tx k) (e:=bX (tx k).ρ) h1 (fun _ _=>rfl) (fun _ _=>rfl) (fun _=>rfl) (fun pt d Ae=>by
   unfold wz Aw at h1
   dsimp only at h1
   have JR:∀(cs:List AV) (s s':RS),iO s aI (ops.toList.filterMap (·.dst)) ops[k] cs=some s'→aI.contains d=true→sM d s.ρ ((ops.toList.filterMap (·.dst)).filter fun t=>!Nat.beq t d)=true:=by
    intro cs s s' hb hl
    unfold iO at hb
    simp only [Ae,hl,if_true] at hb
    by_cases hn:sM d s.ρ ((ops.toList.filterMap (·.dst)).filter fun t=>!Nat.beq t d)=true
    ·exact hn
    ·simp [hn] at hb
   unfold bw at pt
   split at pt
   ·rename_i t B7
    rw [Ae] at pt
    simp only at pt
    split at pt
    ·rename_i hl
     rw [B7] at h1
     simp only [ZC] at h1
     obtain⟨z,_,h1⟩:=h1
     exact JR _ _ _ h1 hl
    ·cases pt
   ·rename_i t x B7
    rw [Ae] at pt
    simp only at pt
    split at pt
    ·rename_i hl
     rw [B7] at h1
     exact JR _ _ _ h1 hl
    ·cases pt
   all_goals first
    | (split at pt<;>cases pt)
    | (split at pt<;>first | cases pt | (split at pt<;>cases pt))
    | cases pt)
  unfold wz at h1
  rw [h1] at this
  rw [h2]
  exact aaf this
 | false=>
  simp only [ZN,if_false] at h
  rw [h.1,h.2]
  exact iV (tx k) (tx k) {} _ _ rfl rfl
theorem sq (s2:RS)(f:lu)(d:Option Nat)(s':RS)(t:Nat):(s2.shift f d s').ρ t=if d=some t then s'.ρ t else s2.ρ t:=by
 cases d with
 | none=>simp [RS.shift]
 | some d=>
  simp only [RS.shift,ZE]
  by_cases h:t=d
  ·subst h; simp
  ·rw [if_neg h,if_neg (Ne.symm h)]
theorem pM (s2:RS)(f:lu)(d:Option Nat)(s':RS)(b:Nat):(s2.shift f d s').bx b=if f.wb=some b then s'.bx b else s2.bx b:=by
 cases hf:f.wb with
 | none=>simp [RS.shift,hf]
 | some k=>
  simp only [RS.shift,hf,ZE]
  by_cases h:b=k
  ·subst h; simp
  ·rw [if_neg h,if_neg (Ne.symm h)]
theorem tj.lt (T:tj P cf aI ops tx ft ord):∀{j k:Nat},ord k j→k<j:=by
 intro j
 induction j using Nat.strongRecOn with
 | _ j ih=>
  intro k h
  obtain⟨o,ho,e,he,hb,h1⟩:=T.Ky k j h
  have h2:=T.back j o ho e he hb
  rcases h1 with h1 | h1
  ·omega
  ·have:=ih e.on h2 h1; omega
def qD (ops:Array Oper)(S:Nat→Bool):Prop:=∀j o,ops[j]? = some o→S j=true→∀e∈o.after,Region.binds .any e=true→S e.on=true
theorem tj.down (T:tj P cf aI ops tx ft ord){S:Nat→Bool}(hc:qD ops S):∀{j k:Nat},ord k j→S j=true→S k=true:=by
 intro j
 induction j using Nat.strongRecOn with
 | _ j ih=>
  intro k h hs
  obtain⟨o,ho,e,he,hb,h1⟩:=T.Ky k j h
  have h2:=T.back j o ho e he hb
  have h3:=hc j o ho hs e he hb
  rcases h1 with h1 | h1
  ·rw [←h1]; exact h3
  ·exact ih e.on h2 h1 h3
variable {S:Nat→Bool}{i:Nat}{oi:Oper}
theorem tj.before (T:tj P cf aI ops tx ft ord)(hc:qD ops S)(ho:ops[i]? = some oi)(hr:∀e∈oi.after,Region.binds .any e=true→S e.on=true){k:Nat}(h:ord k i):S k=true:=by
 obtain⟨o,Mp,e,he,hb,h1⟩:=T.Ky k i h
 rw [ho] at Mp
 cases Mp
 rcases h1 with h1 | h1
 ·rw [←h1]; exact hr e he hb
 ·exact T.down hc h1 (hr e he hb)
theorem tj.iff (T:tj P cf aI ops tx ft ord)(hc:qD ops S)(ho:ops[i]? = some oi)(hr:∀e∈oi.after,Region.binds .any e=true→S e.on=true)(hi:S i=false){k:Nat}(h:ord i k∨ord k i):S k=true↔k<i:=by
 rcases h with h | h
 ·have:=T.lt h
  refine⟨fun hk=>?_,fun _=>by omega⟩
  have:=T.down hc h hk
  rw [hi] at this; cases this
 ·exact⟨fun _=>T.lt h,fun _=>T.before hc ho hr h⟩
theorem wS (t:Nat)(k:Nat)(hd:jF ops k=some t)(hs:S k=true):(kH ops tx ft S (k+1)).ρ t=(tx (k+1)).ρ t:=by
 simp only [kH,hs,if_true,sq,hd]
theorem wT (t:Nat)(k:Nat)(h:¬jF ops k=some t∨S k=false):(kH ops tx ft S (k+1)).ρ t=(kH ops tx ft S k).ρ t:=by
 simp only [kH]
 split
 ·rename_i hs
  rcases h with h | h
  ·rw [sq,if_neg h]
  ·rw [h] at hs; cases hs
 ·rfl
theorem wU (b:Nat)(k:Nat)(hd:(ft k).wb=some b)(hs:S k=true):(kH ops tx ft S (k+1)).bx b=(tx (k+1)).bx b:=by
 simp only [kH,hs,if_true,pM,hd]
theorem wV (b:Nat)(k:Nat)(h:¬(ft k).wb=some b∨S k=false):(kH ops tx ft S (k+1)).bx b=(kH ops tx ft S k).bx b:=by
 simp only [kH]
 split
 ·rename_i hs
  rcases h with h | h
  ·rw [pM,if_neg h]
  ·rw [h] at hs; cases hs
 ·rfl
theorem wW (k:Nat)(hd:(ft k).wh=true)(hs:S k=true):(kH ops tx ft S (k+1)).h=(tx (k+1)).h:=by
 simp only [kH,hs,if_true,RS.shift,hd]
theorem wX (k:Nat)(h:¬(ft k).wh=true∨S k=false):(kH ops tx ft S (k+1)).h=(kH ops tx ft S k).h:=by
 simp only [kH]
 split
 ·rename_i hs
  rcases h with h | h
  ·simp only [RS.shift]; rw [if_neg h]
  ·rw [h] at hs; cases hs
 ·rfl
theorem tj.P5 (T:tj P cf aI ops tx ft ord)(t:Nat)(k:Nat)(hk:k<ops.size)(h:¬jF ops k=some t):(tx (k+1)).ρ t=(tx k).ρ t:=by
 rw [T.shift hk,sq,if_neg h]
theorem tj.Nj (T:tj P cf aI ops tx ft ord)(b:Nat)(k:Nat)(hk:k<ops.size)(h:¬(ft k).wb=some b):(tx (k+1)).bx b=(tx k).bx b:=by
 rw [T.shift hk,pM,if_neg h]
theorem tj.Kz (T:tj P cf aI ops tx ft ord)(k:Nat)(hk:k<ops.size)(h:¬(ft k).wh=true):(tx (k+1)).h=(tx k).h:=by
 rw [T.shift hk]; simp only [RS.shift]; rw [if_neg h]
theorem tj.reads (T:tj P cf aI ops tx ft ord)(hc:qD ops S)(ho:ops[i]? = some oi)(hr:∀e∈oi.after,Region.binds .any e=true→S e.on=true)(hi:S i=false) :
  (∀t∈oi.looksAt ops,(kH ops tx ft S ops.size).ρ t=(tx i).ρ t)∧(∀b∈(ft i).rb,(kH ops tx ft S ops.size).bx b=(tx i).bx b)∧
  (∀id∈(ft i).rh,(kH ops tx ft S ops.size).h.get id=(tx i).h.get id)∧((ft i).wh=true→(kH ops tx ft S ops.size).h=(tx i).h):=by
 have hin:i<ops.size:=(aac.1 ho).1
 have AF:∀k,k<ops.size→ops[k]? = some ops[k]!:=fun k hk=>by simp [hk]
 have FH:∀k,k=i→(S k=true↔k<i):=by
  rintro k rfl
  rw [hi]; simp
 refine⟨fun t ht=>?_,fun b hb=>?_,fun id hid=>?_,fun hw=>?_⟩
 ·refine pL (W:=fun k=>jF ops k=some t) (m:=fun k=>(kH ops tx ft S k).ρ t) (x:=fun k=>(tx k).ρ t) (S:=S) (Nat.le_of_lt hin) rfl (fun k _ h hs=>wS t k h hs) (fun k _ h=>wT t k h) (fun k hk h=>T.P5 t k hk h) (fun k hk h=>?_)
  by_cases yG:k=i
  ·exact FH k yG
  ·obtain⟨y,hy,KA⟩:=ZC.1 h
   rcases T.JQ k i y oi yG hy ho with h1 | h1 | h1
   ·exact T.iff hc ho hr hi (.inr h1)
   ·exact T.iff hc ho hr hi (.inl h1)
   ·exact absurd ht (h1 t KA).1
 ·refine pL (W:=fun k=>(ft k).wb=some b) (m:=fun k=>(kH ops tx ft S k).bx b) (x:=fun k=>(tx k).bx b) (S:=S) (Nat.le_of_lt hin) rfl (fun k _ h hs=>wU b k h hs) (fun k _ h=>wV b k h) (fun k hk h=>T.Nj b k hk h) (fun k hk h=>?_)
  by_cases yG:k=i
  ·exact FH k yG
  ·rcases T.boxes k i hk hin yG with h1 | h1 | h1
   ·exact T.iff hc ho hr hi (.inr h1)
   ·exact T.iff hc ho hr hi (.inl h1)
   ·exact absurd hb (h1.1 b h).1
 ·
  obtain⟨p,hp,M4⟩:∃p,p≤ops.size∧∀k,k<ops.size→(ft k).wh=true→(S k=true↔k<p):=by
   have key:∀m,m≤ops.size→(∀k,k<m→(ft k).wh=true→S k=true)∨∃p,p<m∧(ft p).wh=true∧S p=false∧∀k,k<p→(ft k).wh=true→S k=true:=by
    intro m
    induction m with
    | zero=>intro _; exact .inl fun k hk=>by omega
    | succ m ih=>
     intro hm
     rcases ih (by omega) with h | ⟨p,h1,h2⟩
     ·by_cases hw:(ft m).wh=true∧S m=false
      ·exact .inr ⟨m,by omega,hw.1,hw.2,h⟩
      ·refine .inl fun k hk TT=>?_
       by_cases V7:k=m
       ·subst V7
        cases hs:S k with
        | true=>rfl
        | false=>exact absurd ⟨TT,hs⟩ hw
       ·exact h k (by omega) TT
     ·exact .inr ⟨p,by omega,h2⟩
   rcases key ops.size (ZI _) with h | ⟨p,h1,h2,h3,h4⟩
   ·exact⟨ops.size,ZI _,fun k hk hw=>⟨fun _=>hk,fun _=>h k hk hw⟩⟩
   ·refine⟨p,by omega,fun k hk hw=>⟨fun hs=>?_,fun O5=>h4 k O5 hw⟩⟩
    rcases Nat.lt_or_ge k p with h5 | h5
    ·exact h5
    ·by_cases O5:k=p
     ·subst O5; rw [h3] at hs; cases hs
     ·rcases T.boxes p k h1 hk (Ne.symm O5) with h6 | h6 | h6
      ·have:=T.down hc h6 hs; rw [h3] at this; cases this
      ·have:=T.lt h6; omega
      ·have:=(h6.2 h2).1; rw [hw] at this; cases this
  have KB:(kH ops tx ft S ops.size).h=(tx p).h:=
   pL (W:=fun k=>(ft k).wh=true) (m:=fun k=>(kH ops tx ft S k).h) (x:=fun k=>(tx k).h) (S:=S) hp rfl (fun k _ h hs=>wW k h hs) (fun k _ h=>wX k h) (fun k hk h=>T.Kz k hk h) M4
  rw [KB]
  have JS:∀k,k<ops.size→(p≤k∧k<i)∨(i≤k∧k<p)→(tx (k+1)).h.get id=(tx k).h.get id:=by
   intro k hk hb
   by_cases hw:(ft k).wh=true
   ·have hs:=M4 k hk hw
    have yG:k≠i:=by
     rintro rfl
     rcases hb with hb | hb
     ·omega
     ·have:=hs.2 hb.2; rw [hi] at this; cases this
    rcases T.boxes k i hk hin yG with h1 | h1 | h1
    ·have hlt:=T.lt h1
     have:=hs.1 (T.before hc ho hr h1)
     omega
    ·have hlt:=T.lt h1
     have:=T.down hc h1 (hs.2 (by omega))
     rw [hi] at this; cases this
    ·exact ((h1.2 hw).2 id hid).symm
   ·rw [T.Kz k hk hw]
  have walk:∀a b,a≤b→b≤ops.size→(∀k,a≤k→k<b→(tx (k+1)).h.get id=(tx k).h.get id)→(tx b).h.get id=(tx a).h.get id:=by
   intro a b Nk
   induction b with
   | zero=>
     intro _ _; have:a=0:=by omega
     subst this; rfl
   | succ b ih=>
    intro hb hk
    by_cases P6:a=b+1
    ·subst P6; rfl
    ·rw [hk b (by omega) (by omega)]
     exact ih (by omega) (by omega) fun k h1 h2=>hk k h1 (by omega)
  rcases Nat.le_total p i with h | h
  ·exact (walk p i h (Nat.le_of_lt hin) fun k h1 h2=>JS k (by omega) (.inl ⟨h1,h2⟩)).symm
  ·exact walk i p h hp fun k h1 h2=>JS k (by omega) (.inr ⟨h1,h2⟩)
 ·refine pL (W:=fun k=>(ft k).wh=true) (m:=fun k=>(kH ops tx ft S k).h) (x:=fun k=>(tx k).h) (S:=S) (Nat.le_of_lt hin) rfl (fun k _ h hs=>wW k h hs) (fun k _ h=>wX k h) (fun k hk h=>T.Kz k hk h) (fun k hk h=>?_)
  by_cases yG:k=i
  ·exact FH k yG
  ·rcases T.boxes k i hk hin yG with h1 | h1 | h1
   ·exact T.iff hc ho hr hi (.inr h1)
   ·exact T.iff hc ho hr hi (.inl h1)
   ·have:=(h1.2 h).1; rw [hw] at this; cases this
theorem yH (t:Nat):∀k,(kH ops tx ft S k).ρ t=(tx 0).ρ t∨∃j,j<k∧S j=true∧jF ops j=some t∧(kH ops tx ft S k).ρ t=(tx (j+1)).ρ t
 | 0=>.inl rfl
 | k+1=>by
  by_cases h:jF ops k=some t∧S k=true
  ·exact .inr ⟨k,by omega,h.2,h.1,wS t k h.1 h.2⟩
  ·have h':¬jF ops k=some t∨S k=false:=by
    by_cases h1:jF ops k=some t
    ·right; cases hs:S k with
     | true=>exact absurd ⟨h1,hs⟩ h
     | false=>rfl
    ·exact .inl h1
   rw [wT t k h']
   rcases yH t k with h1 | ⟨j,h1,h2⟩
   ·exact .inl h1
   ·exact .inr ⟨j,by omega,h2⟩
theorem tk {k:Nat}{ρ:Nat→AV}:∀{l:List Nat},(∀t∈l,∀off,ρ t≠.lp k off)→sM k ρ l=true
 | [],_=>rfl
 | t::l,h=>by
  simp only [sM,ZF]
  refine⟨?_,tk fun u hu=>h u (by simp [hu])⟩
  have:=h t (by simp)
  split
  ·rename_i j off heq
   simp only [bne_iff_ne,ne_eq]
   rintro rfl
   exact this off heq
  ·rfl
open Classical in
theorem tj.next (T:tj P cf aI ops tx ft ord)(hc:qD ops S)(ho:ops[i]? = some oi)(hr:∀e∈oi.after,Region.binds .any e=true→S e.on=true)(hi:S i=false){S':Nat→Bool}(D8:∀k,S' k=if k=i then true else S k) :
  nj P cf aI ops.toList (kH ops tx ft S ops.size) oi=some (kH ops tx ft S' ops.size):=by
 have hin:i<ops.size:=(aac.1 ho).1
 obtain⟨h1,h2,h3,h4⟩:=T.reads hc ho hr hi
 obtain⟨w,hw,B7⟩:=T.op i oi ho
 have rQ:jF ops i=oi.dst:=by simp [jF,ho]
 have vw:∀j,i<j→j<ops.size→(ord i j∨ord j i)→S j=false:=by
  intro j Ah hj h
  cases hs:S j with
  | false=>rfl
  | true=>have:=(T.iff hc ho hr hi h).1 hs; omega
 have KB:kH ops tx ft S' ops.size=(kH ops tx ft S ops.size).shift (ft i) (jF ops i) (tx (i+1)):=by
  refine RS.ext' (fun t=>?_) (fun b=>?_) ?_
  ·rw [sq]
   have:=wR (W:=fun k=>jF ops k=some t) (m:=fun k=>(kH ops tx ft S k).ρ t) (m':=fun k=>(kH ops tx ft S' k).ρ t) (x:=fun k=>(tx k).ρ t) (S:=S) (S':=S') hin rfl
    (fun k _ h hs=>wS t k h hs) (fun k _ h=>wT t k h) (fun k _ h hs=>wS t k h hs) (fun k _ h=>wT t k h) D8 hi (fun Mr j hj Ah Nl=>by
     obtain⟨y,hy,KA⟩:=ZC.1 Nl
     rw [rQ] at Mr
     rcases T.JQ i j oi y (by omega) ho hy with h | h | h
     ·exact vw j Ah hj (.inl h)
     ·exact vw j Ah hj (.inr h)
     ·exact absurd KA (h t Mr).2)
   rw [this]
   by_cases hd:jF ops i=some t
   ·rw [if_pos hd,if_pos hd]
   ·rw [if_neg hd,if_neg hd]
  ·rw [pM]
   have:=wR (W:=fun k=>(ft k).wb=some b) (m:=fun k=>(kH ops tx ft S k).bx b) (m':=fun k=>(kH ops tx ft S' k).bx b) (x:=fun k=>(tx k).bx b) (S:=S) (S':=S') hin rfl
    (fun k _ h hs=>wU b k h hs) (fun k _ h=>wV b k h) (fun k _ h hs=>wU b k h hs) (fun k _ h=>wV b k h) D8 hi (fun Mr j hj Ah Nl=>by
     rcases T.boxes i j hin hj (by omega) with h | h | h
     ·exact vw j Ah hj (.inl h)
     ·exact vw j Ah hj (.inr h)
     ·exact absurd Nl (h.1 b Mr).2)
   rw [this]
   by_cases hd:(ft i).wb=some b
   ·rw [if_pos hd,if_pos hd]
   ·rw [if_neg hd,if_neg hd]
  ·have:=wR (W:=fun k=>(ft k).wh=true) (m:=fun k=>(kH ops tx ft S k).h) (m':=fun k=>(kH ops tx ft S' k).h) (x:=fun k=>(tx k).h) (S:=S) (S':=S') hin rfl
    (fun k _ h hs=>wW k h hs) (fun k _ h=>wX k h) (fun k _ h hs=>wW k h hs) (fun k _ h=>wX k h) D8 hi (fun Mr j hj Ah Nl=>by
     rcases T.boxes i j hin hj (by omega) with h | h | h
     ·exact vw j Ah hj (.inl h)
     ·exact vw j Ah hj (.inr h)
     ·have:=(h.2 Mr).1; rw [Nl] at this; cases this)
   rw [this]
   simp only [RS.shift]
   by_cases hd:(ft i).wh=true
   ·rw [if_pos hd,if_pos hd]
   ·rw [if_neg hd,if_neg hd]
 have Nn:∀x∈oi.op.operands,bX (kH ops tx ft S ops.size).ρ x=bX (tx i).ρ x:=by
  intro x hx
  cases x with
  | tmp t=>
   refine h1 t ?_
   unfold Oper.looksAt
   rw [aaa]
   left
   rw [List.mem_filterMap]
   exact⟨.tmp t,aaz.2 hx,rfl⟩
  | _=>rfl
 have No:ik ops.toList (kH ops tx ft S ops.size).ρ oi=ik ops.toList (tx i).ρ oi:=by
  unfold ik
  cases hg:oi.guard with
  | none=>rfl
  | some g=>
   obtain⟨g,want⟩:=g
   simp only
   cases hq:(ops.toList[g]?).bind (·.dst) with
   | none=>rfl
   | some d=>
    simp only [ZB]
    rw [h1 d]
    unfold Oper.looksAt
    rw [aaa]
    right
    rw [hg]
    simp only
    have:(ops[g]?).bind (·.dst)=some d:=by simpa using hq
    rw [this]
    simp
 unfold nj
 rw [No,hw]
 simp only [ZB]
 rw [KB,rQ]
 cases w with
 | false=>
  simp only [ZN,if_false] at B7 ⊢
  rw [B7.1,B7.2]
  congr 1
  exact iV (tx i) _ {} _ _ rfl rfl
 | true=>
  simp only [if_true] at B7 ⊢
  obtain⟨B7,Ms⟩:=B7
  unfold wz at B7 ⊢
  rw [D7 Nn,Ms]
  rw [Ms] at h2 h3 h4
  refine vu B7 h2 h3 h4 (fun pt d Ae=>tk fun t ht off he=>?_)
  rw [List.mem_filter] at ht
  obtain⟨V8,V9⟩:=ht
  have JJ:t≠d:=by simpa [beq_nat] using V9
  obtain⟨l1,l2⟩:=T.P4 i oi d ho (by rw [Ms]; exact pt) Ae
  rcases yH (ops:=ops) (tx:=tx) (ft:=ft) (S:=S) t ops.size with h | ⟨j,hj,hs,Wa,h⟩
  ·rw [h] at he
   exact l1 t V8 JJ off he
  ·rw [h] at he
   obtain⟨y,hy,KA⟩:=ZC.1 Wa
   have hji:j≠i:=by rintro rfl; rw [hi] at hs; cases hs
   rcases l2 j y t hy hji with h5 | h5
   ·have:=T.down hc h5 hs; rw [hi] at this; cases this
   ·exact h5 KA off he
theorem B8 (T:tj P cf aI ops tx ft ord)(lG:∀k,k<ops.size→S k=true):∀k,k≤ops.size→kH ops tx ft S k=tx k
 | 0,_=>rfl
 | k+1,hk=>by
  simp only [kH,lG k (by omega),if_true]
  rw [B8 T lG k (by omega)]
  exact (T.shift (by omega)).symm
def left (n:Nat)(S:Nat→Bool):Nat:=(aa6 n).countP fun j=>!S j
theorem D9 {n:Nat}{S:Nat→Bool}(h:left n S=0):∀k,k<n→S k=true:=by
 intro k hk
 unfold left at h
 rw [List.countP_eq_zero] at h
 simpa using h k (List.mem_range.2 hk)
theorem FI {n i:Nat}(hi:i<n){S S':Nat→Bool}(Ni:S i=false)(D8:∀k,S' k=if k=i then true else S k):left n S'+1=left n S:=by
 unfold left
 have:∀m,(aa6 m).countP (fun j=>!S' j)+(if i<m then 1 else 0)=(aa6 m).countP fun j=>!S j:=by
  intro m
  induction m with
  | zero=>simp
  | succ m ih=>
   rw [List.range_succ,List.countP_append,List.countP_append]
   simp only [List.countP_cons,List.countP_nil]
   by_cases hm:m=i
   ·subst hm
    have h1:S' m=true:=by rw [D8]; simp
    rw [h1,Ni]
    simp at ih ⊢
    omega
   ·have h1:S' m=S m:=by rw [D8,if_neg hm]
    rw [h1]
    by_cases TU:i<m
    ·have h3:i<m+1:=by omega
     simp only [TU,h3,if_true] at ih ⊢
     omega
    ·have h3:¬i<m+1:=by omega
     simp only [TU,h3,if_false] at ih ⊢
     omega
 have:=this n
 rw [if_pos hi] at this
 exact this
theorem KC (T:tj P cf aI ops tx ft ord)(hcf:CallOK P cf){L0:Nat→Prop}{c0:Cx}{n:Nat}(hb0:c0.base≤c0.w.heap.size)(HY:vt n ops.toList=true){Q:Exit→Act→World→Prop}
  (hQ:∀a' w',Inv L0 c0 n (ops.toList.filterMap (·.dst)) (tx ops.size) a' w'→Q .normal a' w') :
  ∀(fuel:Nat) (eP:Array Bool) (a:Act) (w:World),eP.size=ops.size→qD ops (fun j=>eP.getD j false)→left ops.size (fun j=>eP.getD j false)≤fuel→
   Inv L0 c0 n (ops.toList.filterMap (·.dst)) (kH ops tx ft (fun j=>eP.getD j false) ops.size) a w→wpAny P .any ops Q fuel eP a w:=by
 intro fuel
 have FJ:∀(eP:Array Bool) a w,eP.size=ops.size→Region.ready .any ops eP=[]→Inv L0 c0 n (ops.toList.filterMap (·.dst)) (kH ops tx ft (fun j=>eP.getD j false) ops.size) a w→Q .normal a w:=by
  intro eP a w hsz Mt hi
  have lG:∀k,k<ops.size→eP.getD k false=true:=by
   intro k
   induction k using Nat.strongRecOn with
   | _ k ih=>
    intro hk
    cases hl:eP.getD k false with
    | true=>rfl
    | false=>
     have:k∈Region.ready .any ops eP:=mem_ready.2 ⟨getD_in (by omega) hl,ops[k],by simp [hk],fun e he hb=>by
      have:=T.back k ops[k] (by simp [hk]) e he hb
      exact ih e.on this (by omega)⟩
     rw [Mt] at this
     cases this
  rw [B8 (S:=fun j=>eP.getD j false) T lG _ (ZI _)] at hi
  exact hQ a w hi
 induction fuel with
 | zero=>
  intro eP a w hsz hc hl hi
  have lG:=D9 (Nat.le_zero.1 hl)
  have Mt:Region.ready .any ops eP=[]:=by
   rw [List.eq_nil_iff_forall_not_mem]
   intro j hj
   obtain⟨h1,o,ho,_⟩:=mem_ready.1 hj
   have Np:j<ops.size:=(aac.1 ho).1
   have h2:=lG j Np
   have H3:j<eP.size:=by omega
   simp [H3] at h1 h2
   rw [h1] at h2; cases h2
  exact⟨Mt,FJ eP a w hsz Mt hi⟩
 | succ fuel ih=>
  intro eP a w hsz hc hl hi
  refine⟨fun Mt=>FJ eP a w hsz Mt hi,fun i Ix=>?_⟩
  obtain⟨h1,o,ho,Nq⟩:=mem_ready.1 Ix
  have hin:i<ops.size:=(aac.1 ho).1
  have TV:i<eP.size:=by omega
  have Ni:eP.getD i false=false:=by simp [TV] at h1 ⊢; exact h1
  have D8:∀k,(eP.setIfInBounds i true).getD k false=if k=i then true else eP.getD k false:=by
   intro k
   by_cases hk:k=i
   ·subst hk
    rw [if_pos rfl]
    simp [TV]
   ·rw [if_neg hk,getD_set_ne false (Ne.symm hk)]
  have hst:=T.next (S:=fun j=>eP.getD j false) (S':=fun k=>(eP.setIfInBounds i true).getD k false) hc ho Nq Ni D8
  unfold wpOp
  rw [ho]
  simp only
  have Nr:o∈ops.toList:=aaz.2 (Array.mem_of_getElem? ho)
  have:=yA (Q:=Q) (K:=wpAny P .any ops Q fuel (eP.setIfInBounds i true)) hcf hb0 rfl (yB HY Nr) hst hi (fun a' w' jY=>by
   refine ih _ a' w' (by simpa using hsz) ?_ ?_ jY
   ·intro j oj P7 hj e he hb
    dsimp only at hj ⊢
    rw [D8] at hj ⊢
    by_cases hji:j=i
    ·subst hji
     rw [ho] at P7
     cases P7
     have:=Nq e he hb
     rw [this]; simp
    ·rw [if_neg hji] at hj
     have:=hc j oj P7 hj e he hb
     simp only at this
     rw [this]; simp
   ·have:=FI hin (S:=fun j=>eP.getD j false) Ni D8
    omega)
  split
  ·rename_i hw; rw [if_pos hw] at this; exact .inl this
  ·rename_i hw; rw [if_neg hw] at this; exact this
theorem vz {opsL:List Oper}:∀(l:List Oper) (s r:RS) (es:List mO),py P cf aI opsL s l=some (es,r)→∃tx:Nat→RS,tx 0=s∧tx l.length=r∧
  ∀k o,l[k]? = some o→∃w,ik opsL (tx k).ρ o=some w∧(if w then wz P cf aI (opsL.filterMap (·.dst)) (tx k) o=some (tx (k+1)) else tx (k+1)=(tx k).set o.dst (.tup []))∧
   es[k]? = some {o,f:=if w then bw aI (bX (tx k).ρ) o else {},s:=tx k,s':=tx (k+1)}
 | [],s,r,es,h=>by
  simp only [py,ZE,ZL] at h
  obtain⟨rfl,rfl⟩:=h
  exact⟨fun _=>s,rfl,rfl,fun k o ho=>by simp at ho⟩
 | o::l,s,r,es,h=>by
  simp only [py,ZC,ZD] at h
  obtain⟨w,hw,s1,h1,⟨q9,r'⟩,h2,h3⟩:=h
  simp only [ZL] at h3
  obtain⟨rfl,rfl⟩:=h3
  obtain⟨tx,t0,tn,ht⟩:=vz l s1 r' q9 h2
  refine⟨fun | 0=>s | k+1=>tx k,rfl,tn,fun k o' ho=>?_⟩
  cases k with
  | zero=>
   simp only [aag,ZE] at ho
   subst ho
   refine⟨w,hw,?_,?_⟩
   ·cases w with
    | true=>simpa [t0] using h1
    | false=>
     simp only [ZN,if_false,ZE] at h1 ⊢
     rw [t0]; exact h1.symm
   ·simp [t0]
  | succ k=>
   obtain⟨w',h4,h5,h6⟩:=ht k o' (by simpa using ho)
   exact⟨w',h4,h5,by simpa using h6⟩
theorem FK {e:Operand→AV}{o:Oper}(h:(bw aI e o).al=true):(bw aI e o).wb.isSome=true:=by
 unfold bw at h ⊢
 split at h<;>try (cases h; done)
 all_goals (split at h<;>try (cases h; done))
 all_goals (split at h<;>try (cases h; done))
 all_goals simp_all
theorem Ea {k:Nat}{x:AV}(h:Kh k x=false):∀off,x≠.lp k off:=by
 rintro off rfl
 simp [Kh] at h
theorem yI (hm:P.follows .mixedOrders=true)(hcf:CallOK P cf)(Wb:SteadyF cf):AP P cf:=by
 intro L0 c0 n aI id ops s s' h hb0 HY a w Q hi hQ
 unfold ki at h
 dsimp only at h
 split at h
 rotate_left
 ·cases h
 rename_i wY
 rw [ZC] at h
 obtain⟨⟨es,r⟩,AI,h⟩:=h
 simp only at h
 split at h
 rotate_left
 ·cases h
 rename_i yJ
 cases h
 obtain⟨tx,t0,tn,ht⟩:=vz ops.toList s s' es AI
 generalize MN:jO [] ops.toList=ms at wY yJ
 have P8:∀k i,(ms.getD i 0).testBit k=true→∃o,ops[i]? = some o∧∃e∈o.after,Region.binds .any e=true∧(e.on=k∨(ms.getD e.on 0).testBit k=true):=by
  intro k i hk
  obtain⟨o,ho,e,he,hb,h1⟩:=(rC ops.toList []).2 i k (by rw [MN]; exact hk) (by simp)
  refine⟨o,by simpa using ho,e,aaz.1 he,hb,?_⟩
  rw [MN] at h1
  exact h1
 unfold nX at wY
 simp only [ZF] at wY
 obtain⟨KD,FL⟩:=wY
 let ft:Nat→lu:=fun k=>((es[k]?).map (·.f)).getD {}
 have sV:∀k o,ops[k]? = some o→∃w,ik ops.toList (tx k).ρ o=some w∧(if w then wz P cf aI (ops.toList.filterMap (·.dst)) (tx k) o=some (tx (k+1)) else tx (k+1)=(tx k).set o.dst (.tup []))∧
   es[k]? = some {o,f:=ft k,s:=tx k,s':=tx (k+1)}∧ft k=if w then bw aI (bX (tx k).ρ) o else {}:=by
  intro k o ho
  obtain⟨w,h1,h2,h3⟩:=ht k o (by simpa using ho)
  have Ms:ft k=if w then bw aI (bX (tx k).ρ) o else {}:=by simp only [ft,h3,ZJ,aaA]
  exact⟨w,h1,h2,by rw [Ms]; exact h3,Ms⟩
 have Ix:∀k o,ops[k]? = some o→((⟨o,ft k,tx k,tx (k+1)⟩:mO),k)∈es.zipIdx:=by
  intro k o ho
  obtain⟨w,_,_,h3,_⟩:=sV k o ho
  exact List.mk_mem_zipIdx_iff_getElem?.2 h3
 simp only [ZX,List.mem_filter,ZF] at yJ
 have rf:∀k o,ops[k]? = some o→(ft k).quiet=false→(((⟨o,ft k,tx k,tx (k+1)⟩:mO),k)∈es.zipIdx∧(!(ft k).quiet)=true):=fun k o ho hq=>⟨Ix k o ho,by rw [hq]; rfl⟩
 have AF:∀k,k<ops.size→ops[k]? = some ops[k]!:=fun k hk=>by simp [hk]
 have KE:∀i j x y,ops[i]? = some x→ops[j]? = some y→i≠j→(ft i).quiet=false→(ft j).quiet=false→(ms.getD j 0).testBit i=true∨(ms.getD i 0).testBit j=true∨
   mO.jN ⟨x,ft i,tx i,tx (i+1)⟩ ⟨y,ft j,tx j,tx (j+1)⟩=true:=by
  intro i j x y hx hy Ah JT H4
  rcases Nat.lt_or_ge i j with hlt | hge
  ·have:=(yJ _ (rf i x hx JT)).2 _ (rf j y hy H4)
   simp only [aar,ZF] at this
   rcases this with (h1 | h1) | h1
   ·have:=Nat.le_of_ble_eq_true h1; omega
   ·exact .inl h1
   ·exact .inr (.inr h1.1)
  ·have:=(yJ _ (rf j y hy H4)).2 _ (rf i x hx JT)
   simp only [aar,ZF] at this
   rcases this with (h1 | h1) | h1
   ·have:=Nat.le_of_ble_eq_true h1; omega
   ·exact .inr (.inl h1)
   ·exact .inr (.inr h1.2)
 have P9:∀id,(tx 0).h.ver id<(tx 0).h.next:=by
  obtain⟨_,c,Lo,lam,_,f,_⟩:=hi
  rw [t0,←f.h]; exact f.rel.ver
 have hst:∀k,k<ops.size→Steady (tx k).h (tx (k+1)).h:=by
  intro k hk
  obtain⟨w,h1,h2,_⟩:=sV k _ (AF k hk)
  cases w with
  | true=>exact ti Wb (by simpa [wz] using h2)
  | false=>
   simp only [ZN,if_false] at h2
   rw [h2,jE]; exact Steady.refl _
 have O6:∀k,k≤ops.size→∀id,(tx k).h.ver id<(tx k).h.next:=by
  intro k
  induction k with
  | zero=>intro _; exact P9
  | succ k ih=>intro hk; exact (hst k (by omega)).wf (ih (by omega))
 have T:tj P cf aI ops tx ft (fun k i=>(ms.getD i 0).testBit k=true):=by
  refine⟨fun k o ho=>?_,P8,fun i o ho e he hb=>?_,fun i j x y Ah hx hy=>?_,fun i j hin Np Ah=>?_,fun i o d ho pt hd=>?_⟩
  ·obtain⟨w,h1,h2,h3,h4⟩:=sV k o ho
   refine⟨w,h1,?_⟩
   cases w with
   | true=>exact⟨h2,h4⟩
   | false=>exact⟨h2,h4⟩
  ·have:=pK _ 0 KD i o (by simpa using ho) e (aaz.2 he) hb
   omega
  ·have Mu:∀x y:Oper,wA ops x y=true→∀d,x.dst=some d→d∉y.looksAt ops∧y.dst≠some d:=by
    intro x y h d hd
    unfold wA at h
    rw [hd] at h
    simpa using h
   rcases Nat.lt_or_ge i j with hlt | hge
   ·have:=k9 _ _ 0 FL i j x y hlt (by simpa using hx) (by simpa using hy)
    simp only [Z2,aar,ZF] at this
    rcases this with h1 | h1
    ·exact .inl h1
    ·exact .inr (.inr (Mu _ _ h1.1))
   ·have:=k9 _ _ 0 FL j i y x (by omega) (by simpa using hy) (by simpa using hx)
    simp only [Z2,aar,ZF] at this
    rcases this with h1 | h1
    ·exact .inr (.inl h1)
    ·exact .inr (.inr (Mu _ _ h1.2))
  ·cases JT:(ft i).quiet with
   | true=>
    unfold lu.quiet at JT
    simp only [ZF,Option.isNone_iff_eq_none,aaF] at JT
    exact .inr (.inr ⟨fun k hk=>(by rw [JT.1.1.2] at hk; cases hk),fun hk=>(by rw [JT.2] at hk; cases hk)⟩)
   | false=>
    cases H4:(ft j).quiet with
    | true=>
     unfold lu.quiet at H4
     simp only [ZF,Option.isNone_iff_eq_none,aaF,List.isEmpty_iff] at H4
     obtain⟨⟨⟨q1,q2⟩,q3⟩,q4⟩:=H4
     exact .inr (.inr ⟨fun k hk=>⟨by rw [q1]; simp,by rw [q2]; simp⟩,fun hk=>⟨q4,by rw [q3]; simp⟩⟩)
    | false=>
     rcases KE i j _ _ (AF i hin) (AF j Np) Ah JT H4 with h1 | h1 | h1
     ·exact .inl h1
     ·exact .inr (.inl h1)
     ·refine .inr (.inr ?_)
      unfold mO.jN at h1
      simp only [ZF,aar,aaF,ZX] at h1
      obtain⟨h2,h3⟩:=h1
      refine⟨fun k hk=>?_,fun hk=>?_⟩
      ·rw [hk] at h2
       simpa using h2
      ·rcases h3 with h3 | h3
       ·rw [hk] at h3; cases h3
       ·refine⟨h3.1,fun id hid=>?_⟩
        have hv:=aaH (h3.2 id hid)
        rcases (hst i hin).keep id with⟨_,h5⟩| h5
        ·exact h5.symm
        ·have:=O6 i (by omega) id; omega
  ·obtain⟨w,h1,h2,h3,h4⟩:=sV i o ho
   have hq:(ft i).quiet=false:=by
    cases w with
    | false=>rw [h4] at pt; cases pt
    | true=>
     rw [h4] at pt ⊢
     have:=FK pt
     unfold lu.quiet
     simp only [if_true] at this ⊢
     cases hwb:(bw aI (bX (tx i).ρ) o).wb with
     | none=>rw [hwb] at this; cases this
     | some k=>simp
   have:=(yJ _ (rf i o ho hq)).1
   unfold sm at this
   simp only [pt,hd] at this
   simp only [ZF,ZX,aar] at this
   obtain⟨k1,k2⟩:=this
   refine⟨fun t ht JJ off=>?_,fun j y t hy hji=>?_⟩
   ·rw [t0]
    exact qw k1 t (by rw [List.mem_filter]; exact⟨ht,by simpa [beq_nat] using JJ⟩) off
   ·have:=k2 _ (Ix j y hy)
    rcases this with (h5 | h5) | h5
    ·have:=aaH h5; omega
    ·exact .inl h5
    ·right
     intro KA off
     simp only [mO.out,KA,aaF] at h5
     exact Ea h5 off
 have hlen:tx ops.size=s':=by simpa using tn
 refine wp_region_any hm ?_
 refine KC T hcf hb0 HY (fun a' w' jY=>hQ a' w' (by rw [hlen] at jY; exact jY)) ops.size _ _ _ (by simp) ?_ ?_ ?_
 ·intro j o _ hj
  simp only [getD_replicate_false] at hj
  cases hj
 ·unfold left
  exact aap (List.countP_le_length) (by simp)
 ·have Fw:∀k,kH ops tx ft (fun j=>(Array.replicate ops.size false).getD j false) k=tx 0:=by
   intro k
   induction k with
   | zero=>rfl
   | succ k ih=>
    rw [kH,getD_replicate_false,if_neg (by simp)]
    exact ih
  rw [Fw,t0]
  exact hi.drew
end
end Go.R
namespace Go.R
open Go
section
variable {c d:Cx}{L L':Nat→Prop}
mutual
theorem B9 (hw:d.w=c.w)(hbs:d.base≤c.base)(lV:∀b,RO c L b→RO d L' b):∀(x:AV) (v:Value),x.eT=true→VR c L x v→VR d L' x v
 | .any,_,h,_=>by simp [AV.eT] at h
 | .bool _,_,_,h=>h
 | .int _ _,_,_,h=>h
 | .str _,_,_,h=>h
 | .ou,_,_,h=>h
 | .ptr _ _,_,h,_=>by simp [AV.eT] at h
 | .lp _ _,_,h,_=>by simp [AV.eT] at h
 | .fp cs off,v,h,hv=>by
  simp only [AV.eT] at h
  simp only [VR] at hv ⊢
  obtain⟨b,o,rfl,hc⟩:=hv
  exact⟨b,o,rfl,hc.imp id fun ⟨hr,hc⟩=>⟨lV b hr,oV hw hbs lV cs b o h hc⟩⟩
 | .nils,_,_,h=>h
 | .fz cs n ex,v,h,hv=>by
  simp only [AV.eT] at h
  simp only [VR] at hv ⊢
  obtain⟨a,cap,rfl,h1,h2,hs,hc⟩:=hv
  exact⟨a,cap,rfl,h1,h2,hs,hc.imp id fun ⟨b,o,ha,hr,hex,hc⟩=>⟨b,o,ha,lV b hr,fun h=>aap hbs (hex h),oV hw hbs lV cs b o h hc⟩⟩
 | .rs _ _ _ _,_,h,_=>by simp [AV.eT] at h
 | .mN,_,_,h=>h
 | .mp _,_,h,_=>by simp [AV.eT] at h
 | .fn f cap,v,h,hv=>by
  simp only [AV.eT] at h
  simp only [VR] at hv ⊢
  obtain⟨vs,rfl,h1⟩:=hv
  exact⟨vs,rfl,pN hw hbs lV cap vs.toList h h1⟩
 | .pv,_,_,h=>h
 | .agg cs,v,h,hv=>by
  simp only [AV.eT] at h
  simp only [VR] at hv ⊢
  obtain⟨vs,rfl,h1⟩:=hv
  exact⟨vs,rfl,pN hw hbs lV cs vs.toList h h1⟩
 | .tup cs,v,h,hv=>by
  simp only [AV.eT] at h
  simp only [VR] at hv ⊢
  obtain⟨vs,rfl,h1⟩:=hv
  exact⟨vs,rfl,pN hw hbs lV cs vs.toList h h1⟩
theorem pN (hw:d.w=c.w)(hbs:d.base≤c.base)(lV:∀b,RO c L b→RO d L' b):∀(xs:List AV) (vs:List Value),dq xs=true→VRs c L xs vs→VRs d L' xs vs
 | [],[],_,_=>trivial
 | x::xs,v::vs,h,hv=>by
  simp only [dq,ZF] at h
  exact⟨B9 hw hbs lV x v h.1 hv.1,pN hw hbs lV xs vs h.2 hv.2⟩
 | [],_::_,_,h=>h.elim
 | _::_,[],_,h=>h.elim
theorem oV (hw:d.w=c.w)(hbs:d.base≤c.base)(lV:∀b,RO c L b→RO d L' b):∀(xs:List AV) (b o:Nat),dq xs=true→Cells c L xs b o→Cells d L' xs b o
 | [],_,_,_,_=>trivial
 | x::xs,b,o,h,hv=>by
  simp only [dq,ZF] at h
  obtain⟨⟨v,h1,h2,h3⟩,h4⟩:=hv
  exact⟨⟨v,by rw [hw]; exact h1,h2,B9 hw hbs lV x v h.1 h3⟩,oV hw hbs lV xs b (o+1) h.2 h4⟩
end
mutual
theorem wZ (hw:d.w=c.w)(lV:∀b,RO c L b→RO d L' b):∀(x:AV) (v:Value),x.eT=true→VR c L x v→VR d L' x.jM v
 | .any,_,h,_=>by simp [AV.eT] at h
 | .bool _,_,_,h=>h
 | .int _ _,_,_,h=>h
 | .str _,_,_,h=>h
 | .ou,_,_,h=>h
 | .ptr _ _,_,h,_=>by simp [AV.eT] at h
 | .lp _ _,_,h,_=>by simp [AV.eT] at h
 | .fp cs off,v,h,hv=>by
  simp only [AV.eT] at h
  simp only [VR,AV.jM] at hv ⊢
  obtain⟨b,o,rfl,hc⟩:=hv
  refine⟨b,o,rfl,?_⟩
  rcases hc with rfl | ⟨hr,hc⟩
  ·exact .inl rfl
  ·exact .inr ⟨lV b hr,qE hw lV cs b o h hc⟩
 | .nils,v,_,h=>by
  simp only [VR] at h
  simp only [AV.jM,VR]
  exact⟨none,0,h,ZI _,by simp,.inr ⟨trivial,rfl⟩,.inl trivial⟩
 | .fz cs n ex,v,h,hv=>by
  simp only [AV.eT] at h
  simp only [VR,AV.jM] at hv ⊢
  obtain⟨a,cap,rfl,h1,h2,hs,hc⟩:=hv
  refine⟨a,cap,rfl,h1,by simp,hs.imp id fun h=>⟨by rw [h.1]; rfl,h.2⟩,?_⟩
  rcases hc with rfl | ⟨b,o,ha,hr,hex,hc⟩
  ·exact .inl rfl
  ·exact .inr ⟨b,o,ha,lV b hr,by simp,qE hw lV cs b o h hc⟩
 | .rs _ _ _ _,_,h,_=>by simp [AV.eT] at h
 | .mN,_,_,h=>h
 | .mp _,_,h,_=>by simp [AV.eT] at h
 | .fn f cap,v,h,hv=>by
  simp only [AV.eT] at h
  simp only [VR,AV.jM] at hv ⊢
  obtain⟨vs,rfl,h1⟩:=hv
  exact⟨vs,rfl,pO hw lV cap vs.toList h h1⟩
 | .pv,_,_,h=>h
 | .agg cs,v,h,hv=>by
  simp only [AV.eT] at h
  simp only [VR,AV.jM] at hv ⊢
  obtain⟨vs,rfl,h1⟩:=hv
  exact⟨vs,rfl,pO hw lV cs vs.toList h h1⟩
 | .tup cs,v,h,hv=>by
  simp only [AV.eT] at h
  simp only [VR,AV.jM] at hv ⊢
  obtain⟨vs,rfl,h1⟩:=hv
  exact⟨vs,rfl,pO hw lV cs vs.toList h h1⟩
theorem pO (hw:d.w=c.w)(lV:∀b,RO c L b→RO d L' b):∀(xs:List AV) (vs:List Value),dq xs=true→VRs c L xs vs→VRs d L' (dX xs) vs
 | [],[],_,_=>trivial
 | x::xs,v::vs,h,hv=>by
  simp only [dq,ZF] at h
  exact⟨wZ hw lV x v h.1 hv.1,pO hw lV xs vs h.2 hv.2⟩
 | [],_::_,_,h=>h.elim
 | _::_,[],_,h=>h.elim
theorem qE (hw:d.w=c.w)(lV:∀b,RO c L b→RO d L' b):∀(xs:List AV) (b o:Nat),dq xs=true→Cells c L xs b o→Cells d L' (dX xs) b o
 | [],_,_,_,_=>trivial
 | x::xs,b,o,h,hv=>by
  simp only [dq,ZF] at h
  obtain⟨⟨v,h1,h2,h3⟩,h4⟩:=hv
  exact⟨⟨v,by rw [hw]; exact h1,h2,wZ hw lV x v h.1 h3⟩,qE hw lV xs b (o+1) h.2 h4⟩
end
mutual
theorem qF (hw:d.w=c.w)(lV:∀b,RO c L b→RO d L' b)(hrel:HRel c L)(hid:∀id,Live c.h id→RO d L' (c.β id).1):∀(n:Nat) (x y:AV) (v:Value),cp c.h n x=some y→VR c L x v→VR d L' y v
 | 0,x,y,v,h,_=>by simp [cp] at h
 | n+1,x,y,v,h,hv=>by
  have Qa:(if x.eT then some x.jM else none)=some y→VR d L' y v:=by
   intro h
   split at h
   ·rename_i hn; cases h; exact wZ hw lV x v hn hv
   ·cases h
  cases x with
  | ptr id off=>
   simp only [cp,ZC] at h
   obtain⟨ob,ho,h⟩:=h
   cases ob with
   | map es=>cases h
   | row t cs=>cases h
   | cells cs=>
    simp only [ZD] at h
    obtain⟨fU,hcs,rfl⟩:=h
    have hl:Live c.h id:=⟨hrel.lt _ _ ho,by simp [ho]⟩
    obtain⟨m,_,_,hc⟩:=hrel.obj _ _ ho
    simp only [VR] at hv ⊢
    obtain⟨_,a,rfl,ha⟩:=hv
    rw [ha hl]
    exact⟨_,_,rfl,.inr ⟨hid id hl,ku hw lV hrel hid n cs fU _ _ hcs hc⟩⟩
  | rs id off len iR=>
   simp only [cp] at h
   split at h
   ·rename_i hid
    split at h
    rotate_left
    ·cases h
    rename_i hl0
    cases h
    simp only [VR] at hv ⊢
    rcases hv with⟨_,_,_,a,rfl⟩| hv
    ·exact⟨a,0,rfl,ZI _,by simp,.inr ⟨trivial,rfl⟩,.inl trivial⟩
    ·exact absurd hid hv.1
   rename_i kI
   rw [ZC] at h
   obtain⟨ob,ho,h⟩:=h
   cases ob with
   | map es=>cases h
   | row t cs=>cases h
   | cells cs=>
    simp only at h
    split at h
    rotate_left
    ·cases h
    rename_i hle
    simp only [ZD] at h
    obtain⟨fU,hcs,rfl⟩:=h
    have hl:Live c.h id:=⟨hrel.lt _ _ ho,by simp [ho]⟩
    obtain⟨m,_,_,hc⟩:=hrel.obj _ _ ho
    simp only [VR] at hv ⊢
    rcases hv with hv | ⟨_,_,a,cap,rfl,h1,h2,h3⟩
    ·exact absurd hv.1 kI
    refine⟨a,cap,rfl,h1,by simp,.inl h2,?_⟩
    rcases h3 hl with⟨h4,_⟩| h4
    ·exact .inr ⟨_,_,h4,hid id hl,by simp,ku hw lV hrel hid n _ fU _ _ hcs ((hc.drop off).take (len*iR))⟩
    ·left
     have hz:len=0:=by omega
     subst hz
     rw [Nat.zero_mul,List.take_zero] at hcs
     cases n with
     | zero=>simp [bC] at hcs
     | succ n=>simp only [bC,ZE] at hcs; exact hcs.symm
  | agg cs=>
   simp only [cp,ZD] at h
   obtain⟨fU,hcs,rfl⟩:=h
   simp only [VR] at hv ⊢
   obtain⟨vs,rfl,h1⟩:=hv
   exact⟨vs,rfl,iW hw lV hrel hid n cs fU vs.toList hcs h1⟩
  | tup cs=>
   simp only [cp,ZD] at h
   obtain⟨fU,hcs,rfl⟩:=h
   simp only [VR] at hv ⊢
   obtain⟨vs,rfl,h1⟩:=hv
   exact⟨vs,rfl,iW hw lV hrel hid n cs fU vs.toList hcs h1⟩
  | fn f cs=>
   simp only [cp,ZD] at h
   obtain⟨fU,hcs,rfl⟩:=h
   simp only [VR] at hv ⊢
   obtain⟨vs,rfl,h1⟩:=hv
   exact⟨vs,rfl,iW hw lV hrel hid n cs fU vs.toList hcs h1⟩
  | _=>exact Qa (by simpa only [cp] using h)
theorem iW (hw:d.w=c.w)(lV:∀b,RO c L b→RO d L' b)(hrel:HRel c L)(hid:∀id,Live c.h id→RO d L' (c.β id).1):∀(n:Nat) (xs ys:List AV) (vs:List Value),bC c.h n xs=some ys→VRs c L xs vs→VRs d L' ys vs
 | 0,xs,ys,vs,h,_=>by simp [bC] at h
 | n+1,[],ys,vs,h,hv=>by
  simp only [bC,ZE] at h
  subst h
  cases vs with
  | nil=>trivial
  | cons v vs=>exact hv.elim
 | n+1,x::xs,ys,vs,h,hv=>by
  simp only [bC,ZC,ZD] at h
  obtain⟨y,hy,zs,hz,rfl⟩:=h
  cases vs with
  | nil=>exact hv.elim
  | cons v vs=>exact⟨qF hw lV hrel hid n x y v hy hv.1,iW hw lV hrel hid n xs zs vs hz hv.2⟩
theorem ku (hw:d.w=c.w)(lV:∀b,RO c L b→RO d L' b)(hrel:HRel c L)(hid:∀id,Live c.h id→RO d L' (c.β id).1):∀(n:Nat) (xs ys:List AV) (b o:Nat),bC c.h n xs=some ys→Cells c L xs b o→Cells d L' ys b o
 | 0,xs,ys,b,o,h,_=>by simp [bC] at h
 | n+1,[],ys,b,o,h,hv=>by
  simp only [bC,ZE] at h
  subst h
  trivial
 | n+1,x::xs,ys,b,o,h,hv=>by
  simp only [bC,ZC,ZD] at h
  obtain⟨y,hy,zs,hz,rfl⟩:=h
  obtain⟨⟨v,h1,h2,h3⟩,h4⟩:=hv
  exact⟨⟨v,by rw [hw]; exact h1,h2,qF hw lV hrel hid n x y v hy h3⟩,ku hw lV hrel hid n xs zs b (o+1) hz h4⟩
end
mutual
theorem oW (hw:d.w=c.w)(hrel:HRel c L)(hid:∀id,Live c.h id→RO d L' (c.β id).1):∀(n:Nat) (x y:AV) (v:Value),gH c.h n x=some y→VR c L x v→VR d L' y v
 | 0,x,y,v,h,_=>by simp [gH] at h
 | n+1,x,y,v,h,hv=>by
  unfold gH at h
  split at h
  ·cases h; exact hv
  ·cases h; exact hv
  ·cases h; exact hv
  ·cases h; exact hv
  ·cases h; exact hv
  ·cases h; exact hv
  ·cases h
   simp only [VR] at hv ⊢
   exact⟨none,0,hv,ZI _,by simp,.inr ⟨trivial,rfl⟩,.inl trivial⟩
  ·cases h
   simp only [VR] at hv ⊢
   obtain⟨a,cap,rfl,h1,h2,hs,_⟩:=hv
   exact⟨a,cap,rfl,h1,by simp,hs,.inl trivial⟩
  ·rename_i id off len iR
   split at h
   ·rename_i kI
    split at h
    rotate_left
    ·cases h
    rename_i hl0
    cases h
    simp only [VR] at hv ⊢
    rcases hv with⟨_,_,_,a,rfl⟩| hv
    ·exact⟨a,0,rfl,ZI _,by simp,.inr ⟨trivial,rfl⟩,.inl trivial⟩
    ·exact absurd kI hv.1
   rename_i kI
   rw [ZC] at h
   obtain⟨ob,ho,h⟩:=h
   cases ob with
   | map es=>cases h
   | row t cs=>cases h
   | cells cs=>
    simp only at h
    split at h
    rotate_left
    ·cases h
    rename_i hle
    simp only [ZD] at h
    obtain⟨fU,hcs,rfl⟩:=h
    have hl:Live c.h id:=⟨hrel.lt _ _ ho,by simp [ho]⟩
    obtain⟨m,_,_,hc⟩:=hrel.obj _ _ ho
    simp only [VR] at hv ⊢
    rcases hv with hv | ⟨_,_,a,cap,rfl,h1,h2,h3⟩
    ·exact absurd hv.1 kI
    refine⟨a,cap,rfl,h1,by simp,.inl h2,?_⟩
    rcases h3 hl with⟨h4,_⟩| h4
    ·exact .inr ⟨_,_,h4,hid id hl,by simp,mJ hw hrel hid n _ fU _ _ hcs ((hc.drop off).take (len*iR))⟩
    ·left
     have hz:len=0:=by omega
     subst hz
     rw [Nat.zero_mul,List.take_zero] at hcs
     cases n with
     | zero=>simp [dR] at hcs
     | succ n=>simp only [dR,ZE] at hcs; exact hcs.symm
  ·rename_i cs
   simp only [ZD] at h
   obtain⟨fU,hcs,rfl⟩:=h
   simp only [VR] at hv ⊢
   obtain⟨vs,rfl,h1⟩:=hv
   exact⟨vs,rfl,ny hw hrel hid n cs fU vs.toList hcs h1⟩
  ·rename_i cs
   simp only [ZD] at h
   obtain⟨fU,hcs,rfl⟩:=h
   simp only [VR] at hv ⊢
   obtain⟨vs,rfl,h1⟩:=hv
   exact⟨vs,rfl,ny hw hrel hid n cs fU vs.toList hcs h1⟩
  ·cases h
theorem ny (hw:d.w=c.w)(hrel:HRel c L)(hid:∀id,Live c.h id→RO d L' (c.β id).1):∀(n:Nat) (xs ys:List AV) (vs:List Value),dR c.h n xs=some ys→VRs c L xs vs→VRs d L' ys vs
 | 0,xs,ys,vs,h,_=>by simp [dR] at h
 | n+1,[],ys,vs,h,hv=>by
  simp only [dR,ZE] at h
  subst h
  cases vs with
  | nil=>trivial
  | cons v vs=>exact hv.elim
 | n+1,x::xs,ys,vs,h,hv=>by
  simp only [dR,ZC,ZD] at h
  obtain⟨y,hy,zs,hz,rfl⟩:=h
  cases vs with
  | nil=>exact hv.elim
  | cons v vs=>exact⟨oW hw hrel hid n x y v hy hv.1,ny hw hrel hid n xs zs vs hz hv.2⟩
theorem mJ (hw:d.w=c.w)(hrel:HRel c L)(hid:∀id,Live c.h id→RO d L' (c.β id).1):∀(n:Nat) (xs ys:List AV) (b o:Nat),dR c.h n xs=some ys→Cells c L xs b o→Cells d L' ys b o
 | 0,xs,ys,b,o,h,_=>by simp [dR] at h
 | n+1,[],ys,b,o,h,hv=>by
  simp only [dR,ZE] at h
  subst h
  trivial
 | n+1,x::xs,ys,b,o,h,hv=>by
  simp only [dR,ZC,ZD] at h
  obtain⟨y,hy,zs,hz,rfl⟩:=h
  obtain⟨⟨v,h1,h2,h3⟩,h4⟩:=hv
  exact⟨⟨v,by rw [hw]; exact h1,h2,oW hw hrel hid n x y v hy h3⟩,mJ hw hrel hid n xs zs b (o+1) hz h4⟩
end
end
section
variable {P:Program}
theorem Iy {cf:CallF}(hcf:CallOK P cf)(deep:Nat):CallOK P fun f args h=>if dq args then (cf f (dX args) bD).bind fun x=>(cp x.2 deep x.1).map fun r=>(r,h) else cf f args h:=by
 intro f args h r h' hc
 dsimp only at hc
 split at hc
 rotate_left
 ·exact hcf f args h r h' hc
 rename_i ya
 rw [ZC] at hc
 obtain⟨⟨x,h1⟩,hx,hc⟩:=hc
 rw [ZD] at hc
 obtain⟨r',hr,he⟩:=hc
 simp only [ZL] at he
 obtain⟨rfl,rfl⟩:=he
 obtain⟨hin,hcall⟩:=hcf f (dX args) bD x h1 hx
 refine⟨hin,fun L0 c vs hh hb0 hrel hargs=>?_⟩
 let L1:Nat→Prop:=fun b=>L0 b∨∃id,Live c.h id∧(c.β id).1=b
 let c0:Cx:=⟨fun _=>(0,0),bD,c.w,c.w.heap.size⟩
 have hnl:∀id,¬Live c0.h id:=fun id hl=>by have:=hl.2; cases this
 have FM:∀b,RO c L0 b→RO c0 L1 b:=fun b hb=>⟨fun id hl=>absurd hl (hnl id),fun h=>by
  rcases h with h | ⟨id,h1,h2⟩
  ·exact hb.2 h
  ·exact hb.1 id h1 h2⟩
 have tl:HRel c0 L1:=⟨fun id o ho=>(by cases ho),fun id o ho=>(by cases ho),fun id _ hl _ _=>absurd hl (hnl id),fun id hl=>absurd hl (hnl id),fun b hb=>by
  rcases hb with h | ⟨id,h1,h2⟩
  ·exact hrel.bd b h
  ·rw [←h2]; exact hrel.block h1,fun id hl=>absurd hl (hnl id),fun _=>aa1⟩
 refine (hcall L1 c0 vs rfl (ZI _) tl (pO (c:=c) (d:=c0) rfl FM _ _ ya hargs)).mono ?_
 rintro e w' ⟨c1,v,rfl,rfl,Mw,hv,hrel1,e1⟩
 let d:Cx:=⟨c.β,c.h,c1.w,c.base⟩
 have hk:∀b,b<c.w.heap.size→c1.w.heap[b]? = c.w.heap[b]?:=fun b hb=>e1.exact b hb
 have ed:Ext c none0 d none0:=⟨ZI _,fun id _ hl=>⟨hl,rfl,iC.len (c:=c) (c':=d) (.inl (hk _ (hrel.block hl)))⟩,e1.size,fun b hb _ _=>.inl (hk b hb),fun b hb=>hk b (Z4 hb hb0),rfl,fun id hl=>.inr ⟨id,hl,rfl⟩,fun _ h=>h,fun _ h=>.inl h,e1.os,e1.tape,e1.output⟩
 have hb1:d.base≤c1.base:=by rw [e1.base]; exact hb0
 have Qb:∀b,RO c1 L1 b→RO d L0 b:=fun b hb=>⟨fun id hl he=>hb.2 (.inr ⟨id,hl,he⟩),fun h=>hb.2 (.inl h)⟩
 refine⟨d,v,rfl,rfl,hh,?_,⟨hrel.lt,fun id o ho=>?_,hrel.inj,hrel.out,fun b hb=>Z4 (hrel.bd b hb) e1.size,hrel.low,hrel.ver⟩,ed⟩
 ·refine qF (c:=c1) (d:=d) (L:=L1) rfl Qb hrel1 (fun id hl=>⟨fun kY pn he=>hrel1.out id hl (.inr ⟨kY,pn,he⟩),fun h=>hrel1.out id hl (.inl h)⟩) deep x r' v ?_ hv
  rw [Mw]; exact hr
 ·have hl:Live c.h id:=⟨hrel.lt _ _ ho,by rw [ho]; rfl⟩
  have:=(hrel.obj id o ho)
  have h2:=pz.ext (L0:=L0) ed (b:=(c.β id).1) (base:=(c.β id).2) (o:=o) (by rw [iF]; exact this) (hk _ (hrel.block hl))
  rw [iF] at h2
  exact h2
theorem pP {c:Cx}{L:Nat→Prop}:∀{xs:List AV} {vs:List Value},VRs c L xs vs→VRs c L (xs.map aS) vs
 | [],[],_=>trivial
 | x::_,_::_,h=>⟨by
   unfold aS
   cases hn:x.eT with
   | false=>exact h.1
   | true=>exact wZ rfl (fun _ h=>h) x _ hn h.1,pP h.2⟩
 | [],_::_,h=>h.elim
 | _::_,[],h=>h.elim
theorem yK {cf:CallF}(hcf:CallOK P cf):CallOK P fun f args h=>cf f (args.map aS) h:=by
 intro f args h r h' hc
 obtain⟨h1,h2⟩:=hcf f _ h r h' hc
 exact⟨h1,fun L0 c vs hh hb0 hrel hargs=>h2 L0 c vs hh hb0 hrel (pP hargs)⟩
theorem Iz {cf:CallF}(hcf:CallOK P cf)(deep:Nat):CallOK P fun f args h=>(bC h deep args).bind fun as=>(cf f as bD).bind fun x=>(gH x.2 deep x.1).map fun r=>(r,h):=by
 intro f args h r h' hc
 dsimp only at hc
 simp only [ZC,ZD,ZL] at hc
 obtain⟨as,has,⟨x,h1⟩,hx,r',hr,rfl,rfl⟩:=hc
 obtain⟨hin,hcall⟩:=hcf f as bD x h1 hx
 refine⟨hin,fun L0 c vs hh hb0 hrel hargs=>?_⟩
 let c0:Cx:=⟨fun _=>(0,0),bD,c.w,c.w.heap.size⟩
 have hnl:∀id,¬Live c0.h id:=fun id hl=>by have:=hl.2; cases this
 have FM:∀b,RO c L0 b→RO c0 L0 b:=fun b hb=>⟨fun id hl=>absurd hl (hnl id),hb.2⟩
 have tl:HRel c0 L0:=⟨fun id o ho=>(by cases ho),fun id o ho=>(by cases ho),fun id _ hl _ _=>absurd hl (hnl id),fun id hl=>absurd hl (hnl id),hrel.bd,fun id hl=>absurd hl (hnl id),fun _=>aa1⟩
 have tm:VRs c0 L0 as vs:=iW (c:=c) (d:=c0) rfl FM hrel (fun id hl=>⟨fun kY pn=>absurd pn (hnl kY),hrel.out id hl⟩) deep args as vs (by rw [hh]; exact has) hargs
 refine (hcall L0 c0 vs rfl (ZI _) tl tm).mono ?_
 rintro e w' ⟨c1,v,rfl,rfl,Mw,hv,hrel1,e1⟩
 let d:Cx:=⟨c.β,c.h,c1.w,c.base⟩
 have hk:∀b,b<c.w.heap.size→c1.w.heap[b]? = c.w.heap[b]?:=fun b hb=>e1.exact b hb
 have ed:Ext c none0 d none0:=⟨ZI _,fun id _ hl=>⟨hl,rfl,iC.len (c:=c) (c':=d) (.inl (hk _ (hrel.block hl)))⟩,e1.size,fun b hb _ _=>.inl (hk b hb),fun b hb=>hk b (Z4 hb hb0),rfl,fun id hl=>.inr ⟨id,hl,rfl⟩,fun _ h=>h,fun _ h=>.inl h,e1.os,e1.tape,e1.output⟩
 refine⟨d,v,rfl,rfl,hh,?_,⟨hrel.lt,fun id o ho=>?_,hrel.inj,hrel.out,fun b hb=>Z4 (hrel.bd b hb) e1.size,hrel.low,hrel.ver⟩,ed⟩
 ·refine oW (c:=c1) (d:=d) (L:=L0) rfl hrel1 (fun id hl=>⟨fun kY pn he=>?_,hrel1.out id hl⟩) deep x r' v ?_ hv
  ·rcases e1.Ig id hl with h2 | ⟨qn,h2,_⟩
   ·have:=hrel.block pn
    have h3:(c.β kY).1=(c1.β id).1:=he
    have h4:c.w.heap.size≤(c1.β id).1:=h2
    omega
   ·exact absurd h2 (hnl qn)
  ·rw [Mw]; exact hr
 ·have hl:Live c.h id:=⟨hrel.lt _ _ ho,by rw [ho]; rfl⟩
  have:=(hrel.obj id o ho)
  have h2:=pz.ext (L0:=L0) ed (b:=(c.β id).1) (base:=(c.β id).2) (o:=o) (by rw [iF]; exact this) (hk _ (hrel.block hl))
  rw [iF] at h2
  exact h2
section
variable {c1 d:Cx}{L1:Nat→Prop}{k:Nat}
mutual
theorem tq (hw:d.w=c1.w)(hn:∀id,id<c1.h.next→id+k<d.h.next)(hl:∀id,Live d.h (id+k)→Live c1.h id∧d.β (id+k)=c1.β id):∀(x y:AV) (v:Value),dF k x=some y→VR c1 L1 x v→VR d L1 y v
 | .any,_,_,h,_=>by simp [dF] at h
 | .bool _,_,_,h,hv=>by simp only [dF,ZE] at h; subst h; exact hv
 | .int _ _,_,_,h,hv=>by simp only [dF,ZE] at h; subst h; exact hv
 | .str _,_,_,h,hv=>by simp only [dF,ZE] at h; subst h; exact hv
 | .ou,_,_,h,hv=>by simp only [dF,ZE] at h; subst h; exact hv
 | .mN,_,_,h,hv=>by simp only [dF,ZE] at h; subst h; exact hv
 | .pv,_,_,h,hv=>by simp only [dF,ZE] at h; subst h; exact hv
 | .nils,_,_,h,hv=>by simp only [dF,ZE] at h; subst h; exact hv
 | .ptr id off,_,_,h,hv=>by
  simp only [dF,ZE] at h
  subst h
  simp only [VR] at hv ⊢
  obtain⟨h1,a,rfl,h2⟩:=hv
  refine⟨hn _ h1,a,rfl,fun lU=>?_⟩
  obtain⟨g1,g2⟩:=hl _ lU
  rw [g2]; exact h2 g1
 | .lp _ _,_,_,h,_=>by simp [dF] at h
 | .fp _ _,_,_,h,_=>by simp [dF] at h
 | .fz _ _ _,_,_,h,_=>by simp [dF] at h
 | .rs id off len z,y,v,h,hv=>by
  simp only [dF] at h
  split at h
  ·rename_i h0
   cases h
   subst h0
   simp only [VR] at hv ⊢
   rcases hv with⟨_,h2,h3,h4⟩| h1
   ·exact .inl ⟨trivial,h2,h3,h4⟩
   ·exact absurd rfl h1.1
  ·rename_i h0
   cases h
   simp only [VR] at hv ⊢
   rcases hv with h1 | ⟨_,h1,a,cap,rfl,h2,h3,h4⟩
   ·exact absurd h1.1 h0
   refine .inr ⟨by omega,hn _ h1,a,cap,rfl,h2,h3,fun lU=>?_⟩
   obtain⟨g1,g2⟩:=hl _ lU
   have:=h4 g1
   rw [g2]
   unfold Cx.len at this ⊢
   rw [hw]; exact this
 | .mp _,_,_,h,_=>by simp [dF] at h
 | .fn _ _,_,_,h,_=>by simp [dF] at h
 | .agg cs,_,v,h,hv=>by
  simp only [dF,ZD] at h
  obtain⟨ys,h1,rfl⟩:=h
  simp only [VR] at hv ⊢
  obtain⟨vs,rfl,h2⟩:=hv
  exact⟨vs,rfl,qG hw hn hl cs ys vs.toList h1 h2⟩
 | .tup cs,_,v,h,hv=>by
  simp only [dF,ZD] at h
  obtain⟨ys,h1,rfl⟩:=h
  simp only [VR] at hv ⊢
  obtain⟨vs,rfl,h2⟩:=hv
  exact⟨vs,rfl,qG hw hn hl cs ys vs.toList h1 h2⟩
theorem qG (hw:d.w=c1.w)(hn:∀id,id<c1.h.next→id+k<d.h.next)(hl:∀id,Live d.h (id+k)→Live c1.h id∧d.β (id+k)=c1.β id):∀(xs ys:List AV) (vs:List Value),cU k xs=some ys→VRs c1 L1 xs vs→VRs d L1 ys vs
 | [],ys,[],h,_=>by simp only [cU,ZE] at h; subst h; trivial
 | x::xs,ys,v::vs,h,hv=>by
  simp only [cU,ZC,ZD] at h
  obtain⟨y,h1,Wc,h2,rfl⟩:=h
  exact⟨tq hw hn hl x y v h1 hv.1,qG hw hn hl xs Wc vs h2 hv.2⟩
 | [],_,_::_,_,h=>h.elim
 | _::_,_,[],_,h=>h.elim
end
theorem rD (hw:d.w=c1.w)(hn:∀id,id<c1.h.next→id+k<d.h.next)(hl:∀id,Live d.h (id+k)→Live c1.h id∧d.β (id+k)=c1.β id):∀(xs:List AV) (b o:Nat),Cells c1 L1 xs b o→Cells d L1 (gk k xs) b o
 | [],_,_,_=>trivial
 | x::xs,b,o,h=>by
  obtain⟨⟨v,h1,h2,h3⟩,h4⟩:=h
  unfold gk
  cases hx:dF k x with
  | none=>trivial
  | some y=>exact⟨⟨v,by rw [hw]; exact h1,h2,tq hw hn hl x y v hx h3⟩,rD hw hn hl xs b (o+1) h4⟩
end
theorem tu (k:Nat):∀xs:List AV,(gk k xs).length≤xs.length
 | []=>ZI _
 | x::xs=>by
  unfold gk
  cases dF k x with
  | none=>exact aai _
  | some y=>exact Nat.succ_le_succ (tu k xs)
theorem jG {h h1:AHeap}{i:Nat}(hi:i<h.next):(h.fe h1).get i=h.get i∧(h.fe h1).ver i=h.ver i:=by
 have:Nat.blt i h.next=true:=by rw [Nat.blt_eq]; exact hi
 simp only [AHeap.fe,this,cond_true,and_self]
theorem kx {h h1:AHeap}{i:Nat}(hi:h.next≤i):(h.fe h1).get i=(h1.get (i - h.next)).bind (Az h.next)∧(h.fe h1).ver i=h.next+h1.ver (i - h.next):=by
 have:Nat.blt i h.next=false:=by
  cases hb:Nat.blt i h.next with
  | false=>rfl
  | true=>rw [Nat.blt_eq] at hb; omega
 simp only [AHeap.fe,this,cond_false,and_self]
theorem Steady.fe {h h1:AHeap}(hw:∀id,h1.ver id<h1.next):Steady h (h.fe h1):=by
 refine⟨Nat.le_add_right _ _,fun i=>?_,fun hv i=>?_⟩
 ·by_cases hi:i<h.next
  ·exact .inl ⟨(jG hi).2,(jG hi).1⟩
  ·right; rw [(kx (aab hi)).2]; exact Nat.le_add_right _ _
 ·show _<h.next+h1.next
  by_cases hi:i<h.next
  ·rw [(jG hi).2]; have:=hv i; omega
  ·rw [(kx (aab hi)).2]; have:=hw (i - h.next); omega
theorem FN {cf:CallF}(hcf:CallOK P cf)(deep:Nat):CallOK P fun f args h=>(bC h deep args).bind fun us=>(cf f us bD).bind fun x=>(dF h.next x.1).map fun r=>(r,h.fe x.2):=by
 intro f args h r h' hc
 dsimp only at hc
 simp only [ZC,ZD,ZL] at hc
 obtain⟨us,has,⟨x,h1⟩,hx,r',hr,rfl,rfl⟩:=hc
 obtain⟨hin,hcall⟩:=hcf f us bD x h1 hx
 refine⟨hin,fun L0 c vs hh hb0 hrel hargs=>?_⟩
 let c0:Cx:=⟨fun _=>(0,0),bD,c.w,c.w.heap.size⟩
 have hnl:∀id,¬Live c0.h id:=fun id hl=>by have:=hl.2; cases this
 have FM:∀b,RO c L0 b→RO c0 L0 b:=fun b hb=>⟨fun id hl=>absurd hl (hnl id),hb.2⟩
 have tl:HRel c0 L0:=⟨fun id o ho=>(by cases ho),fun id o ho=>(by cases ho),fun id _ hl _ _=>absurd hl (hnl id),fun id hl=>absurd hl (hnl id),hrel.bd,fun id hl=>absurd hl (hnl id),fun _=>aa1⟩
 have tm:VRs c0 L0 us vs:=iW (c:=c) (d:=c0) rfl FM hrel (fun id hl=>⟨fun kY pn=>absurd pn (hnl kY),hrel.out id hl⟩) deep args us vs (by rw [hh]; exact has) hargs
 refine (hcall L0 c0 vs rfl (ZI _) tl tm).mono ?_
 rintro e w' ⟨c1,v,rfl,rfl,Mw,hv,hrel1,e1⟩
 let d:Cx:=⟨fun i=>if i<c.h.next then c.β i else c1.β (i - c.h.next),c.h.fe c1.h,c1.w,c.base⟩
 have hk:∀b,b<c.w.heap.size→c1.w.heap[b]? = c.w.heap[b]?:=fun b hb=>e1.exact b hb
 have rf:∀i,i<c.h.next→Live d.h i→Live c.h i:=fun i hi hl=>⟨hi,by have:=hl.2; rw [show d.h.get i=_ from (jG hi).1] at this; exact this⟩
 have JU:∀i,c.h.next≤i→Live d.h i→Live c1.h (i - c.h.next):=fun i hi hl=>by
  have h2:=hl.2
  rw [show d.h.get i=_ from (kx hi).1] at h2
  cases hg:c1.h.get (i - c.h.next) with
  | none=>rw [hg] at h2; cases h2
  | some o=>exact⟨hrel1.lt _ _ hg,by rw [hg]; rfl⟩
 have IA:∀i,i<c.h.next→d.β i=c.β i:=fun i hi=>if_pos hi
 have FO:∀i,c.h.next≤i→d.β i=c1.β (i - c.h.next):=fun i hi=>if_neg (by omega)
 have IB:∀i,Live c1.h i→c.w.heap.size≤(c1.β i).1:=fun i hl=>by
  rcases e1.Ig i hl with h2 | ⟨qn,h2,_⟩
  ·exact h2
  ·exact absurd h2 (hnl qn)
 have ed:Ext c none0 d none0:=⟨Nat.le_add_right _ _,fun id hi hl=>⟨rf id hi hl,IA id hi,iC.len (c:=c) (c':=d) (.inl (hk _ (hrel.block (rf id hi hl))))⟩,e1.size,fun b hb _ _=>.inl (hk b hb),fun b hb=>hk b (Z4 hb hb0),rfl,fun id hl=>by
  by_cases hi:id<c.h.next
  ·exact .inr ⟨id,rf id hi hl,by rw [IA id hi]⟩
  ·rw [FO id (aab hi)]
   exact .inl (IB _ (JU id (aab hi) hl)),fun _ h=>h,fun _ h=>.inl h,e1.os,e1.tape,e1.output⟩
 have gn:∀id,id<c1.h.next→id+c.h.next<d.h.next:=fun id hi=>by show _<c.h.next+c1.h.next; omega
 have gl:∀id,Live d.h (id+c.h.next)→Live c1.h id∧d.β (id+c.h.next)=c1.β id:=fun id hl=>by
  have a:=JU (id+c.h.next) (Nat.le_add_left _ _) hl
  have b:=FO (id+c.h.next) (Nat.le_add_left _ _)
  rw [Nat.add_sub_cancel] at a b
  exact⟨a,b⟩
 refine⟨d,v,rfl,rfl,?_,?_,⟨fun id o ho=>?_,fun id o ho=>?_,fun id kY hl pn he=>?_,fun id hl=>?_,fun b hb=>Z4 (hrel.bd b hb) e1.size,fun id hl=>?_,fun id=>?_⟩,ed⟩
 ·show c.h.fe c1.h=h.fe h1
  rw [hh,Mw]
 ·refine tq (c1:=c1) (d:=d) (k:=c.h.next) rfl gn gl x r' v ?_ hv
  rw [hh]; exact hr
 ·show id<c.h.next+c1.h.next
  by_cases hi:id<c.h.next
  ·omega
  ·rw [show d.h.get id=_ from (kx (aab hi)).1,ZC] at ho
   obtain⟨o1,JL,_⟩:=ho
   have:=hrel1.lt _ _ JL
   omega
 ·by_cases hi:id<c.h.next
  ·rw [show d.h.get id=_ from (jG hi).1] at ho
   have hl:Live c.h id:=⟨hi,by rw [ho]; rfl⟩
   have:=(hrel.obj id o ho)
   have h2:=pz.ext (L0:=L0) ed (b:=(c.β id).1) (base:=(c.β id).2) (o:=o) (by rw [iF]; exact this) (hk _ (hrel.block hl))
   rw [iF] at h2
   rw [IA id hi]
   exact h2
  ·rw [show d.h.get id=_ from (kx (aab hi)).1,ZC] at ho
   obtain⟨o1,JL,ho⟩:=ho
   rw [FO id (aab hi)]
   cases o1 with
   | map es=>cases ho
   | row t cs=>cases ho
   | cells cs=>
    simp only [Az,ZE] at ho
    subst ho
    obtain⟨n,g1,g2,g3⟩:=hrel1.obj _ _ JL
    exact⟨n,g1,aap (Nat.add_le_add_left (tu _ _) _) g2,rD (c1:=c1) (d:=d) rfl gn gl cs _ _ g3⟩
 ·by_cases hi:id<c.h.next<;>by_cases jY:kY<c.h.next
  ·rw [IA id hi,IA kY jY] at he
   exact hrel.inj id kY (rf id hi hl) (rf kY jY pn) he
  ·rw [IA id hi,FO kY (aab jY)] at he
   have a:=hrel.block (rf id hi hl)
   have b:=IB _ (JU kY (aab jY) pn)
   omega
  ·rw [FO id (aab hi),IA kY jY] at he
   have a:=hrel.block (rf kY jY pn)
   have b:=IB _ (JU id (aab hi) hl)
   omega
  ·rw [FO id (aab hi),FO kY (aab jY)] at he
   have:=hrel1.inj _ _ (JU id (aab hi) hl) (JU kY (aab jY) pn) he
   omega
 ·by_cases hi:id<c.h.next
  ·rw [IA id hi]; exact hrel.out id (rf id hi hl)
  ·rw [FO id (aab hi)]; exact hrel1.out _ (JU id (aab hi) hl)
 ·show c.base≤_
  by_cases hi:id<c.h.next
  ·rw [IA id hi]; exact hrel.low id (rf id hi hl)
  ·rw [FO id (aab hi)]; exact aap hb0 (IB _ (JU id (aab hi) hl))
 ·show _<c.h.next+c1.h.next
  by_cases hi:id<c.h.next
  ·rw [show d.h.ver id=_ from (jG hi).2]; have:=hrel.ver id; omega
  ·rw [show d.h.ver id=_ from (kx (aab hi)).2]; have:=hrel1.ver (id - c.h.next); omega
theorem mg {T:oz}(rE:IntrOK P T.intr)(m:Nat):∀k,SteadyF (fD P T m k)
 | 0=>fun f args h r h' hc=>by simp [fD] at hc
 | k+1=>fun f args h r h' hc=>by
  have hb:=wQ (P:=P) (aY:=T.aY) (m:=m) (mg rE m k)
  simp only [fD] at hc
  split at hc
  ·rename_i g hg
   exact (rE f g hg).2 _ _ _ _ hc
  ·split at hc
   ·split at hc
    ·simp only [ZC] at hc
     obtain⟨us,_,x,hx,hc⟩:=hc
     obtain⟨r',_,h2⟩:=Option.map_some' hc
     cases h2
     exact Steady.fe ((hb _ _ _ _ _ hx).wf fun _=>aa1)
    split at hc
    ·rw [ZC] at hc
     obtain⟨x,_,hc⟩:=hc
     obtain⟨r',_,h2⟩:=Option.map_some' hc
     cases h2
     exact Steady.refl _
    ·split at hc
     ·rw [ZC] at hc
      obtain⟨x,_,hc⟩:=hc
      obtain⟨r',_,h2⟩:=Option.map_some' hc
      cases h2
      exact Steady.refl _
     ·exact hb _ _ _ _ _ hc
   ·exact hb _ _ _ _ _ hc
theorem pQ (hP:Fit P){T:oz}(rE:IntrOK P T.intr)(m:Nat):∀k,CallOK P (fD P T m k)
 | 0=>fun f args h r h' hc=>by simp [fD] at hc
 | k+1=>fun f args h r h' hc=>by
  have ih:=pQ hP rE m k
  have hb:=yD hP (aY:=T.aY) ih (yI hP.mixed ih (mg rE m k)) m
  simp only [fD] at hc
  split at hc
  ·rename_i g hg
   exact (rE f g hg).1 f args h r h' (by simpa using hc)
  ·split at hc
   ·rename_i deep _
    split at hc
    ·exact FN hb deep f args h r h' hc
    by_cases ya:dq args=true
    ·exact Iy hb deep f args h r h' (by dsimp only; rw [if_pos ya] at hc ⊢; exact hc)
    ·rw [if_neg ya] at hc
     split at hc
     ·rename_i as has
      refine Iz hb deep f args h r h' ?_
      dsimp only
      rw [has]
      exact hc
     ·exact yK hb f args h r h' hc
   ·exact yK hb f args h r h' hc
def Ns (P : Program) : Bool := P.funcs.toList.all fun fn => fn.name != "runtime.NumGoroutine" && match fn.body with | some c => kT fn.ntmps c | none => true
theorem KF (h1:P.follows .mixedOrders=true)(h2:Ns P=true):Fit P:=by
 refine⟨h1,fun f fn c hf hb=>?_⟩
 unfold Ns at h2
 rw [ZX] at h2
 have:=h2 fn (aaz.2 (Array.mem_of_getElem? hf))
 rw [hb] at this
 simp only [ZF,bne_iff_ne,ne_eq] at this
 exact⟨this.2,this.1⟩
theorem n6:IntrOK P fun _=>none:=fun f g h=>by cases h
end
end Go.R
