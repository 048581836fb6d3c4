/- Part of the proof: RLocal, RSteady, RDraw, RPure. -/
import Derived.Test.YtifafejidnjckaaGreatK2
import Derived.StillTail
set_option linter.unusedVariables false
set_option linter.unusedSimpArgs false
set_option maxRecDepth 100000
open Array renaming getElem?_eq_some_iff → abj, mem_toList_iff → abF
open Bool renaming and_eq_true → aaK, false_eq_true → aaU, or_eq_true → abw, not_true → abM, not_eq_true' → abN
open List renaming getElem?_append_left → aaX, all_eq_true → aa1, getElem?_eq_none → aa2, mem_append → abb, mem_map → abf, getElem?_cons_zero → abg, map_congr_left → abQ
open Nat renaming le_refl → aaN, zero_add → aa7, lt_of_lt_of_le → aa9, zero_le → abe, le_of_not_lt → abh, le_trans → abB, add_assoc → abI, eq_of_beq_eq_true → abR, min_eq_left → ab8, zero_lt_one → ab9, add_comm → ace
open Option renaming bind_some → aaG, bind_eq_some_iff → aaH, map_eq_some_iff → aaI, map_some → aaO, getD_some → abG
open Option.some renaming injEq → aaJ, inj → aa8
open Prod.mk renaming injEq → aaQ
namespace Go.R
open Go
def RS.shift (s2:RS)(f:l7)(d:Option Nat)(s':RS):RS:=
 {ρ:=match d with | none=>s2.ρ | some d=>fun t=>if t=d then s'.ρ d else s2.ρ t
  bx:=match f.wb with | none=>s2.bx | some k=>fun t=>if t=k then s'.bx k else s2.bx t
  h:=if f.wh then s'.h else s2.h}
theorem RS.ext' {s t:RS}(h1:∀i,s.ρ i=t.ρ i)(h2:∀i,s.bx i=t.bx i)(h3:s.h=t.h):s=t:=by
 cases s; cases t
 congr
 ·exact funext h1
 ·exact funext h2
theorem jf (s s2:RS)(f:l7)(d:Option Nat)(z:AV)(hw:f.wb=none)(hh:f.wh=false):s2.set d z=s2.shift f d (s.set d z):=by
 refine RS.ext' (fun i=>?_) (fun i=>?_) ?_
 ·cases d with
  | none=>rfl
  | some d=>simp only [wT,RS.shift,if_true]
 ·simp only [RS.shift,hw]; cases d<;>rfl
 ·simp only [RS.shift,hh]; cases d<;>rfl
theorem jU (s:RS)(d:Option Nat)(z:AV):(s.set d z).h=s.h:=by cases d<;>rfl
theorem Mu (s:RS)(d:Option Nat)(z:AV):(s.set d z).bx=s.bx:=by cases d<;>rfl
theorem Ha (s:RS)(k i:Nat)(cs:List AV):(s.box k cs).bx i=if i=k then some cs else s.bx i:=by
 simp only [RS.box,beq_nat]
 by_cases h:i=k<;>simp [h]
theorem ik (s s2:RS)(f:l7)(d:Option Nat)(z:AV)(h':AHeap)(hw:f.wb=none)(hh:f.wh=true):({s2 with h:=h'}:RS).set d z=s2.shift f d (({s with h:=h'}:RS).set d z):=by
 refine RS.ext' (fun i=>?_) (fun i=>?_) ?_
 ·cases d with
  | none=>rfl
  | some d=>simp only [wT,RS.shift,if_true]
 ·simp only [RS.shift,hw]; cases d<;>rfl
 ·simp only [RS.shift,hh]; cases d<;>rfl
theorem Fw (s s2:RS)(f:l7)(k:Nat)(cs:List AV)(hw:f.wb=some k)(hh:f.wh=false):s2.box k cs=s2.shift f none (s.box k cs):=by
 refine RS.ext' (fun i=>rfl) (fun i=>?_) ?_
 ·simp only [Ha,RS.shift,hw,if_true]
 ·simp only [RS.shift,hh]; rfl
section
variable {P:Program}{cf:CallF}{aH ds:List Nat}{o:Oper}{s s' s2:RS}
theorem qn {cs:List AV}{f:l7}(h:iZ s aH ds o cs=some s')(hf:f=(match o.dst with
  | some d=>if aH.contains d then {wb:=some d,al:=true} else {wh:=true}
  | none=>{})) (hh:f.wh=true→s2.h=s.h) (p5:f.al=true→∀d,o.dst=some d→uc d s2.ρ (ds.filter fun t=>!Nat.beq t d)=true) :
  iZ s2 aH ds o cs=some (s2.shift f o.dst s'):=by
 unfold iZ at h ⊢
 split at h
 rotate_left
 ·cases h
 rename_i p4
 rw [if_pos p4]
 cases hd:o.dst with
 | none=>rw [hd] at h; cases h
 | some d=>
  rw [hd] at h hf
  simp only at h hf ⊢
  by_cases hl:aH.contains d=true
  ·rw [if_pos hl] at h hf ⊢
   subst hf
   split at h
   rotate_left
   ·cases h
   cases h
   rw [if_pos (p5 rfl d hd)]
   congr 1
   refine RS.ext' (fun i=>?_) (fun i=>?_) ?_
   ·simp only [wT,RS.shift,if_true]; rfl
   ·simp only [Mu,Ha,RS.shift,if_true]
   ·simp only [jU,RS.shift]; rfl
  ·rw [if_neg hl] at h hf ⊢
   subst hf
   cases h
   rw [hh rfl]
   congr 1
   exact ik s s2 {wh:=true} (some d) _ _ rfl rfl
theorem w8 {e:Operand→AV}(h:B0 P cf aH ds e s o=some s')(hb:∀k∈(bm aH e o).rb,s2.bx k=s.bx k)(hr:∀id∈(bm aH e o).rh,s2.h.get id=s.h.get id)
  (hh:(bm aH e o).wh=true→s2.h=s.h) (p5:(bm aH e o).al=true→∀d,o.dst=some d→uc d s2.ρ (ds.filter fun t=>!Nat.beq t d)=true) :
  B0 P cf aH ds e s2 o=some (s2.shift (bm aH e o) o.dst s'):=by
 have eh:∀{x x2:Option AV} (f:l7),(x.map fun x=>s.set o.dst x)=some s'→(x2=x)→f.wb=none→f.wh=false→(x2.map fun x=>s2.set o.dst x)=some (s2.shift f o.dst s'):=by
  intro x x2 f hx h2 h3 h4
  obtain⟨z,rfl,rfl⟩:=Option.map_some' hx
  subst h2
  simp only [aaO]
  rw [←jf s s2 f o.dst z h3 h4]
 have Aa:∀{α:Type} {x x2:Option α} (f:l7) (g:α→AV) (k:α→AHeap),(x.map fun y=>({s with h:=k y}:RS).set o.dst (g y))=some s'→(x2=x)→f.wb=none→f.wh=true→
   (x2.map fun y=>({s2 with h:=k y}:RS).set o.dst (g y))=some (s2.shift f o.dst s'):=by
  intro α x x2 f g k hx h2 h3 h4
  obtain⟨z,rfl,rfl⟩:=Option.map_some' hx
  subst h2
  simp only [aaO]
  rw [←ik s s2 f o.dst (g z) (k z) h3 h4]
 unfold B0 at h ⊢
 dsimp only at h ⊢
 split at h
 ·rename_i x ho; cases h; simp only [aaJ]; exact jf s s2 _ _ _ (by simp [bm,ho]) (by simp [bm,ho])
 ·rename_i x ho; cases h; simp only [aaJ]; exact jf s s2 _ _ _ (by simp [bm,ho]) (by simp [bm,ho])
 ·rename_i k x y ho
  obtain⟨t,ht,rfl⟩:=Option.map_some' h
  simp only [ht,aaO,aaJ]
  exact jf s s2 _ _ _ (by simp [bm,ho]) (by simp [bm,ho])
 ·rename_i t ho
  rw [aaH] at h
  obtain⟨z,hz,h⟩:=h
  simp only [hz,aaG]
  exact qn h (by simp only [bm,ho]; rfl) hh p5
 ·rename_i t x ho
  exact qn h (by simp only [bm,ho]; rfl) hh p5
 ·rename_i t ps ho; exact eh _ h rfl (by simp [bm,ho]) (by simp [bm,ho])
 ·rename_i t k ps ho
  obtain⟨z,hz,rfl⟩:=Option.map_some' h
  simp only [hz,aaO,aaJ]
  have hf:bm aH e o=(match o.dst with | some d=>if aH.contains d then {wh:=true} else {} | none=>{}):=by simp only [bm,ho]; rfl
  unfold ru
  cases Mn:pE P aH o t z with
  | none=>
   simp only
   cases hd:o.dst with
   | none=>rw [hd] at hf; rw [hf]; exact jf s s2 _ none _ rfl rfl
   | some d=>
    rw [hd] at hf
    simp only at hf
    by_cases hl:aH.contains d=true
    ·rw [if_pos hl] at hf
     have h2:=hh (by rw [hf])
     rw [hf]
     have h3:=ik s s2 {wh:=true} (some d) z s2.h rfl rfl
     refine h3.trans ?_
     rw [h2]
    ·rw [if_neg hl] at hf
     rw [hf]; exact jf s s2 _ _ _ rfl rfl
  | some q=>
   obtain⟨d,hd,hl⟩:∃d,o.dst=some d∧aH.contains d=true:=by
    unfold pE at Mn
    split at Mn
    ·rename_i d _ _ _ hd
     refine⟨d,hd,?_⟩
     cases hc:aH.contains d with
     | false=>rw [hc] at Mn; cases Mn
     | true=>rfl
    ·cases Mn
   rw [hd] at hf
   simp only [hl,if_true] at hf
   rw [hf] at hh ⊢
   simp only [hh rfl]
   exact ik s s2 _ _ _ _ rfl rfl
 ·
  rename_i t x ho
  have hf:bm aH e o=(match e x with | .lp k _=>{rb:=[k]} | .ptr id _=>{rh:=[id]} | _=>{}):=by simp only [bm,ho]; rfl
  refine eh _ h ?_ ?_ ?_
  ·rw [hf] at hb hr
   unfold kL
   cases hx:e x<;>rw [hx] at hb hr<;>try rfl
   ·simp only; rw [hr _ (by simp)]
   ·simp only; rw [hb _ (by simp)]
  ·rw [hf]; cases e x<;>rfl
  ·rw [hf]; cases e x<;>rfl
 ·
  rename_i t x y ho
  have hf:bm aH e o=(match e x with | .lp k _=>{rb:=[k],wb:=some k} | _=>{wh:=true}):=by simp only [bm,ho]; rfl
  try simp only at h ⊢
  split at h
  ·cases h
  rename_i hd
  rw [if_neg hd]
  have JG:o.dst=none:=by simpa using hd
  cases hx:e x<;>rw [hx] at h hf<;>simp only at h hf ⊢<;>try (cases h; done)
  ·rename_i id off
   rw [hf] at hh ⊢
   rw [aaH] at h
   obtain⟨ob,hob,h⟩:=h
   rw [hh rfl,hob]
   cases ob with
   | map es=>cases h
   | row t cs=>cases h
   | cells cs=>
    obtain⟨fQ,hcs,rfl⟩:=Option.map_some' h
    simp only [aaG,hcs,aaO,JG,aaJ]
    exact ik s s2 {wh:=true} none .any _ rfl rfl
  ·rename_i k off
   rw [hf] at hb ⊢
   rw [aaH] at h
   obtain⟨cs,hcs,h⟩:=h
   rw [hb k (by simp),hcs]
   obtain⟨fQ,SC,rfl⟩:=Option.map_some' h
   simp only [aaG,SC,aaO,JG,aaJ]
   exact Fw s s2 _ k fQ rfl rfl
 ·rename_i ho; exact eh _ h rfl (by simp [bm,ho]) (by simp [bm,ho])
 ·rename_i ho; exact eh _ h rfl (by simp [bm,ho]) (by simp [bm,ho])
 ·rename_i ho; exact eh _ h rfl (by simp [bm,ho]) (by simp [bm,ho])
 ·
  rename_i a b x ho
  have hf:bm aH e o=(match e x with | .rs id _ _ _=>{rh:=[id]} | _=>{}):=by simp only [bm,ho]; rfl
  refine eh _ h ?_ ?_ ?_
  ·have hc:eT s2.h 1 (e x)=eT s.h 1 (e x):=by
    rw [hf] at hr
    unfold eT
    cases hx:e x<;>rw [hx] at hr<;>try rfl
    simp only; rw [hr _ (by simp)]
   unfold nV
   rw [hc]
  ·rw [hf]; cases e x<;>rfl
  ·rw [hf]; cases e x<;>rfl
 ·rename_i Ch first cap ho
  try simp only
  split at h
  ·rename_i hc
   rw [if_pos hc]
   exact eh _ h rfl (by simp [bm,ho]) (by simp [bm,ho])
  ·cases h
 ·rename_i ho
  have hf:(bm aH e o).wh=true:=by simp [bm,ho]
  cases h
  simp only [hh hf,aaJ]
  exact ik s s2 _ _ _ _ (by simp [bm,ho]) hf
 ·rename_i t l c ho
  have hf:(bm aH e o).wh=true:=by simp [bm,ho]
  exact Aa _ (fun y:AV × AHeap=>y.1) (fun y=>y.2) h (by simp only [hh hf]) (by simp [bm,ho]) hf
 ·rename_i ho; exact eh _ h rfl (by simp [bm,ho]) (by simp [bm,ho])
 ·rename_i ho; exact eh _ h rfl (by simp [bm,ho]) (by simp [bm,ho])
 ·rename_i ho; exact eh _ h rfl (by simp [bm,ho]) (by simp [bm,ho])
 ·rename_i ho; exact eh _ h rfl (by simp [bm,ho]) (by simp [bm,ho])
 ·rename_i ho; exact eh _ h rfl (by simp [bm,ho]) (by simp [bm,ho])
 ·
  rename_i t m k ok ho
  have hf:bm aH e o=(match e m with | .mp id=>{rh:=[id]} | _=>{}):=by simp only [bm,ho]; rfl
  refine eh _ h ?_ ?_ ?_
  ·rw [hf] at hr
   unfold eZ
   cases hx:e m<;>rw [hx] at hr<;>try rfl
   simp only; rw [hr _ (by simp)]
  ·rw [hf]; cases e m<;>rfl
  ·rw [hf]; cases e m<;>rfl
 ·rename_i t m k x ho
  have hf:(bm aH e o).wh=true:=by simp [bm,ho]
  try simp only at h ⊢
  split at h
  ·cases h
  rename_i hd
  rw [if_neg hd]
  have JG:o.dst=none:=by simpa using hd
  obtain⟨h',hm,rfl⟩:=Option.map_some' h
  simp only [hh hf,hm,aaO,JG,aaJ]
  exact ik s s2 _ none .any _ (by simp [bm,ho]) hf
 ·rename_i t m k x ho
  have hf:(bm aH e o).wh=true:=by simp [bm,ho]
  try simp only at h ⊢
  split at h
  ·cases h
  rename_i hd
  rw [if_neg hd]
  have JG:o.dst=none:=by simpa using hd
  obtain⟨h',hm,rfl⟩:=Option.map_some' h
  simp only [hh hf,hm,aaO,JG,aaJ]
  exact ik s s2 _ none .any _ (by simp [bm,ho]) hf
 ·rename_i ho; exact eh _ h rfl (by simp [bm,ho]) (by simp [bm,ho])
 ·
  rename_i b args DG ho
  try simp only
  unfold gD at h ⊢
  generalize hargs:args.toList.map e=as at h ⊢
  generalize DG.toList=ts at h ⊢
  split at h
  ·rename_i t x
   try simp only
   have hf:bm aH e o=(match x with | .mp id=>{rh:=[id]} | _=>{}):=by
    simp only [bm,ho,hargs]
    cases x<;>rfl
   refine eh _ h ?_ ?_ ?_
   ·rw [hf] at hr
    unfold ub
    cases x<;>try rfl
    simp only; rw [hr _ (by simp)]
   ·rw [hf]; cases x<;>rfl
   ·rw [hf]; cases x<;>rfl
  ·try simp only
   have hf:(bm aH e o).wh=true∧(bm aH e o).wb=none:=by simp only [bm,ho,hargs]; simp
   exact Aa _ (fun y:AV × AHeap=>y.1) (fun y=>y.2) h (by simp only [hh hf.1]) hf.2 hf.1
  ·try simp only
   have hf:(bm aH e o).wh=true∧(bm aH e o).wb=none:=by simp only [bm,ho,hargs]; simp
   exact Aa _ (fun y:AV × AHeap=>y.1) (fun y=>y.2) h (by simp only [hh hf.1]) hf.2 hf.1
  ·try simp only
   have hf:(bm aH e o).wh=true∧(bm aH e o).wb=none:=by simp only [bm,ho,hargs]; simp
   exact Aa _ (fun _:AHeap=>.tup []) (fun y=>y) h (by simp only [hh hf.1]) hf.2 hf.1
  ·try simp only
   rw [aaH] at h
   obtain⟨v,hv,h⟩:=h
   rw [aaH] at h
   obtain⟨vs,Gv,h⟩:=h
   rw [aaH] at h
   obtain⟨u,hu,h⟩:=h
   simp only [hv,Gv,hu,aaG]
   exact eh _ h rfl (by simp [bm,ho]) (by simp [bm,ho])
  ·try simp only
   rw [aaH] at h
   obtain⟨v,hv,h⟩:=h
   rw [aaH] at h
   obtain⟨vs,Gv,h⟩:=h
   rw [aaH] at h
   obtain⟨u,hu,h⟩:=h
   simp only [hv,Gv,hu,aaG]
   exact eh _ h rfl (by simp [bm,ho]) (by simp [bm,ho])
  ·cases h
 ·
  rename_i fx args DG ho
  have hf:(bm aH e o).wh=true∧(bm aH e o).wb=none:=by simp [bm,ho]
  try simp only
  cases hx:e fx<;>rw [hx] at h<;>simp only at h ⊢<;>try (cases h; done)
  rename_i Ch cap
  split at h
  ·rename_i ha
   rw [if_pos ha]
   exact Aa _ (fun y:AV × AHeap=>y.1) (fun y=>y.2) h (by simp only [hh hf.1]) hf.2 hf.1
  ·cases h
 ·cases h
end
end Go.R
namespace Go.R
open Go
def SteadyF (cf:CallF):Prop:=∀f args h r h',cf f args h=some (r,h')→Steady h h'
section
variable {P:Program}{cf:CallF}{aH ds:List Nat}{o:Oper}{s s':RS}
theorem uB {h h':AHeap}{t t2:TypeId}{x y z:AV}(hh:dN P h t t2 x y=some (z,h')):Steady h h':=by
 unfold dN at hh
 rw [aaH] at hh
 obtain⟨d,_,hh⟩:=hh
 cases d<;>simp only at hh<;>try (cases hh; done)
 rw [aaH] at hh
 obtain⟨i,_,hh⟩:=hh
 rw [aaH] at hh
 obtain⟨⟨new,m⟩,_,hh⟩:=hh
 simp only at hh
 split at hh
 ·cases hh
 split at hh
 ·split at hh
  ·cases hh
  ·split at hh<;>cases hh
   ·exact Steady.refl _
   ·exact Steady.put _ _ _
 ·split at hh
  ·cases hh
  ·split at hh
   ·split at hh<;>cases hh<;>exact Steady.refl _
   ·cases hh; exact Steady.put _ _ _
 ·split at hh
  ·split at hh
   ·cases hh
   ·split at hh<;>cases hh
    ·exact Steady.refl _
    ·exact Steady.put _ _ _
  rw [aaH] at hh
  obtain⟨ob,_,hh⟩:=hh
  cases ob with
  | map es=>cases hh
  | row t cs=>cases hh
  | cells cs=>
   simp only at hh
   split at hh
   ·cases hh
   ·split at hh<;>cases hh
    ·exact Steady.refl _
    ·exact (Steady.kill _ _).trans (Steady.put _ _ _)
 ·cases hh
theorem yj {h h':AHeap}{t t2:TypeId}{x y z:AV}(hh:si P h t t2 x y=some (z,h')):Steady h h':=by
 unfold si at hh
 rw [aaH] at hh
 obtain⟨d,_,hh⟩:=hh
 cases d<;>simp only at hh<;>try (cases hh; done)
 rw [aaH] at hh
 obtain⟨i,_,hh⟩:=hh
 rw [aaH] at hh
 obtain⟨⟨new,m⟩,_,hh⟩:=hh
 simp only at hh
 split at hh
 ·cases hh
 split at hh
 ·split at hh
  ·split at hh<;>cases hh
   exact Steady.refl _
  rw [aaH] at hh
  obtain⟨ob,_,hh⟩:=hh
  cases ob with
  | map es=>cases hh
  | row t cs=>cases hh
  | cells cs=>
   simp only at hh
   split at hh<;>cases hh
   exact Steady.put _ _ _
 ·split at hh<;>cases hh
  exact Steady.refl _
 ·cases hh
theorem wD {h h':AHeap}{t:TypeId}{x:AV}(hh:mK P h t x=some h'):Steady h h':=by
 unfold mK at hh
 rw [aaH] at hh
 obtain⟨d,_,hh⟩:=hh
 cases x<;>simp only at hh<;>try (cases hh; done)
 ·split at hh
  ·cases hh; exact Steady.refl _
  split at hh
  ·cases hh
  cases d<;>simp only at hh<;>try (cases hh; done)
  simp only [aaH] at hh
  obtain⟨i,_,z,_,ob,_,hh⟩:=hh
  cases ob with
  | map es=>cases hh
  | row t cs=>cases hh
  | cells cs=>
   simp only at hh
   split at hh
   ·cases hh; exact Steady.put _ _ _
   ·cases hh
 ·cases hh; exact Steady.refl _
 ·rw [aaH] at hh
  obtain⟨ob,_,hh⟩:=hh
  cases ob with
  | cells cs=>cases hh
  | row t cs=>cases hh
  | map es=>cases hh; exact Steady.put _ _ _
theorem Ab {aH:List Nat}{d:Option Nat}{x y:AV × AHeap}(hz:xS aH d x=some y):Steady x.2 y.2:=by
 unfold xS at hz
 cases hm:ON aH d with
 | true=>rw [hm,cond_true] at hz; exact n9 hz
 | false=>rw [hm,cond_false] at hz; cases hz; exact Steady.refl _
theorem og {h h':AHeap}{t:TypeId}{x y z:AV}(hh:iC P h t x y z=some h'):Steady h h':=by
 unfold iC at hh
 rw [aaH] at hh
 obtain⟨d,_,hh⟩:=hh
 cases d<;>simp only at hh<;>try (cases hh; done)
 split at hh
 ·cases hh
 cases x<;>simp only at hh<;>try (cases hh; done)
 rw [aaH] at hh
 obtain⟨ob,_,hh⟩:=hh
 cases ob with
 | cells cs=>cases hh
 | row t cs=>cases hh
 | map es=>
  obtain⟨sh,_,rfl⟩:=Option.map_some' hh
  exact Steady.put _ _ _
theorem qo {h h':AHeap}{t:TypeId}{x y z:AV}(hh:ij P h t x y=some (z,h')):Steady h h':=by
 unfold ij at hh
 split at hh
 ·rw [aaH] at hh
  obtain⟨d,_,hh⟩:=hh
  cases d<;>simp only at hh<;>try (cases hh; done)
  rw [aaH] at hh
  obtain⟨i,_,hh⟩:=hh
  rw [aaH] at hh
  obtain⟨z,_,hh⟩:=hh
  split at hh<;>cases hh
  exact Steady.put _ _ _
 ·cases hh
theorem pt {cs:List AV}(h:iZ s aH ds o cs=some s'):Steady s.h s'.h:=by
 unfold iZ at h
 split at h
 rotate_left
 ·cases h
 split at h
 ·split at h
  ·split at h<;>cases h
   rw [jU]; exact Steady.refl _
  ·cases h
   rw [jU]; exact Steady.put _ _ _
 ·cases h
theorem uC (hcf:SteadyF cf){e:Operand→AV}(h:B0 P cf aH ds e s o=some s'):Steady s.h s'.h:=by
 have eh:∀{x:Option AV},(x.map fun x=>s.set o.dst x)=some s'→Steady s.h s'.h:=by
  intro x hx
  obtain⟨z,rfl,rfl⟩:=Option.map_some' hx
  rw [jU]; exact Steady.refl _
 unfold B0 at h
 dsimp only at h
 split at h
 ·cases h; rw [jU]; exact Steady.refl _
 ·cases h; rw [jU]; exact Steady.refl _
 ·obtain⟨z,_,rfl⟩:=Option.map_some' h; rw [jU]; exact Steady.refl _
 ·rw [aaH] at h
  obtain⟨z,_,h⟩:=h
  exact pt h
 ·exact pt h
 ·exact eh h
 ·obtain⟨z,hz,rfl⟩:=Option.map_some' h
  unfold ru
  split
  ·rw [jU]; exact Steady.refl _
  ·rw [jU]; exact Steady.put _ _ _
 ·exact eh h
 ·split at h
  ·cases h
  split at h
  ·rw [aaH] at h
   obtain⟨cs,_,h⟩:=h
   obtain⟨z,_,rfl⟩:=Option.map_some' h
   exact Steady.refl _
  ·rw [aaH] at h
   obtain⟨ob,_,h⟩:=h
   cases ob with
   | map es=>cases h
   | row t cs=>cases h
   | cells cs=>
    obtain⟨z,_,rfl⟩:=Option.map_some' h
    exact Steady.put _ _ _
  ·cases h
 ·exact eh h
 ·exact eh h
 ·exact eh h
 ·exact eh h
 ·split at h
  ·exact eh h
  ·cases h
 ·cases h; rw [jU]; exact Steady.put _ _ _
 ·obtain⟨⟨z,h'⟩,hz,rfl⟩:=Option.map_some' h
  rw [jU]; exact qo hz
 ·exact eh h
 ·exact eh h
 ·exact eh h
 ·exact eh h
 ·exact eh h
 ·exact eh h
 ·split at h
  ·cases h
  obtain⟨h',hz,rfl⟩:=Option.map_some' h
  exact og hz
 ·split at h
  ·cases h
  obtain⟨h',hz,rfl⟩:=Option.map_some' h
  exact og hz
 ·exact eh h
 ·unfold gD at h
  split at h
  ·exact eh h
  ·obtain⟨⟨z,h'⟩,hz,rfl⟩:=Option.map_some' h
   rw [jU]; exact uB hz
  ·obtain⟨⟨z,h'⟩,hz,rfl⟩:=Option.map_some' h
   rw [jU]; exact yj hz
  ·obtain⟨h',hz,rfl⟩:=Option.map_some' h
   rw [jU]; exact wD hz
  ·rw [aaH] at h
   obtain⟨v,_,h⟩:=h
   rw [aaH] at h
   obtain⟨vs,_,h⟩:=h
   rw [aaH] at h
   obtain⟨u,_,h⟩:=h
   exact eh h
  ·rw [aaH] at h
   obtain⟨v,_,h⟩:=h
   rw [aaH] at h
   obtain⟨vs,_,h⟩:=h
   rw [aaH] at h
   obtain⟨u,_,h⟩:=h
   exact eh h
  ·cases h
 ·split at h
  ·split at h
   ·obtain⟨⟨z,h'⟩,hz,rfl⟩:=Option.map_some' h
    rw [aaH] at hz
    obtain⟨⟨z0,h0⟩,hz,hm⟩:=hz
    rw [jU]; exact (hcf _ _ _ _ _ hz).trans (Ab hm)
   ·cases h
  ·cases h
 ·cases h
theorem qp (hcf:SteadyF cf){ops:List Oper}(h:nX P cf aH ops s o=some s'):Steady s.h s'.h:=by
 unfold nX at h
 rw [aaH] at h
 obtain⟨w,_,h⟩:=h
 cases w with
 | true=>exact uC hcf (by simpa [xT] using h)
 | false=>
  simp only [aaU,if_false,aaJ] at h
  subst h
  rw [jU]; exact Steady.refl _
theorem sy (hcf:SteadyF cf){ops:List Oper}:∀{l:List Oper} {s s':RS},sV P cf aH ops s l=some s'→Steady s.h s'.h
 | [],s,s',h=>by simp only [sV,aaJ] at h; subst h; exact Steady.refl _
 | o::l,s,s',h=>by
  simp only [sV,aaH] at h
  obtain⟨s1,h1,h2⟩:=h
  exact (qp hcf h1).trans (sy hcf h2)
theorem sB (hcf:SteadyF cf){ops:List Oper}:∀{l:List Oper} {s r:RS} {es:List nz},p9 P cf aH ops s l=some (es,r)→Steady s.h r.h
 | [],s,r,es,h=>by simp only [p9,aaJ,aaQ] at h; rw [h.2]; exact Steady.refl _
 | o::l,s,r,es,h=>by
  simp only [p9,aaH,aaI] at h
  obtain⟨w,hw,s1,h1,⟨sh,r'⟩,h2,h3⟩:=h
  simp only [aaQ] at h3
  obtain⟨_,rfl⟩:=h3
  have h4:nX P cf aH ops s o=some s1:=by unfold nX; rw [hw]; exact h1
  exact (qp hcf h4).trans (sB hcf h2)
theorem wE (hcf:SteadyF cf){ops:Array Oper}(h:kM P cf aH ops s=some s'):Steady s.h s'.h:=by
 unfold kM at h
 dsimp only at h
 split at h
 rotate_left
 ·cases h
 rw [aaH] at h
 obtain⟨⟨es,r⟩,Cd,h⟩:=h
 simp only at h
 split at h
 ·cases h; exact sB hcf Cd
 ·cases h
theorem gJ (hcf:SteadyF cf){A:bR}{m:Nat}:∀(c:Code) (st jT:St) (e:Ex),bM P cf A m c st=some (e,jT)→Steady st.h jT.h
 | .skip,st,jT,e,h=>by simp only [bM,aaJ,aaQ] at h; rw [h.2]; exact Steady.refl _
 | .label _,st,jT,e,h=>by simp only [bM,aaJ,aaQ] at h; rw [h.2]; exact Steady.refl _
 | .ret,st,jT,e,h=>by simp only [bM,aaJ,aaQ] at h; rw [h.2]; exact Steady.refl _
 | .exit _,st,jT,e,h=>by simp only [bM,aaJ,aaQ] at h; rw [h.2]; exact Steady.refl _
 | .seq x y,st,jT,e,h=>by
  simp only [bM,aaH] at h
  obtain⟨⟨e1,s1⟩,h1,h2⟩:=h
  have:=gJ hcf x st s1 e1 h1
  cases e1 with
  | norm=>exact this.trans (gJ hcf y s1 jT e h2)
  | exit id=>simp only [aaJ,aaQ] at h2; rw [←h2.2]; exact this
  | ret=>simp only [aaJ,aaQ] at h2; rw [←h2.2]; exact this
 | .cond k x y,st,jT,e,h=>by
  simp only [bM,aaH] at h
  obtain⟨t,_,h⟩:=h
  cases t with
  | true=>exact gJ hcf x st jT e (by simpa using h)
  | false=>exact gJ hcf y st jT e (by simpa using h)
 | .block id x,st,jT,e,h=>by
  simp only [bM,aaI] at h
  obtain⟨⟨e1,s1⟩,h1,h2⟩:=h
  have:=gJ hcf x st s1 e1 h1
  cases e1<;>(simp only [aaQ] at h2; rw [←h2.2]; exact this)
 | .loop x,st,jT,e,h=>by
  simp only [bM] at h
  have key:∀(j:Nat) (st:St),l9 (bM P cf A m x) j st=some (e,jT)→Steady st.h jT.h:=by
   intro j
   induction j with
   | zero=>intro st h; simp [l9] at h
   | succ j ih=>
    intro st h
    simp only [l9,aaH] at h
    obtain⟨⟨e1,s1⟩,h1,h2⟩:=h
    have:=gJ hcf x st s1 e1 h1
    cases e1 with
    | norm=>exact this.trans (ih s1 h2)
    | exit id=>simp only [aaJ,aaQ] at h2; rw [←h2.2]; exact this
    | ret=>simp only [aaJ,aaQ] at h2; rw [←h2.2]; exact this
  exact key m st h
 | .region id ops draw,st,jT,e,h=>by
  simp only [bM,aaH,aaI,aaQ] at h
  obtain⟨s0,h0,s',h1,s2,h2,_,rfl⟩:=h
  rw [J9]
  refine ((oa h0).trans ?_).trans (oa h2)
  cases draw with
  | true=>exact wE (s:=s0) hcf (by simpa using h1)
  | false=>exact sy (s:=s0) hcf (by simpa using h1)
 | .rangeFunc ..,st,jT,e,h=>by simp [bM] at h
 | .scope ..,st,jT,e,h=>by simp [bM] at h
 | .goto ..,st,jT,e,h=>by simp [bM] at h
 | .refuse ..,st,jT,e,h=>by simp [bM] at h
theorem yk (hcf:SteadyF cf){aS:FuncId→bR}{m:Nat}:SteadyF (a6 P aS cf m):=by
 intro f args h r h' hc
 unfold a6 at hc
 rw [aaH] at hc
 obtain⟨fn,hf,hc⟩:=hc
 rw [aaH] at hc
 obtain⟨c,hb,hc⟩:=hc
 split at hc
 rotate_left
 ·cases hc
 rw [aaH] at hc
 obtain⟨⟨e,st⟩,hex,hc⟩:=hc
 have:=gJ hcf c _ _ _ hex
 cases e with
 | norm=>obtain⟨r',_,h2⟩:=Option.map_some' hc; cases h2; exact this
 | ret=>obtain⟨r',_,h2⟩:=Option.map_some' hc; cases h2; exact this
 | exit id=>cases hc
end
end Go.R
namespace Go.R
open Go
section
variable {P:Program}{cf:CallF}{aH ds:List Nat}{o:Oper}{s s':RS}
theorem Fx {e e':Operand→AV}(h:∀x∈o.op.operands,e x=e' x):B0 P cf aH ds e s o=B0 P cf aH ds e' s o:=by
 have Pe:∀(l:List Operand),(∀x∈l,e x=e' x)→l.map e=l.map e':=fun l hl=>abQ hl
 have Mw:∀(q:Option Operand),(∀x,q=some x→e x=e' x)→q.map e=q.map e':=by
  intro q hq; cases q with
  | none=>rfl
  | some x=>simp [hq x rfl]
 unfold B0
 cases DJ:o.op<;>rw [DJ] at h
 case build t ps=>
  have:(ps.toList.map fun (i,x)=>(i,e x))=(ps.toList.map fun (i,x)=>(i,e' x)):=
   abQ fun p hp=>by
    have:=h p.2 (by simp only [Op.operands,List.mem_toArray,abf]; exact⟨p,hp,rfl⟩)
    simp [this]
  simp only [this]
 case buildSlice t n ps=>
  have:(ps.toList.map fun (i,x)=>(i,e x))=(ps.toList.map fun (i,x)=>(i,e' x)):=
   abQ fun p hp=>by
    have:=h p.2 (by simp only [Op.operands,List.mem_toArray,abf]; exact⟨p,hp,rfl⟩)
    simp [this]
  simp only [this]
 case makeFunc f first cap=>
  have:cap.toList.map e=cap.toList.map e':=Pe _ fun x hx=>h x (by simp only [Op.operands,Array.mem_append]; right; exact abF.1 hx)
  cases f<;>first | rfl | simp only [this]
 case makeMap t r=>cases r<;>rfl
 case slice t x lo hi mx=>
  have h1:e x=e' x:=h x (by simp [Op.operands])
  have h2:=Mw lo fun y hy=>h y (by simp [Op.operands,hy])
  have h3:=Mw hi fun y hy=>h y (by simp [Op.operands,hy])
  have h4:=Mw mx fun y hy=>h y (by simp [Op.operands,hy])
  simp only [h1,h2,h3,h4]
 case call c=>
  obtain⟨callee,args,DG⟩:=c
  have h1:args.toList.map e=args.toList.map e':=Pe _ fun x hx=>h x (by
   simp only [Op.operands,Call.operands]
   cases callee<;>simp<;>first | exact abF.1 hx | (right; exact abF.1 hx) | (left; exact abF.1 hx))
  cases callee with
  | builtin b=>simp only [h1]
  | value f=>
   have h2:e f=e' f:=h f (by simp [Op.operands,Call.operands])
   simp only [h1,h2]
  | invoke r nm=>rfl
 all_goals first
  | rfl
  | (simp [Op.operands] at h; simp [h])
end
theorem qu (acc:List Nat)(i:Nat):∀(l:List Edge) (m:Nat),(l.foldl (fun m e=>bif Region.binds .any e then m ||| (2 ^ e.on ||| acc.getD e.on 0) else m) m).testBit i=true→
  m.testBit i=true∨∃e∈l,Region.binds .any e=true∧(e.on=i∨(acc.getD e.on 0).testBit i=true)
 | [],m,h=>.inl h
 | e::l,m,h=>by
  rcases qu acc i l _ h with h1 | ⟨e',he,h1⟩
  ·dsimp only at h1
   cases hb:Region.binds .any e with
   | false=>rw [hb] at h1; exact .inl h1
   | true=>
    rw [hb] at h1
    simp only [cond_true,Nat.testBit_or,abw,Nat.testBit_two_pow,decide_eq_true_eq] at h1
    rcases h1 with h1 | h1 | h1
    ·exact .inl h1
    ·exact .inr ⟨e,by simp,hb,.inl h1⟩
    ·exact .inr ⟨e,by simp,hb,.inr h1⟩
  ·exact .inr ⟨e',by simp [he],h1⟩
theorem sC:∀(l:List Oper) (acc:List Nat),(∀j,j<acc.length→(kc acc l).getD j 0=acc.getD j 0)∧
  ∀j i,((kc acc l).getD j 0).testBit i=true→acc.length≤j→∃o,l[j - acc.length]? = some o∧∃e∈o.after.toList,Region.binds .any e=true∧(e.on=i∨((kc acc l).getD e.on 0).testBit i=true)
 | [],acc=>⟨fun j hj=>rfl,fun j i h hj=>by simp [kc,List.getD,aa2 hj] at h⟩
 | o::l,acc=>by
  simp only [kc]
  generalize hm:(o.after.toList.foldl (fun m e=>bif Region.binds .any e then m ||| (2 ^ e.on ||| acc.getD e.on 0) else m) 0)=m
  obtain⟨h1,h2⟩:=sC l (acc++[m])
  have hold:∀j,j<acc.length→(kc (acc++[m]) l).getD j 0=acc.getD j 0:=fun j hj=>by
   rw [h1 j (by simp; omega)]
   simp [List.getD,aaX hj]
  refine⟨hold,fun j i h hj=>?_⟩
  by_cases X7:j=acc.length
  ·subst X7
   have:(kc (acc++[m]) l).getD acc.length 0=m:=by
    rw [h1 _ (by simp)]; simp [List.getD]
   rw [this,←hm] at h
   rcases qu acc i _ _ h with h3 | ⟨e,he,hb,h3⟩
   ·simp at h3
   ·refine⟨o,by simp,e,he,hb,h3.imp id fun h4=>?_⟩
    by_cases hl:e.on<acc.length
    ·rw [hold _ hl]; exact h4
    ·simp [List.getD,aa2 (Nat.not_lt.1 hl)] at h4
  ·obtain⟨o',Ot,h3⟩:=h2 j i h (by simp; omega)
   refine⟨o',?_,h3⟩
   rw [show j - acc.length=(j - (acc++[m]).length)+1 by simp; omega]
   simpa using Ot
theorem lR {α:Type}(p:Nat→α→Nat→α→Bool):∀(l:List α) (k:Nat),p8 p k l=true→∀i j x y,i<j→l[i]? = some x→l[j]? = some y→p (k+i) x (k+j) y=true
 | [],k,_,i,j,x,y,_,hx,_=>by simp at hx
 | a::l,k,h,i,j,x,y,BJ,hx,hy=>by
  simp only [p8,aaK,aa1] at h
  obtain⟨h1,h2⟩:=h
  cases j with
  | zero=>omega
  | succ j=>
   cases i with
   | zero=>
    simp only [abg,aaJ] at hx
    subst hx
    have:=h1 (y,k+1+j) (by rw [List.mk_add_mem_zipIdx_iff_getElem?]; simpa using hy)
    simpa [abI,ace 1 j] using this
   | succ i=>
    have:=lR p l (k+1) h2 i j x y (by omega) (by simpa using hx) (by simpa using hy)
    rw [show k+(i+1)=k+1+i by omega,show k+(j+1)=k+1+j by omega]
    exact this
theorem qv:∀(l:List Oper) (k:Nat),tH k l=true→∀i o,l[i]? = some o→∀e∈o.after.toList,Region.binds .any e=true→e.on<k+i
 | [],k,_,i,o,h,_,_,_=>by simp at h
 | a::l,k,h,i,o,ho,e,he,hb=>by
  simp only [tH,aaK,aa1] at h
  obtain⟨h1,h2⟩:=h
  cases i with
  | zero=>
   simp only [abg,aaJ] at ho
   subst ho
   have:=h1 e he
   simp only [hb,abM,Bool.false_or] at this
   exact Nat.blt_eq.mp this
  | succ i=>
   have:=qv l (k+1) h2 i o (by simpa using ho) e he hb
   omega
theorem qw {V:Type}{n i:Nat}(hi:i≤n){W:Nat→Prop}{S:Nat→Bool}{m x:Nat→V}(h0:m 0=x 0)(Pf:∀k,k<n→W k→S k=true→m (k+1)=x (k+1))(mF:∀k,k<n→(¬W k∨S k=false)→m (k+1)=m k)
  (hx:∀k,k<n→¬W k→x (k+1)=x k) (hS:∀k,k<n→W k→(S k=true↔k<i)):m n=x i:=by
 have key:∀k,k≤n→m k=x (min k i):=by
  intro k
  induction k with
  | zero=>intro _; simpa using h0
  | succ k ih=>
   intro hk
   have ih:=ih (by omega)
   by_cases hw:W k
   ·have hs:=hS k (by omega) hw
    by_cases Ac:k<i
    ·rw [Pf k (by omega) hw (hs.2 Ac),ab8 (by omega)]
    ·have:S k=false:=by
      cases h:S k with
      | false=>rfl
      | true=>exact absurd (hs.1 h) Ac
     rw [mF k (by omega) (.inr this),ih,Nat.min_eq_right (by omega),Nat.min_eq_right (by omega)]
   ·rw [mF k (by omega) (.inl hw),ih]
    by_cases Ac:k<i
    ·rw [ab8 (by omega),ab8 (by omega),hx k (by omega) hw]
    ·rw [Nat.min_eq_right (by omega),Nat.min_eq_right (by omega)]
 rw [key n (aaN n),Nat.min_eq_right hi]
open Classical in
theorem yl {V:Type}{n i:Nat}(hi:i<n){W:Nat→Prop}{S S':Nat→Bool}{m m' x:Nat→V}(h0:m' 0=m 0)(Pf:∀k,k<n→W k→S k=true→m (k+1)=x (k+1))(mF:∀k,k<n→(¬W k∨S k=false)→m (k+1)=m k)
  (Pg:∀k,k<n→W k→S' k=true→m' (k+1)=x (k+1)) (JH:∀k,k<n→(¬W k∨S' k=false)→m' (k+1)=m' k)
  (Fy:∀k,S' k=if k=i then true else S k) (Ph:S i=false) (hl:W i→∀j,j<n→i<j→W j→S j=false):m' n=if W i then x (i+1) else m n:=by
 have key:∀k,k≤n→m' k=if i<k∧W i then x (i+1) else m k:=by
  intro k
  induction k with
  | zero=>intro _; simpa using h0
  | succ k ih=>
   intro hk
   have ih:=ih (by omega)
   by_cases Ac:k=i
   ·subst Ac
    by_cases hw:W k
    ·rw [Pg k (by omega) hw (by rw [Fy]; simp),if_pos ⟨by omega,hw⟩]
    ·rw [JH k (by omega) (.inl hw),ih,if_neg (fun h=>hw h.2),if_neg (fun h=>hw h.2),mF k (by omega) (.inl hw)]
   ·have hs:S' k=S k:=by rw [Fy,if_neg Ac]
    by_cases hw:W k
    ·cases qh:S k with
     | true=>
      rw [Pg k (by omega) hw (hs.trans qh)]
      by_cases Gy:i<k+1∧W i
      ·have:=hl Gy.2 k (by omega) (by omega) hw
       rw [qh] at this; cases this
      ·rw [if_neg Gy,Pf k (by omega) hw qh]
     | false=>
      rw [JH k (by omega) (.inr (hs.trans qh)),ih,mF k (by omega) (.inr qh)]
      by_cases Gy:i<k∧W i
      ·rw [if_pos Gy,if_pos ⟨by omega,Gy.2⟩]
      ·rw [if_neg Gy,if_neg (fun h=>Gy ⟨by omega,h.2⟩)]
    ·rw [JH k (by omega) (.inl hw),ih,mF k (by omega) (.inl hw)]
     by_cases Gy:i<k∧W i
     ·rw [if_pos Gy,if_pos ⟨by omega,Gy.2⟩]
     ·rw [if_neg Gy,if_neg (fun h=>Gy ⟨by omega,h.2⟩)]
 rw [key n (aaN n)]
 by_cases hw:W i
 ·rw [if_pos ⟨hi,hw⟩,if_pos hw]
 ·rw [if_neg (fun h=>hw h.2),if_neg hw]
structure uD (P:Program)(cf:CallF)(aH:List Nat)(ops:Array Oper)(tx:Nat→RS)(ft:Nat→l7)(ord:Nat→Nat→Prop):Prop where
 op:∀k o,ops[k]? = some o→∃w,iD ops.toList (tx k).ρ o=some w∧(if w then xT P cf aH (ops.toList.filterMap (·.dst)) (tx k) o=some (tx (k+1))∧ft k=bm aH (bQ (tx k).ρ) o else tx (k+1)=(tx k).set o.dst (.tup [])∧ft k={})
 Mx:∀k i,ord k i→∃o,ops[i]? = some o∧∃e∈o.after,Region.binds .any e=true∧(e.on=k∨ord k e.on)
 back:∀i o,ops[i]? = some o→∀e∈o.after,Region.binds .any e=true→e.on<i
 LG:∀i j x y,i≠j→ops[i]? = some x→ops[j]? = some y→ord i j∨ord j i∨∀d,x.dst=some d→d∉y.looksAt ops∧y.dst≠some d
 boxes:∀i j,i<ops.size→j<ops.size→i≠j→ord i j∨ord j i∨(∀k,(ft i).wb=some k→k∉(ft j).rb∧(ft j).wb≠some k)∧((ft i).wh=true→(ft j).wh=false∧∀id∈(ft j).rh,(tx i).h.get id=(tx (i+1)).h.get id)
 SD:∀i o d,ops[i]? = some o→(ft i).al=true→o.dst=some d→(∀t∈ops.toList.filterMap (·.dst),t≠d→∀off,(tx 0).ρ t≠.lp d off)∧∀j y t,ops[j]? = some y→j≠i→ord i j∨(y.dst=some t→∀off,(tx (j+1)).ρ t≠.lp d off)
section
variable {P:Program}{cf:CallF}{aH:List Nat}{ops:Array Oper}{tx:Nat→RS}{ft:Nat→l7}{ord:Nat→Nat→Prop}
def jV (ops:Array Oper)(k:Nat):Option Nat:=(ops[k]?).bind (·.dst)
def lk (ops:Array Oper)(tx:Nat→RS)(ft:Nat→l7)(S:Nat→Bool):Nat→RS
 | 0=>tx 0
 | k+1=>if S k then (lk ops tx ft S k).shift (ft k) (jV ops k) (tx (k+1)) else lk ops tx ft S k
theorem uD.shift (T:uD P cf aH ops tx ft ord){k:Nat}(hk:k<ops.size):tx (k+1)=(tx k).shift (ft k) (jV ops k) (tx (k+1)):=by
 have ho:ops[k]? = some ops[k]:=by simp [hk]
 obtain⟨w,hw,h⟩:=T.op k _ ho
 have hd:jV ops k=ops[k].dst:=by simp [jV,hk]
 rw [hd]
 cases w with
 | true=>
  simp only [if_true] at h
  obtain⟨h1,h2⟩:=h
  have:=w8 (s2:=tx k) (e:=bQ (tx k).ρ) h1 (fun _ _=>rfl) (fun _ _=>rfl) (fun _=>rfl) (fun p5 d BG=>by
   unfold xT B0 at h1
   dsimp only at h1
   have LH:∀(cs:List AV) (s s':RS),iZ s aH (ops.toList.filterMap (·.dst)) ops[k] cs=some s'→aH.contains d=true→uc d s.ρ ((ops.toList.filterMap (·.dst)).filter fun t=>!Nat.beq t d)=true:=by
    intro cs s s' hb hl
    unfold iZ at hb
    simp only [BG,hl,if_true] at hb
    by_cases hn:uc d s.ρ ((ops.toList.filterMap (·.dst)).filter fun t=>!Nat.beq t d)=true
    ·exact hn
    ·simp [hn] at hb
   unfold bm at p5
   split at p5
   ·rename_i t DJ
    rw [BG] at p5
    simp only at p5
    split at p5
    ·rename_i hl
     rw [DJ] at h1
     simp only [aaH] at h1
     obtain⟨z,_,h1⟩:=h1
     exact LH _ _ _ h1 hl
    ·cases p5
   ·rename_i t x DJ
    rw [BG] at p5
    simp only at p5
    split at p5
    ·rename_i hl
     rw [DJ] at h1
     exact LH _ _ _ h1 hl
    ·cases p5
   all_goals first
    | (split at p5<;>cases p5)
    | (split at p5<;>first | cases p5 | (split at p5<;>cases p5))
    | cases p5)
  unfold xT at h1
  rw [h1] at this
  rw [h2]
  exact aa8 this
 | false=>
  simp only [aaU,if_false] at h
  rw [h.1,h.2]
  exact jf (tx k) (tx k) {} _ _ rfl rfl
theorem tK (s2:RS)(f:l7)(d:Option Nat)(s':RS)(t:Nat):(s2.shift f d s').ρ t=if d=some t then s'.ρ t else s2.ρ t:=by
 cases d with
 | none=>simp [RS.shift]
 | some d=>
  simp only [RS.shift,aaJ]
  by_cases h:t=d
  ·subst h; simp
  ·rw [if_neg h,if_neg (Ne.symm h)]
theorem qy (s2:RS)(f:l7)(d:Option Nat)(s':RS)(b:Nat):(s2.shift f d s').bx b=if f.wb=some b then s'.bx b else s2.bx b:=by
 cases hf:f.wb with
 | none=>simp [RS.shift,hf]
 | some k=>
  simp only [RS.shift,hf,aaJ]
  by_cases h:b=k
  ·subst h; simp
  ·rw [if_neg h,if_neg (Ne.symm h)]
theorem uD.lt (T:uD P cf aH ops tx ft ord):∀{j k:Nat},ord k j→k<j:=by
 intro j
 induction j using Nat.strongRecOn with
 | _ j ih=>
  intro k h
  obtain⟨o,ho,e,he,hb,h1⟩:=T.Mx k j h
  have h2:=T.back j o ho e he hb
  rcases h1 with h1 | h1
  ·omega
  ·have:=ih e.on h2 h1; omega
def rD (ops:Array Oper)(S:Nat→Bool):Prop:=∀j o,ops[j]? = some o→S j=true→∀e∈o.after,Region.binds .any e=true→S e.on=true
theorem uD.down (T:uD P cf aH ops tx ft ord){S:Nat→Bool}(hc:rD ops S):∀{j k:Nat},ord k j→S j=true→S k=true:=by
 intro j
 induction j using Nat.strongRecOn with
 | _ j ih=>
  intro k h hs
  obtain⟨o,ho,e,he,hb,h1⟩:=T.Mx k j h
  have h2:=T.back j o ho e he hb
  have h3:=hc j o ho hs e he hb
  rcases h1 with h1 | h1
  ·rw [←h1]; exact h3
  ·exact ih e.on h2 h1 h3
variable {S:Nat→Bool}{i:Nat}{oi:Oper}
theorem uD.before (T:uD P cf aH ops tx ft ord)(hc:rD ops S)(ho:ops[i]? = some oi)(hr:∀e∈oi.after,Region.binds .any e=true→S e.on=true){k:Nat}(h:ord k i):S k=true:=by
 obtain⟨o,Ot,e,he,hb,h1⟩:=T.Mx k i h
 rw [ho] at Ot
 cases Ot
 rcases h1 with h1 | h1
 ·rw [←h1]; exact hr e he hb
 ·exact T.down hc h1 (hr e he hb)
theorem uD.iff (T:uD P cf aH ops tx ft ord)(hc:rD ops S)(ho:ops[i]? = some oi)(hr:∀e∈oi.after,Region.binds .any e=true→S e.on=true)(hi:S i=false){k:Nat}(h:ord i k∨ord k i):S k=true↔k<i:=by
 rcases h with h | h
 ·have:=T.lt h
  refine⟨fun hk=>?_,fun _=>by omega⟩
  have:=T.down hc h hk
  rw [hi] at this; cases this
 ·exact⟨fun _=>T.lt h,fun _=>T.before hc ho hr h⟩
theorem ym (t:Nat)(k:Nat)(hd:jV ops k=some t)(hs:S k=true):(lk ops tx ft S (k+1)).ρ t=(tx (k+1)).ρ t:=by
 simp only [lk,hs,if_true,tK,hd]
theorem yn (t:Nat)(k:Nat)(h:¬jV ops k=some t∨S k=false):(lk ops tx ft S (k+1)).ρ t=(lk ops tx ft S k).ρ t:=by
 simp only [lk]
 split
 ·rename_i hs
  rcases h with h | h
  ·rw [tK,if_neg h]
  ·rw [h] at hs; cases hs
 ·rfl
theorem yo (b:Nat)(k:Nat)(hd:(ft k).wb=some b)(hs:S k=true):(lk ops tx ft S (k+1)).bx b=(tx (k+1)).bx b:=by
 simp only [lk,hs,if_true,qy,hd]
theorem yp (b:Nat)(k:Nat)(h:¬(ft k).wb=some b∨S k=false):(lk ops tx ft S (k+1)).bx b=(lk ops tx ft S k).bx b:=by
 simp only [lk]
 split
 ·rename_i hs
  rcases h with h | h
  ·rw [qy,if_neg h]
  ·rw [h] at hs; cases hs
 ·rfl
theorem yq (k:Nat)(hd:(ft k).wh=true)(hs:S k=true):(lk ops tx ft S (k+1)).h=(tx (k+1)).h:=by
 simp only [lk,hs,if_true,RS.shift,hd]
theorem yr (k:Nat)(h:¬(ft k).wh=true∨S k=false):(lk ops tx ft S (k+1)).h=(lk ops tx ft S k).h:=by
 simp only [lk]
 split
 ·rename_i hs
  rcases h with h | h
  ·simp only [RS.shift]; rw [if_neg h]
  ·rw [h] at hs; cases hs
 ·rfl
theorem uD.SE (T:uD P cf aH ops tx ft ord)(t:Nat)(k:Nat)(hk:k<ops.size)(h:¬jV ops k=some t):(tx (k+1)).ρ t=(tx k).ρ t:=by
 rw [T.shift hk,tK,if_neg h]
theorem uD.Pj (T:uD P cf aH ops tx ft ord)(b:Nat)(k:Nat)(hk:k<ops.size)(h:¬(ft k).wb=some b):(tx (k+1)).bx b=(tx k).bx b:=by
 rw [T.shift hk,qy,if_neg h]
theorem uD.My (T:uD P cf aH ops tx ft ord)(k:Nat)(hk:k<ops.size)(h:¬(ft k).wh=true):(tx (k+1)).h=(tx k).h:=by
 rw [T.shift hk]; simp only [RS.shift]; rw [if_neg h]
theorem uD.reads (T:uD P cf aH ops tx ft ord)(hc:rD ops S)(ho:ops[i]? = some oi)(hr:∀e∈oi.after,Region.binds .any e=true→S e.on=true)(hi:S i=false) :
  (∀t∈oi.looksAt ops,(lk ops tx ft S ops.size).ρ t=(tx i).ρ t)∧(∀b∈(ft i).rb,(lk ops tx ft S ops.size).bx b=(tx i).bx b)∧
  (∀id∈(ft i).rh,(lk ops tx ft S ops.size).h.get id=(tx i).h.get id)∧((ft i).wh=true→(lk ops tx ft S ops.size).h=(tx i).h):=by
 have hin:i<ops.size:=(abj.1 ho).1
 have Ca:∀k,k<ops.size→ops[k]? = some ops[k]!:=fun k hk=>by simp [hk]
 have Hb:∀k,k=i→(S k=true↔k<i):=by
  rintro k rfl
  rw [hi]; simp
 refine⟨fun t ht=>?_,fun b hb=>?_,fun id hid=>?_,fun hw=>?_⟩
 ·refine qw (W:=fun k=>jV ops k=some t) (m:=fun k=>(lk ops tx ft S k).ρ t) (x:=fun k=>(tx k).ρ t) (S:=S) (Nat.le_of_lt hin) rfl (fun k _ h hs=>ym t k h hs) (fun k _ h=>yn t k h) (fun k hk h=>T.SE t k hk h) (fun k hk h=>?_)
  by_cases Ac:k=i
  ·exact Hb k Ac
  ·obtain⟨y,hy,Mz⟩:=aaH.1 h
   rcases T.LG k i y oi Ac hy ho with h1 | h1 | h1
   ·exact T.iff hc ho hr hi (.inr h1)
   ·exact T.iff hc ho hr hi (.inl h1)
   ·exact absurd ht (h1 t Mz).1
 ·refine qw (W:=fun k=>(ft k).wb=some b) (m:=fun k=>(lk ops tx ft S k).bx b) (x:=fun k=>(tx k).bx b) (S:=S) (Nat.le_of_lt hin) rfl (fun k _ h hs=>yo b k h hs) (fun k _ h=>yp b k h) (fun k hk h=>T.Pj b k hk h) (fun k hk h=>?_)
  by_cases Ac:k=i
  ·exact Hb k Ac
  ·rcases T.boxes k i hk hin Ac with h1 | h1 | h1
   ·exact T.iff hc ho hr hi (.inr h1)
   ·exact T.iff hc ho hr hi (.inl h1)
   ·exact absurd hb (h1.1 b h).1
 ·
  obtain⟨p,hp,O8⟩:∃p,p≤ops.size∧∀k,k<ops.size→(ft k).wh=true→(S k=true↔k<p):=by
   have key:∀m,m≤ops.size→(∀k,k<m→(ft k).wh=true→S k=true)∨∃p,p<m∧(ft p).wh=true∧S p=false∧∀k,k<p→(ft k).wh=true→S k=true:=by
    intro m
    induction m with
    | zero=>intro _; exact .inl fun k hk=>by omega
    | succ m ih=>
     intro hm
     rcases ih (by omega) with h | ⟨p,h1,h2⟩
     ·by_cases hw:(ft m).wh=true∧S m=false
      ·exact .inr ⟨m,by omega,hw.1,hw.2,h⟩
      ·refine .inl fun k hk V3=>?_
       by_cases X8:k=m
       ·subst X8
        cases hs:S k with
        | true=>rfl
        | false=>exact absurd ⟨V3,hs⟩ hw
       ·exact h k (by omega) V3
     ·exact .inr ⟨p,by omega,h2⟩
   rcases key ops.size (aaN _) with h | ⟨p,h1,h2,h3,h4⟩
   ·exact⟨ops.size,aaN _,fun k hk hw=>⟨fun _=>hk,fun _=>h k hk hw⟩⟩
   ·refine⟨p,by omega,fun k hk hw=>⟨fun hs=>?_,fun RD=>h4 k RD hw⟩⟩
    rcases Nat.lt_or_ge k p with h5 | h5
    ·exact h5
    ·by_cases RD:k=p
     ·subst RD; rw [h3] at hs; cases hs
     ·rcases T.boxes p k h1 hk (Ne.symm RD) with h6 | h6 | h6
      ·have:=T.down hc h6 hs; rw [h3] at this; cases this
      ·have:=T.lt h6; omega
      ·have:=(h6.2 h2).1; rw [hw] at this; cases this
  have MA:(lk ops tx ft S ops.size).h=(tx p).h:=
   qw (W:=fun k=>(ft k).wh=true) (m:=fun k=>(lk ops tx ft S k).h) (x:=fun k=>(tx k).h) (S:=S) hp rfl (fun k _ h hs=>yq k h hs) (fun k _ h=>yr k h) (fun k hk h=>T.My k hk h) O8
  rw [MA]
  have LI:∀k,k<ops.size→(p≤k∧k<i)∨(i≤k∧k<p)→(tx (k+1)).h.get id=(tx k).h.get id:=by
   intro k hk hb
   by_cases hw:(ft k).wh=true
   ·have hs:=O8 k hk hw
    have Ac:k≠i:=by
     rintro rfl
     rcases hb with hb | hb
     ·omega
     ·have:=hs.2 hb.2; rw [hi] at this; cases this
    rcases T.boxes k i hk hin Ac with h1 | h1 | h1
    ·have hlt:=T.lt h1
     have:=hs.1 (T.before hc ho hr h1)
     omega
    ·have hlt:=T.lt h1
     have:=T.down hc h1 (hs.2 (by omega))
     rw [hi] at this; cases this
    ·exact ((h1.2 hw).2 id hid).symm
   ·rw [T.My k hk hw]
  have walk:∀a b,a≤b→b≤ops.size→(∀k,a≤k→k<b→(tx (k+1)).h.get id=(tx k).h.get id)→(tx b).h.get id=(tx a).h.get id:=by
   intro a b MB
   induction b with
   | zero=>
     intro _ _; have:a=0:=by omega
     subst this; rfl
   | succ b ih=>
    intro hb hk
    by_cases SF:a=b+1
    ·subst SF; rfl
    ·rw [hk b (by omega) (by omega)]
     exact ih (by omega) (by omega) fun k h1 h2=>hk k h1 (by omega)
  rcases Nat.le_total p i with h | h
  ·exact (walk p i h (Nat.le_of_lt hin) fun k h1 h2=>LI k (by omega) (.inl ⟨h1,h2⟩)).symm
  ·exact walk i p h hp fun k h1 h2=>LI k (by omega) (.inr ⟨h1,h2⟩)
 ·refine qw (W:=fun k=>(ft k).wh=true) (m:=fun k=>(lk ops tx ft S k).h) (x:=fun k=>(tx k).h) (S:=S) (Nat.le_of_lt hin) rfl (fun k _ h hs=>yq k h hs) (fun k _ h=>yr k h) (fun k hk h=>T.My k hk h) (fun k hk h=>?_)
  by_cases Ac:k=i
  ·exact Hb k Ac
  ·rcases T.boxes k i hk hin Ac with h1 | h1 | h1
   ·exact T.iff hc ho hr hi (.inr h1)
   ·exact T.iff hc ho hr hi (.inl h1)
   ·have:=(h1.2 h).1; rw [hw] at this; cases this
theorem Ad (t:Nat):∀k,(lk ops tx ft S k).ρ t=(tx 0).ρ t∨∃j,j<k∧S j=true∧jV ops j=some t∧(lk ops tx ft S k).ρ t=(tx (j+1)).ρ t
 | 0=>.inl rfl
 | k+1=>by
  by_cases h:jV ops k=some t∧S k=true
  ·exact .inr ⟨k,by omega,h.2,h.1,ym t k h.1 h.2⟩
  ·have h':¬jV ops k=some t∨S k=false:=by
    by_cases h1:jV ops k=some t
    ·right; cases hs:S k with
     | true=>exact absurd ⟨h1,hs⟩ h
     | false=>rfl
    ·exact .inl h1
   rw [yn t k h']
   rcases Ad t k with h1 | ⟨j,h1,h2⟩
   ·exact .inl h1
   ·exact .inr ⟨j,by omega,h2⟩
theorem uE {k:Nat}{ρ:Nat→AV}:∀{l:List Nat},(∀t∈l,∀off,ρ t≠.lp k off)→uc k ρ l=true
 | [],_=>rfl
 | t::l,h=>by
  simp only [uc,aaK]
  refine⟨?_,uE fun u hu=>h u (by simp [hu])⟩
  have:=h t (by simp)
  split
  ·rename_i j off heq
   simp only [bne_iff_ne,ne_eq]
   rintro rfl
   exact this off heq
  ·rfl
open Classical in
theorem uD.next (T:uD P cf aH ops tx ft ord)(hc:rD ops S)(ho:ops[i]? = some oi)(hr:∀e∈oi.after,Region.binds .any e=true→S e.on=true)(hi:S i=false){S':Nat→Bool}(Fy:∀k,S' k=if k=i then true else S k) :
  nX P cf aH ops.toList (lk ops tx ft S ops.size) oi=some (lk ops tx ft S' ops.size):=by
 have hin:i<ops.size:=(abj.1 ho).1
 obtain⟨h1,h2,h3,h4⟩:=T.reads hc ho hr hi
 obtain⟨w,hw,DJ⟩:=T.op i oi ho
 have sX:jV ops i=oi.dst:=by simp [jV,ho]
 have w9:∀j,i<j→j<ops.size→(ord i j∨ord j i)→S j=false:=by
  intro j BJ hj h
  cases hs:S j with
  | false=>rfl
  | true=>have:=(T.iff hc ho hr hi h).1 hs; omega
 have MA:lk ops tx ft S' ops.size=(lk ops tx ft S ops.size).shift (ft i) (jV ops i) (tx (i+1)):=by
  refine RS.ext' (fun t=>?_) (fun b=>?_) ?_
  ·rw [tK]
   have:=yl (W:=fun k=>jV ops k=some t) (m:=fun k=>(lk ops tx ft S k).ρ t) (m':=fun k=>(lk ops tx ft S' k).ρ t) (x:=fun k=>(tx k).ρ t) (S:=S) (S':=S') hin rfl
    (fun k _ h hs=>ym t k h hs) (fun k _ h=>yn t k h) (fun k _ h hs=>ym t k h hs) (fun k _ h=>yn t k h) Fy hi (fun Ou j hj BJ Pk=>by
     obtain⟨y,hy,Mz⟩:=aaH.1 Pk
     rw [sX] at Ou
     rcases T.LG i j oi y (by omega) ho hy with h | h | h
     ·exact w9 j BJ hj (.inl h)
     ·exact w9 j BJ hj (.inr h)
     ·exact absurd Mz (h t Ou).2)
   rw [this]
   by_cases hd:jV ops i=some t
   ·rw [if_pos hd,if_pos hd]
   ·rw [if_neg hd,if_neg hd]
  ·rw [qy]
   have:=yl (W:=fun k=>(ft k).wb=some b) (m:=fun k=>(lk ops tx ft S k).bx b) (m':=fun k=>(lk ops tx ft S' k).bx b) (x:=fun k=>(tx k).bx b) (S:=S) (S':=S') hin rfl
    (fun k _ h hs=>yo b k h hs) (fun k _ h=>yp b k h) (fun k _ h hs=>yo b k h hs) (fun k _ h=>yp b k h) Fy hi (fun Ou j hj BJ Pk=>by
     rcases T.boxes i j hin hj (by omega) with h | h | h
     ·exact w9 j BJ hj (.inl h)
     ·exact w9 j BJ hj (.inr h)
     ·exact absurd Pk (h.1 b Ou).2)
   rw [this]
   by_cases hd:(ft i).wb=some b
   ·rw [if_pos hd,if_pos hd]
   ·rw [if_neg hd,if_neg hd]
  ·have:=yl (W:=fun k=>(ft k).wh=true) (m:=fun k=>(lk ops tx ft S k).h) (m':=fun k=>(lk ops tx ft S' k).h) (x:=fun k=>(tx k).h) (S:=S) (S':=S') hin rfl
    (fun k _ h hs=>yq k h hs) (fun k _ h=>yr k h) (fun k _ h hs=>yq k h hs) (fun k _ h=>yr k h) Fy hi (fun Ou j hj BJ Pk=>by
     rcases T.boxes i j hin hj (by omega) with h | h | h
     ·exact w9 j BJ hj (.inl h)
     ·exact w9 j BJ hj (.inr h)
     ·have:=(h.2 Ou).1; rw [Pk] at this; cases this)
   rw [this]
   simp only [RS.shift]
   by_cases hd:(ft i).wh=true
   ·rw [if_pos hd,if_pos hd]
   ·rw [if_neg hd,if_neg hd]
 have Pl:∀x∈oi.op.operands,bQ (lk ops tx ft S ops.size).ρ x=bQ (tx i).ρ x:=by
  intro x hx
  cases x with
  | tmp t=>
   refine h1 t ?_
   unfold Oper.looksAt
   rw [abb]
   left
   rw [List.mem_filterMap]
   exact⟨.tmp t,abF.2 hx,rfl⟩
  | _=>rfl
 have Pm:iD ops.toList (lk ops tx ft S ops.size).ρ oi=iD ops.toList (tx i).ρ oi:=by
  unfold iD
  cases hg:oi.guard with
  | none=>rfl
  | some g=>
   obtain⟨g,want⟩:=g
   simp only
   cases hq:(ops.toList[g]?).bind (·.dst) with
   | none=>rfl
   | some d=>
    simp only [aaG]
    rw [h1 d]
    unfold Oper.looksAt
    rw [abb]
    right
    rw [hg]
    simp only
    have:(ops[g]?).bind (·.dst)=some d:=by simpa using hq
    rw [this]
    simp
 unfold nX
 rw [Pm,hw]
 simp only [aaG]
 rw [MA,sX]
 cases w with
 | false=>
  simp only [aaU,if_false] at DJ ⊢
  rw [DJ.1,DJ.2]
  congr 1
  exact jf (tx i) _ {} _ _ rfl rfl
 | true=>
  simp only [if_true] at DJ ⊢
  obtain⟨DJ,Ov⟩:=DJ
  unfold xT at DJ ⊢
  rw [Fx Pl,Ov]
  rw [Ov] at h2 h3 h4
  refine w8 DJ h2 h3 h4 (fun p5 d BG=>uE fun t ht off he=>?_)
  rw [List.mem_filter] at ht
  obtain⟨X9,Ya⟩:=ht
  have Ly:t≠d:=by simpa [beq_nat] using Ya
  obtain⟨l1,l2⟩:=T.SD i oi d ho (by rw [Ov]; exact p5) BG
  rcases Ad (ops:=ops) (tx:=tx) (ft:=ft) (S:=S) t ops.size with h | ⟨j,hj,hs,Yb,h⟩
  ·rw [h] at he
   exact l1 t X9 Ly off he
  ·rw [h] at he
   obtain⟨y,hy,Mz⟩:=aaH.1 Yb
   have hji:j≠i:=by rintro rfl; rw [hi] at hs; cases hs
   rcases l2 j y t hy hji with h5 | h5
   ·have:=T.down hc h5 hs; rw [hi] at this; cases this
   ·exact h5 Mz off he
theorem DK (T:uD P cf aH ops tx ft ord)(mh:∀k,k<ops.size→S k=true):∀k,k≤ops.size→lk ops tx ft S k=tx k
 | 0,_=>rfl
 | k+1,hk=>by
  simp only [lk,mh k (by omega),if_true]
  rw [DK T mh k (by omega)]
  exact (T.shift (by omega)).symm
def left (n:Nat)(S:Nat→Bool):Nat:=(List.range n).countP fun j=>!S j
theorem Fz {n:Nat}{S:Nat→Bool}(h:left n S=0):∀k,k<n→S k=true:=by
 intro k hk
 unfold left at h
 rw [List.countP_eq_zero] at h
 simpa using h k (List.mem_range.2 hk)
theorem Hc {n i:Nat}(hi:i<n){S S':Nat→Bool}(Ph:S i=false)(Fy:∀k,S' k=if k=i then true else S k):left n S'+1=left n S:=by
 unfold left
 have:∀m,(List.range m).countP (fun j=>!S' j)+(if i<m then 1 else 0)=(List.range m).countP fun j=>!S j:=by
  intro m
  induction m with
  | zero=>simp
  | succ m ih=>
   rw [List.range_succ,List.countP_append,List.countP_append]
   simp only [List.countP_cons,List.countP_nil]
   by_cases hm:m=i
   ·subst hm
    have h1:S' m=true:=by rw [Fy]; simp
    rw [h1,Ph]
    simp at ih ⊢
    omega
   ·have h1:S' m=S m:=by rw [Fy,if_neg hm]
    rw [h1]
    by_cases V4:i<m
    ·have h3:i<m+1:=by omega
     simp only [V4,h3,if_true] at ih ⊢
     omega
    ·have h3:¬i<m+1:=by omega
     simp only [V4,h3,if_false] at ih ⊢
     omega
 have:=this n
 rw [if_pos hi] at this
 exact this
theorem MC (T:uD P cf aH ops tx ft ord)(hcf:CallOK P cf){L0:Nat→Prop}{c0:Cx}{n:Nat}(hb0:c0.base≤c0.w.heap.size)(JD:w7 n ops.toList=true){Q:Exit→Act→World→Prop}
  (hQ:∀a' w',Inv L0 c0 n (ops.toList.filterMap (·.dst)) (tx ops.size) a' w'→Q .normal a' w') :
  ∀(fuel:Nat) (en:Array Bool) (a:Act) (w:World),en.size=ops.size→rD ops (fun j=>en.getD j false)→left ops.size (fun j=>en.getD j false)≤fuel→
   Inv L0 c0 n (ops.toList.filterMap (·.dst)) (lk ops tx ft (fun j=>en.getD j false) ops.size) a w→wpAny P .any ops Q fuel en a w:=by
 intro fuel
 have Hd:∀(en:Array Bool) a w,en.size=ops.size→Region.ready .any ops en=[]→Inv L0 c0 n (ops.toList.filterMap (·.dst)) (lk ops tx ft (fun j=>en.getD j false) ops.size) a w→Q .normal a w:=by
  intro en a w hsz Ow hi
  have mh:∀k,k<ops.size→en.getD k false=true:=by
   intro k
   induction k using Nat.strongRecOn with
   | _ k ih=>
    intro hk
    cases hl:en.getD k false with
    | true=>rfl
    | false=>
     have:k∈Region.ready .any ops en:=mem_ready.2 ⟨getD_in (by omega) hl,ops[k],by simp [hk],fun e he hb=>by
      have:=T.back k ops[k] (by simp [hk]) e he hb
      exact ih e.on this (by omega)⟩
     rw [Ow] at this
     cases this
  rw [DK (S:=fun j=>en.getD j false) T mh _ (aaN _)] at hi
  exact hQ a w hi
 induction fuel with
 | zero=>
  intro en a w hsz hc hl hi
  have mh:=Fz (Nat.le_zero.1 hl)
  have Ow:Region.ready .any ops en=[]:=by
   rw [List.eq_nil_iff_forall_not_mem]
   intro j hj
   obtain⟨h1,o,ho,_⟩:=mem_ready.1 hj
   have Pn:j<ops.size:=(abj.1 ho).1
   have h2:=mh j Pn
   have JI:j<en.size:=by omega
   simp [JI] at h1 h2
   rw [h1] at h2; cases h2
  exact⟨Ow,Hd en a w hsz Ow hi⟩
 | succ fuel ih=>
  intro en a w hsz hc hl hi
  refine⟨fun Ow=>Hd en a w hsz Ow hi,fun i Ka=>?_⟩
  obtain⟨h1,o,ho,Po⟩:=mem_ready.1 Ka
  have hin:i<ops.size:=(abj.1 ho).1
  have V5:i<en.size:=by omega
  have Ph:en.getD i false=false:=by simp [V5] at h1 ⊢; exact h1
  have Fy:∀k,(en.setIfInBounds i true).getD k false=if k=i then true else en.getD k false:=by
   intro k
   by_cases hk:k=i
   ·subst hk
    rw [if_pos rfl]
    simp [V5]
   ·rw [if_neg hk,getD_set_ne false (Ne.symm hk)]
  have hst:=T.next (S:=fun j=>en.getD j false) (S':=fun k=>(en.setIfInBounds i true).getD k false) hc ho Po Ph Fy
  unfold wpOp
  rw [ho]
  simp only
  have Pp:o∈ops.toList:=abF.2 (Array.mem_of_getElem? ho)
  have:=zZ (Q:=Q) (K:=wpAny P .any ops Q fuel (en.setIfInBounds i true)) hcf hb0 rfl (z6 JD Pp) hst hi (fun a' w' kp=>by
   refine ih _ a' w' (by simpa using hsz) ?_ ?_ kp
   ·intro j oj SG hj e he hb
    dsimp only at hj ⊢
    rw [Fy] at hj ⊢
    by_cases hji:j=i
    ·subst hji
     rw [ho] at SG
     cases SG
     have:=Po e he hb
     rw [this]; simp
    ·rw [if_neg hji] at hj
     have:=hc j oj SG hj e he hb
     simp only at this
     rw [this]; simp
   ·have:=Hc hin (S:=fun j=>en.getD j false) Ph Fy
    omega)
  split
  ·rename_i hw; rw [if_pos hw] at this; exact .inl this
  ·rename_i hw; rw [if_neg hw] at this; exact this
theorem xa {opsL:List Oper}:∀(l:List Oper) (s r:RS) (es:List nz),p9 P cf aH opsL s l=some (es,r)→∃tx:Nat→RS,tx 0=s∧tx l.length=r∧
  ∀k o,l[k]? = some o→∃w,iD opsL (tx k).ρ o=some w∧(if w then xT P cf aH (opsL.filterMap (·.dst)) (tx k) o=some (tx (k+1)) else tx (k+1)=(tx k).set o.dst (.tup []))∧
   es[k]? = some {o,f:=if w then bm aH (bQ (tx k).ρ) o else {},s:=tx k,s':=tx (k+1)}
 | [],s,r,es,h=>by
  simp only [p9,aaJ,aaQ] at h
  obtain⟨rfl,rfl⟩:=h
  exact⟨fun _=>s,rfl,rfl,fun k o ho=>by simp at ho⟩
 | o::l,s,r,es,h=>by
  simp only [p9,aaH,aaI] at h
  obtain⟨w,hw,s1,h1,⟨sh,r'⟩,h2,h3⟩:=h
  simp only [aaQ] at h3
  obtain⟨rfl,rfl⟩:=h3
  obtain⟨tx,t0,tn,ht⟩:=xa l s1 r' sh h2
  refine⟨fun | 0=>s | k+1=>tx k,rfl,tn,fun k o' ho=>?_⟩
  cases k with
  | zero=>
   simp only [abg,aaJ] at ho
   subst ho
   refine⟨w,hw,?_,?_⟩
   ·cases w with
    | true=>simpa [t0] using h1
    | false=>
     simp only [aaU,if_false,aaJ] at h1 ⊢
     rw [t0]; exact h1.symm
   ·simp [t0]
  | succ k=>
   obtain⟨w',h4,h5,h6⟩:=ht k o' (by simpa using ho)
   exact⟨w',h4,h5,by simpa using h6⟩
theorem He {e:Operand→AV}{o:Oper}(h:(bm aH e o).al=true):(bm aH e o).wb.isSome=true:=by
 unfold bm at h ⊢
 split at h<;>try (cases h; done)
 all_goals (split at h<;>try (cases h; done))
 all_goals (split at h<;>try (cases h; done))
 all_goals simp_all
theorem FA {k:Nat}{x:AV}(h:Mg k x=false):∀off,x≠.lp k off:=by
 rintro off rfl
 simp [Mg] at h
theorem Ae (hm:P.follows .mixedOrders=true)(hcf:CallOK P cf)(Yc:SteadyF cf):Ck P cf:=by
 intro L0 c0 n aH id ops s s' h hb0 JD a w Q hi hQ
 unfold kM at h
 dsimp only at h
 split at h
 rotate_left
 ·cases h
 rename_i yt
 rw [aaH] at h
 obtain⟨⟨es,r⟩,Cd,h⟩:=h
 simp only at h
 split at h
 rotate_left
 ·cases h
 rename_i Af
 cases h
 obtain⟨tx,t0,tn,ht⟩:=xa ops.toList s s' es Cd
 generalize OQ:kc [] ops.toList=ms at yt Af
 have SH:∀k i,(ms.getD i 0).testBit k=true→∃o,ops[i]? = some o∧∃e∈o.after,Region.binds .any e=true∧(e.on=k∨(ms.getD e.on 0).testBit k=true):=by
  intro k i hk
  obtain⟨o,ho,e,he,hb,h1⟩:=(sC ops.toList []).2 i k (by rw [OQ]; exact hk) (by simp)
  refine⟨o,by simpa using ho,e,abF.1 he,hb,?_⟩
  rw [OQ] at h1
  exact h1
 unfold oO at yt
 simp only [aaK] at yt
 obtain⟨MD,Hf⟩:=yt
 let ft:Nat→l7:=fun k=>((es[k]?).map (·.f)).getD {}
 have um:∀k o,ops[k]? = some o→∃w,iD ops.toList (tx k).ρ o=some w∧(if w then xT P cf aH (ops.toList.filterMap (·.dst)) (tx k) o=some (tx (k+1)) else tx (k+1)=(tx k).set o.dst (.tup []))∧
   es[k]? = some {o,f:=ft k,s:=tx k,s':=tx (k+1)}∧ft k=if w then bm aH (bQ (tx k).ρ) o else {}:=by
  intro k o ho
  obtain⟨w,h1,h2,h3⟩:=ht k o (by simpa using ho)
  have Ov:ft k=if w then bm aH (bQ (tx k).ρ) o else {}:=by simp only [ft,h3,aaO,abG]
  exact⟨w,h1,h2,by rw [Ov]; exact h3,Ov⟩
 have Ka:∀k o,ops[k]? = some o→((⟨o,ft k,tx k,tx (k+1)⟩:nz),k)∈es.zipIdx:=by
  intro k o ho
  obtain⟨w,_,_,h3,_⟩:=um k o ho
  exact List.mk_mem_zipIdx_iff_getElem?.2 h3
 simp only [aa1,List.mem_filter,aaK] at Af
 have sj:∀k o,ops[k]? = some o→(ft k).quiet=false→(((⟨o,ft k,tx k,tx (k+1)⟩:nz),k)∈es.zipIdx∧(!(ft k).quiet)=true):=fun k o ho hq=>⟨Ka k o ho,by rw [hq]; rfl⟩
 have Ca:∀k,k<ops.size→ops[k]? = some ops[k]!:=fun k hk=>by simp [hk]
 have ME:∀i j x y,ops[i]? = some x→ops[j]? = some y→i≠j→(ft i).quiet=false→(ft j).quiet=false→(ms.getD j 0).testBit i=true∨(ms.getD i 0).testBit j=true∨
   nz.j6 ⟨x,ft i,tx i,tx (i+1)⟩ ⟨y,ft j,tx j,tx (j+1)⟩=true:=by
  intro i j x y hx hy BJ LJ JJ
  rcases Nat.lt_or_ge i j with hlt | hge
  ·have:=(Af _ (sj i x hx LJ)).2 _ (sj j y hy JJ)
   simp only [abw,aaK] at this
   rcases this with (h1 | h1) | h1
   ·have:=Nat.le_of_ble_eq_true h1; omega
   ·exact .inl h1
   ·exact .inr (.inr h1.1)
  ·have:=(Af _ (sj j y hy JJ)).2 _ (sj i x hx LJ)
   simp only [abw,aaK] at this
   rcases this with (h1 | h1) | h1
   ·have:=Nat.le_of_ble_eq_true h1; omega
   ·exact .inr (.inl h1)
   ·exact .inr (.inr h1.2)
 have SJ:∀id,(tx 0).h.ver id<(tx 0).h.next:=by
  obtain⟨_,c,Lo,lam,_,f,_⟩:=hi
  rw [t0,←f.h]; exact f.rel.ver
 have hst:∀k,k<ops.size→Steady (tx k).h (tx (k+1)).h:=by
  intro k hk
  obtain⟨w,h1,h2,_⟩:=um k _ (Ca k hk)
  cases w with
  | true=>exact uC Yc (by simpa [xT] using h2)
  | false=>
   simp only [aaU,if_false] at h2
   rw [h2,jU]; exact Steady.refl _
 have RE:∀k,k≤ops.size→∀id,(tx k).h.ver id<(tx k).h.next:=by
  intro k
  induction k with
  | zero=>intro _; exact SJ
  | succ k ih=>intro hk; exact (hst k (by omega)).wf (ih (by omega))
 have T:uD P cf aH ops tx ft (fun k i=>(ms.getD i 0).testBit k=true):=by
  refine⟨fun k o ho=>?_,SH,fun i o ho e he hb=>?_,fun i j x y BJ hx hy=>?_,fun i j hin Pn BJ=>?_,fun i o d ho p5 hd=>?_⟩
  ·obtain⟨w,h1,h2,h3,h4⟩:=um k o ho
   refine⟨w,h1,?_⟩
   cases w with
   | true=>exact⟨h2,h4⟩
   | false=>exact⟨h2,h4⟩
  ·have:=qv _ 0 MD i o (by simpa using ho) e (abF.2 he) hb
   omega
  ·have Ox:∀x y:Oper,xU ops x y=true→∀d,x.dst=some d→d∉y.looksAt ops∧y.dst≠some d:=by
    intro x y h d hd
    unfold xU at h
    rw [hd] at h
    simpa using h
   rcases Nat.lt_or_ge i j with hlt | hge
   ·have:=lR _ _ 0 Hf i j x y hlt (by simpa using hx) (by simpa using hy)
    simp only [aa7,abw,aaK] at this
    rcases this with h1 | h1
    ·exact .inl h1
    ·exact .inr (.inr (Ox _ _ h1.1))
   ·have:=lR _ _ 0 Hf j i y x (by omega) (by simpa using hy) (by simpa using hx)
    simp only [aa7,abw,aaK] at this
    rcases this with h1 | h1
    ·exact .inr (.inl h1)
    ·exact .inr (.inr (Ox _ _ h1.2))
  ·cases LJ:(ft i).quiet with
   | true=>
    unfold l7.quiet at LJ
    simp only [aaK,Option.isNone_iff_eq_none,abN] at LJ
    exact .inr (.inr ⟨fun k hk=>(by rw [LJ.1.1.2] at hk; cases hk),fun hk=>(by rw [LJ.2] at hk; cases hk)⟩)
   | false=>
    cases JJ:(ft j).quiet with
    | true=>
     unfold l7.quiet at JJ
     simp only [aaK,Option.isNone_iff_eq_none,abN,List.isEmpty_iff] at JJ
     obtain⟨⟨⟨q1,q2⟩,q3⟩,q4⟩:=JJ
     exact .inr (.inr ⟨fun k hk=>⟨by rw [q1]; simp,by rw [q2]; simp⟩,fun hk=>⟨q4,by rw [q3]; simp⟩⟩)
    | false=>
     rcases ME i j _ _ (Ca i hin) (Ca j Pn) BJ LJ JJ with h1 | h1 | h1
     ·exact .inl h1
     ·exact .inr (.inl h1)
     ·refine .inr (.inr ?_)
      unfold nz.j6 at h1
      simp only [aaK,abw,abN,aa1] at h1
      obtain⟨h2,h3⟩:=h1
      refine⟨fun k hk=>?_,fun hk=>?_⟩
      ·rw [hk] at h2
       simpa using h2
      ·rcases h3 with h3 | h3
       ·rw [hk] at h3; cases h3
       ·refine⟨h3.1,fun id hid=>?_⟩
        have hv:=abR (h3.2 id hid)
        rcases (hst i hin).keep id with⟨_,h5⟩| h5
        ·exact h5.symm
        ·have:=RE i (by omega) id; omega
  ·obtain⟨w,h1,h2,h3,h4⟩:=um i o ho
   have hq:(ft i).quiet=false:=by
    cases w with
    | false=>rw [h4] at p5; cases p5
    | true=>
     rw [h4] at p5 ⊢
     have:=He p5
     unfold l7.quiet
     simp only [if_true] at this ⊢
     cases hwb:(bm aH (bQ (tx i).ρ) o).wb with
     | none=>rw [hwb] at this; cases this
     | some k=>simp
   have:=(Af _ (sj i o ho hq)).1
   unfold tI at this
   simp only [p5,hd] at this
   simp only [aaK,aa1,abw] at this
   obtain⟨k1,k2⟩:=this
   refine⟨fun t ht Ly off=>?_,fun j y t hy hji=>?_⟩
   ·rw [t0]
    exact ry k1 t (by rw [List.mem_filter]; exact⟨ht,by simpa [beq_nat] using Ly⟩) off
   ·have:=k2 _ (Ka j y hy)
    rcases this with (h5 | h5) | h5
    ·have:=abR h5; omega
    ·exact .inl h5
    ·right
     intro Mz off
     simp only [nz.out,Mz,abN] at h5
     exact FA h5 off
 have hlen:tx ops.size=s':=by simpa using tn
 refine wp_region_any hm ?_
 refine MC T hcf hb0 JD (fun a' w' kp=>hQ a' w' (by rw [hlen] at kp; exact kp)) ops.size _ _ _ (by simp) ?_ ?_ ?_
 ·intro j o _ hj
  simp only [getD_replicate_false] at hj
  cases hj
 ·unfold left
  exact abB (List.countP_le_length) (by simp)
 ·have G0:∀k,lk ops tx ft (fun j=>(Array.replicate ops.size false).getD j false) k=tx 0:=by
   intro k
   induction k with
   | zero=>rfl
   | succ k ih=>
    rw [lk,getD_replicate_false,if_neg (by simp)]
    exact ih
  rw [G0,t0]
  exact hi.drew
end
end Go.R
namespace Go.R
open Go
section
variable {c d:Cx}{L L':Nat→Prop}
mutual
theorem DL (hw:d.w=c.w)(hbs:d.base≤c.base)(mG:∀b,RO c L b→RO d L' b):∀(x:AV) (v:Value),x.eu=true→VR c L x v→VR d L' x v
 | .any,_,h,_=>by simp [AV.eu] at h
 | .bool _,_,_,h=>h
 | .int _ _,_,_,h=>h
 | .str _,_,_,h=>h
 | .pC,_,_,h=>h
 | .ptr _ _,_,h,_=>by simp [AV.eu] at h
 | .lp _ _,_,h,_=>by simp [AV.eu] at h
 | .fp cs off,v,h,hv=>by
  simp only [AV.eu] at h
  simp only [VR] at hv ⊢
  obtain⟨b,o,rfl,hc⟩:=hv
  exact⟨b,o,rfl,hc.imp id fun ⟨hr,hc⟩=>⟨mG b hr,pK hw hbs mG cs b o h hc⟩⟩
 | .nils,_,_,h=>h
 | .fz cs n ex,v,h,hv=>by
  simp only [AV.eu] at h
  simp only [VR] at hv ⊢
  obtain⟨a,cap,rfl,h1,h2,hs,hc⟩:=hv
  exact⟨a,cap,rfl,h1,h2,hs,hc.imp id fun ⟨b,o,ha,hr,hex,hc⟩=>⟨b,o,ha,mG b hr,fun h=>abB hbs (hex h),pK hw hbs mG cs b o h hc⟩⟩
 | .rs _ _ _ _,_,h,_=>by simp [AV.eu] at h
 | .nw,_,_,h=>h
 | .mp _,_,h,_=>by simp [AV.eu] at h
 | .fn f cap,v,h,hv=>by
  simp only [AV.eu] at h
  simp only [VR] at hv ⊢
  obtain⟨vs,rfl,h1⟩:=hv
  exact⟨vs,rfl,qz hw hbs mG cap vs.toList h h1⟩
 | .p6,_,_,h=>h
 | .agg cs,v,h,hv=>by
  simp only [AV.eu] at h
  simp only [VR] at hv ⊢
  obtain⟨vs,rfl,h1⟩:=hv
  exact⟨vs,rfl,qz hw hbs mG cs vs.toList h h1⟩
 | .tup cs,v,h,hv=>by
  simp only [AV.eu] at h
  simp only [VR] at hv ⊢
  obtain⟨vs,rfl,h1⟩:=hv
  exact⟨vs,rfl,qz hw hbs mG cs vs.toList h h1⟩
theorem qz (hw:d.w=c.w)(hbs:d.base≤c.base)(mG:∀b,RO c L b→RO d L' b):∀(xs:List AV) (vs:List Value),cQ xs=true→VRs c L xs vs→VRs d L' xs vs
 | [],[],_,_=>trivial
 | x::xs,v::vs,h,hv=>by
  simp only [cQ,aaK] at h
  exact⟨DL hw hbs mG x v h.1 hv.1,qz hw hbs mG xs vs h.2 hv.2⟩
 | [],_::_,_,h=>h.elim
 | _::_,[],_,h=>h.elim
theorem pK (hw:d.w=c.w)(hbs:d.base≤c.base)(mG:∀b,RO c L b→RO d L' b):∀(xs:List AV) (b o:Nat),cQ xs=true→Cells c L xs b o→Cells d L' xs b o
 | [],_,_,_,_=>trivial
 | x::xs,b,o,h,hv=>by
  simp only [cQ,aaK] at h
  obtain⟨⟨v,h1,h2,h3⟩,h4⟩:=hv
  exact⟨⟨v,by rw [hw]; exact h1,h2,DL hw hbs mG x v h.1 h3⟩,pK hw hbs mG xs b (o+1) h.2 h4⟩
end
mutual
theorem yu (hw:d.w=c.w)(mG:∀b,RO c L b→RO d L' b):∀(x:AV) (v:Value),x.eu=true→VR c L x v→VR d L' x.j5 v
 | .any,_,h,_=>by simp [AV.eu] at h
 | .bool _,_,_,h=>h
 | .int _ _,_,_,h=>h
 | .str _,_,_,h=>h
 | .pC,_,_,h=>h
 | .ptr _ _,_,h,_=>by simp [AV.eu] at h
 | .lp _ _,_,h,_=>by simp [AV.eu] at h
 | .fp cs off,v,h,hv=>by
  simp only [AV.eu] at h
  simp only [VR,AV.j5] at hv ⊢
  obtain⟨b,o,rfl,hc⟩:=hv
  refine⟨b,o,rfl,?_⟩
  rcases hc with rfl | ⟨hr,hc⟩
  ·exact .inl rfl
  ·exact .inr ⟨mG b hr,rE hw mG cs b o h hc⟩
 | .nils,v,_,h=>by
  simp only [VR] at h
  simp only [AV.j5,VR]
  exact⟨none,0,h,aaN _,by simp,.inr ⟨trivial,rfl⟩,.inl trivial⟩
 | .fz cs n ex,v,h,hv=>by
  simp only [AV.eu] at h
  simp only [VR,AV.j5] at hv ⊢
  obtain⟨a,cap,rfl,h1,h2,hs,hc⟩:=hv
  refine⟨a,cap,rfl,h1,by simp,hs.imp id fun h=>⟨by rw [h.1]; rfl,h.2⟩,?_⟩
  rcases hc with rfl | ⟨b,o,ha,hr,hex,hc⟩
  ·exact .inl rfl
  ·exact .inr ⟨b,o,ha,mG b hr,by simp,rE hw mG cs b o h hc⟩
 | .rs _ _ _ _,_,h,_=>by simp [AV.eu] at h
 | .nw,_,_,h=>h
 | .mp _,_,h,_=>by simp [AV.eu] at h
 | .fn f cap,v,h,hv=>by
  simp only [AV.eu] at h
  simp only [VR,AV.j5] at hv ⊢
  obtain⟨vs,rfl,h1⟩:=hv
  exact⟨vs,rfl,qA hw mG cap vs.toList h h1⟩
 | .p6,_,_,h=>h
 | .agg cs,v,h,hv=>by
  simp only [AV.eu] at h
  simp only [VR,AV.j5] at hv ⊢
  obtain⟨vs,rfl,h1⟩:=hv
  exact⟨vs,rfl,qA hw mG cs vs.toList h h1⟩
 | .tup cs,v,h,hv=>by
  simp only [AV.eu] at h
  simp only [VR,AV.j5] at hv ⊢
  obtain⟨vs,rfl,h1⟩:=hv
  exact⟨vs,rfl,qA hw mG cs vs.toList h h1⟩
theorem qA (hw:d.w=c.w)(mG:∀b,RO c L b→RO d L' b):∀(xs:List AV) (vs:List Value),cQ xs=true→VRs c L xs vs→VRs d L' (dH xs) vs
 | [],[],_,_=>trivial
 | x::xs,v::vs,h,hv=>by
  simp only [cQ,aaK] at h
  exact⟨yu hw mG x v h.1 hv.1,qA hw mG xs vs h.2 hv.2⟩
 | [],_::_,_,h=>h.elim
 | _::_,[],_,h=>h.elim
theorem rE (hw:d.w=c.w)(mG:∀b,RO c L b→RO d L' b):∀(xs:List AV) (b o:Nat),cQ xs=true→Cells c L xs b o→Cells d L' (dH xs) b o
 | [],_,_,_,_=>trivial
 | x::xs,b,o,h,hv=>by
  simp only [cQ,aaK] at h
  obtain⟨⟨v,h1,h2,h3⟩,h4⟩:=hv
  exact⟨⟨v,by rw [hw]; exact h1,h2,yu hw mG x v h.1 h3⟩,rE hw mG xs b (o+1) h.2 h4⟩
end
mutual
theorem rF (hw:d.w=c.w)(mG:∀b,RO c L b→RO d L' b)(hrel:HRel c L)(hid:∀id,Live c.h id→RO d L' (c.β id).1):∀(n:Nat) (x y:AV) (v:Value),bX c.h n x=some y→VR c L x v→VR d L' y v
 | 0,x,y,v,h,_=>by simp [bX] at h
 | n+1,x,y,v,h,hv=>by
  have SK:(if x.eu then some x.j5 else none)=some y→VR d L' y v:=by
   intro h
   split at h
   ·rename_i hn; cases h; exact yu hw mG x v hn hv
   ·cases h
  cases x with
  | ptr id off=>
   simp only [bX,aaH] at h
   obtain⟨ob,ho,h⟩:=h
   cases ob with
   | map es=>cases h
   | row t cs=>cases h
   | cells cs=>
    simp only [aaI] at h
    obtain⟨fQ,hcs,rfl⟩:=h
    have hl:Live c.h id:=⟨hrel.lt _ _ ho,by simp [ho]⟩
    obtain⟨m,_,_,hc⟩:=hrel.obj _ _ ho
    simp only [VR] at hv ⊢
    obtain⟨_,a,rfl,ha⟩:=hv
    rw [ha hl]
    exact⟨_,_,rfl,.inr ⟨hid id hl,kT hw mG hrel hid n cs fQ _ _ hcs hc⟩⟩
  | rs id off len jb=>
   simp only [bX] at h
   split at h
   ·rename_i hid
    split at h
    rotate_left
    ·cases h
    rename_i hl0
    cases h
    simp only [VR] at hv ⊢
    rcases hv with⟨_,_,_,a,rfl⟩| hv
    ·exact⟨a,0,rfl,aaN _,by simp,.inr ⟨trivial,rfl⟩,.inl trivial⟩
    ·exact absurd hid hv.1
   rename_i ll
   rw [aaH] at h
   obtain⟨ob,ho,h⟩:=h
   cases ob with
   | map es=>cases h
   | row t cs=>cases h
   | cells cs=>
    simp only at h
    split at h
    rotate_left
    ·cases h
    rename_i hle
    simp only [aaI] at h
    obtain⟨fQ,hcs,rfl⟩:=h
    have hl:Live c.h id:=⟨hrel.lt _ _ ho,by simp [ho]⟩
    obtain⟨m,_,_,hc⟩:=hrel.obj _ _ ho
    simp only [VR] at hv ⊢
    rcases hv with hv | ⟨_,_,a,cap,rfl,h1,h2,h3⟩
    ·exact absurd hv.1 ll
    refine⟨a,cap,rfl,h1,by simp,.inl h2,?_⟩
    rcases h3 hl with⟨h4,_⟩| h4
    ·exact .inr ⟨_,_,h4,hid id hl,by simp,kT hw mG hrel hid n _ fQ _ _ hcs ((hc.drop off).take (len*jb))⟩
    ·left
     have hz:len=0:=by omega
     subst hz
     rw [Nat.zero_mul,List.take_zero] at hcs
     cases n with
     | zero=>simp [br] at hcs
     | succ n=>simp only [br,aaJ] at hcs; exact hcs.symm
  | agg cs=>
   simp only [bX,aaI] at h
   obtain⟨fQ,hcs,rfl⟩:=h
   simp only [VR] at hv ⊢
   obtain⟨vs,rfl,h1⟩:=hv
   exact⟨vs,rfl,jg hw mG hrel hid n cs fQ vs.toList hcs h1⟩
  | tup cs=>
   simp only [bX,aaI] at h
   obtain⟨fQ,hcs,rfl⟩:=h
   simp only [VR] at hv ⊢
   obtain⟨vs,rfl,h1⟩:=hv
   exact⟨vs,rfl,jg hw mG hrel hid n cs fQ vs.toList hcs h1⟩
  | fn f cs=>
   simp only [bX,aaI] at h
   obtain⟨fQ,hcs,rfl⟩:=h
   simp only [VR] at hv ⊢
   obtain⟨vs,rfl,h1⟩:=hv
   exact⟨vs,rfl,jg hw mG hrel hid n cs fQ vs.toList hcs h1⟩
  | _=>exact SK (by simpa only [bX] using h)
theorem jg (hw:d.w=c.w)(mG:∀b,RO c L b→RO d L' b)(hrel:HRel c L)(hid:∀id,Live c.h id→RO d L' (c.β id).1):∀(n:Nat) (xs ys:List AV) (vs:List Value),br c.h n xs=some ys→VRs c L xs vs→VRs d L' ys vs
 | 0,xs,ys,vs,h,_=>by simp [br] at h
 | n+1,[],ys,vs,h,hv=>by
  simp only [br,aaJ] at h
  subst h
  cases vs with
  | nil=>trivial
  | cons v vs=>exact hv.elim
 | n+1,x::xs,ys,vs,h,hv=>by
  simp only [br,aaH,aaI] at h
  obtain⟨y,hy,zs,hz,rfl⟩:=h
  cases vs with
  | nil=>exact hv.elim
  | cons v vs=>exact⟨rF hw mG hrel hid n x y v hy hv.1,jg hw mG hrel hid n xs zs vs hz hv.2⟩
theorem kT (hw:d.w=c.w)(mG:∀b,RO c L b→RO d L' b)(hrel:HRel c L)(hid:∀id,Live c.h id→RO d L' (c.β id).1):∀(n:Nat) (xs ys:List AV) (b o:Nat),br c.h n xs=some ys→Cells c L xs b o→Cells d L' ys b o
 | 0,xs,ys,b,o,h,_=>by simp [br] at h
 | n+1,[],ys,b,o,h,hv=>by
  simp only [br,aaJ] at h
  subst h
  trivial
 | n+1,x::xs,ys,b,o,h,hv=>by
  simp only [br,aaH,aaI] at h
  obtain⟨y,hy,zs,hz,rfl⟩:=h
  obtain⟨⟨v,h1,h2,h3⟩,h4⟩:=hv
  exact⟨⟨v,by rw [hw]; exact h1,h2,rF hw mG hrel hid n x y v hy h3⟩,kT hw mG hrel hid n xs zs b (o+1) hz h4⟩
end
mutual
theorem pL (hw:d.w=c.w)(hrel:HRel c L)(hid:∀id,Live c.h id→RO d L' (c.β id).1):∀(n:Nat) (x y:AV) (v:Value),gI c.h n x=some y→VR c L x v→VR d L' y v
 | 0,x,y,v,h,_=>by simp [gI] at h
 | n+1,x,y,v,h,hv=>by
  unfold gI at h
  split at h
  ·cases h; exact hv
  ·cases h; exact hv
  ·cases h; exact hv
  ·cases h; exact hv
  ·cases h; exact hv
  ·cases h; exact hv
  ·cases h
   simp only [VR] at hv ⊢
   exact⟨none,0,hv,aaN _,by simp,.inr ⟨trivial,rfl⟩,.inl trivial⟩
  ·cases h
   simp only [VR] at hv ⊢
   obtain⟨a,cap,rfl,h1,h2,hs,_⟩:=hv
   exact⟨a,cap,rfl,h1,by simp,hs,.inl trivial⟩
  ·rename_i id off len jb
   split at h
   ·rename_i ll
    split at h
    rotate_left
    ·cases h
    rename_i hl0
    cases h
    simp only [VR] at hv ⊢
    rcases hv with⟨_,_,_,a,rfl⟩| hv
    ·exact⟨a,0,rfl,aaN _,by simp,.inr ⟨trivial,rfl⟩,.inl trivial⟩
    ·exact absurd ll hv.1
   rename_i ll
   rw [aaH] at h
   obtain⟨ob,ho,h⟩:=h
   cases ob with
   | map es=>cases h
   | row t cs=>cases h
   | cells cs=>
    simp only at h
    split at h
    rotate_left
    ·cases h
    rename_i hle
    simp only [aaI] at h
    obtain⟨fQ,hcs,rfl⟩:=h
    have hl:Live c.h id:=⟨hrel.lt _ _ ho,by simp [ho]⟩
    obtain⟨m,_,_,hc⟩:=hrel.obj _ _ ho
    simp only [VR] at hv ⊢
    rcases hv with hv | ⟨_,_,a,cap,rfl,h1,h2,h3⟩
    ·exact absurd hv.1 ll
    refine⟨a,cap,rfl,h1,by simp,.inl h2,?_⟩
    rcases h3 hl with⟨h4,_⟩| h4
    ·exact .inr ⟨_,_,h4,hid id hl,by simp,nq hw hrel hid n _ fQ _ _ hcs ((hc.drop off).take (len*jb))⟩
    ·left
     have hz:len=0:=by omega
     subst hz
     rw [Nat.zero_mul,List.take_zero] at hcs
     cases n with
     | zero=>simp [dw] at hcs
     | succ n=>simp only [dw,aaJ] at hcs; exact hcs.symm
  ·rename_i cs
   simp only [aaI] at h
   obtain⟨fQ,hcs,rfl⟩:=h
   simp only [VR] at hv ⊢
   obtain⟨vs,rfl,h1⟩:=hv
   exact⟨vs,rfl,oo hw hrel hid n cs fQ vs.toList hcs h1⟩
  ·rename_i cs
   simp only [aaI] at h
   obtain⟨fQ,hcs,rfl⟩:=h
   simp only [VR] at hv ⊢
   obtain⟨vs,rfl,h1⟩:=hv
   exact⟨vs,rfl,oo hw hrel hid n cs fQ vs.toList hcs h1⟩
  ·cases h
theorem oo (hw:d.w=c.w)(hrel:HRel c L)(hid:∀id,Live c.h id→RO d L' (c.β id).1):∀(n:Nat) (xs ys:List AV) (vs:List Value),dw c.h n xs=some ys→VRs c L xs vs→VRs d L' ys vs
 | 0,xs,ys,vs,h,_=>by simp [dw] at h
 | n+1,[],ys,vs,h,hv=>by
  simp only [dw,aaJ] at h
  subst h
  cases vs with
  | nil=>trivial
  | cons v vs=>exact hv.elim
 | n+1,x::xs,ys,vs,h,hv=>by
  simp only [dw,aaH,aaI] at h
  obtain⟨y,hy,zs,hz,rfl⟩:=h
  cases vs with
  | nil=>exact hv.elim
  | cons v vs=>exact⟨pL hw hrel hid n x y v hy hv.1,oo hw hrel hid n xs zs vs hz hv.2⟩
theorem nq (hw:d.w=c.w)(hrel:HRel c L)(hid:∀id,Live c.h id→RO d L' (c.β id).1):∀(n:Nat) (xs ys:List AV) (b o:Nat),dw c.h n xs=some ys→Cells c L xs b o→Cells d L' ys b o
 | 0,xs,ys,b,o,h,_=>by simp [dw] at h
 | n+1,[],ys,b,o,h,hv=>by
  simp only [dw,aaJ] at h
  subst h
  trivial
 | n+1,x::xs,ys,b,o,h,hv=>by
  simp only [dw,aaH,aaI] at h
  obtain⟨y,hy,zs,hz,rfl⟩:=h
  obtain⟨⟨v,h1,h2,h3⟩,h4⟩:=hv
  exact⟨⟨v,by rw [hw]; exact h1,h2,pL hw hrel hid n x y v hy h3⟩,nq hw hrel hid n xs zs b (o+1) hz h4⟩
end
end
section
variable {P:Program}
theorem Kb {cf:CallF}(hcf:CallOK P cf)(deep:Nat):CallOK P fun f args h=>if cQ args then (cf f (dH args) bo).bind fun x=>(bX x.2 deep x.1).map fun r=>(r,h) else cf f args h:=by
 intro f args h r h' hc
 dsimp only at hc
 split at hc
 rotate_left
 ·exact hcf f args h r h' hc
 rename_i zx
 rw [aaH] at hc
 obtain⟨⟨x,h1⟩,hx,hc⟩:=hc
 rw [aaI] at hc
 obtain⟨r',hr,he⟩:=hc
 simp only [aaQ] at he
 obtain⟨rfl,rfl⟩:=he
 obtain⟨hin,hcall⟩:=hcf f (dH args) bo x h1 hx
 refine⟨hin,fun L0 c vs hh hb0 hrel hargs=>?_⟩
 let L1:Nat→Prop:=fun b=>L0 b∨∃id,Live c.h id∧(c.β id).1=b
 let c0:Cx:=⟨fun _=>(0,0),bo,c.w,c.w.heap.size⟩
 have hnl:∀id,¬Live c0.h id:=fun id hl=>by have:=hl.2; cases this
 have Hg:∀b,RO c L0 b→RO c0 L1 b:=fun b hb=>⟨fun id hl=>absurd hl (hnl id),fun h=>by
  rcases h with h | ⟨id,h1,h2⟩
  ·exact hb.2 h
  ·exact hb.1 id h1 h2⟩
 have uF:HRel c0 L1:=⟨fun id o ho=>(by cases ho),fun id o ho=>(by cases ho),fun id _ hl _ _=>absurd hl (hnl id),fun id hl=>absurd hl (hnl id),fun b hb=>by
  rcases hb with h | ⟨id,h1,h2⟩
  ·exact hrel.bd b h
  ·rw [←h2]; exact hrel.block h1,fun id hl=>absurd hl (hnl id),fun _=>ab9⟩
 refine (hcall L1 c0 vs rfl (aaN _) uF (qA (c:=c) (d:=c0) rfl Hg _ _ zx hargs)).mono ?_
 rintro e w' ⟨c1,v,rfl,rfl,Oy,hv,hrel1,e1⟩
 let d:Cx:=⟨c.β,c.h,c1.w,c.base⟩
 have hk:∀b,b<c.w.heap.size→c1.w.heap[b]? = c.w.heap[b]?:=fun b hb=>e1.exact b hb
 have ed:Ext c none0 d none0:=⟨aaN _,fun id _ hl=>⟨hl,rfl,iL.len (c:=c) (c':=d) (.inl (hk _ (hrel.block hl)))⟩,e1.size,fun b hb _ _=>.inl (hk b hb),fun b hb=>hk b (aa9 hb hb0),rfl,fun id hl=>.inr ⟨id,hl,rfl⟩,fun _ h=>h,fun _ h=>.inl h,e1.os,e1.tape,e1.output⟩
 have hb1:d.base≤c1.base:=by rw [e1.base]; exact hb0
 have SL:∀b,RO c1 L1 b→RO d L0 b:=fun b hb=>⟨fun id hl he=>hb.2 (.inr ⟨id,hl,he⟩),fun h=>hb.2 (.inl h)⟩
 refine⟨d,v,rfl,rfl,hh,?_,⟨hrel.lt,fun id o ho=>?_,hrel.inj,hrel.out,fun b hb=>aa9 (hrel.bd b hb) e1.size,hrel.low,hrel.ver⟩,ed⟩
 ·refine rF (c:=c1) (d:=d) (L:=L1) rfl SL hrel1 (fun id hl=>⟨fun lP pY he=>hrel1.out id hl (.inr ⟨lP,pY,he⟩),fun h=>hrel1.out id hl (.inl h)⟩) deep x r' v ?_ hv
  rw [Oy]; exact hr
 ·have hl:Live c.h id:=⟨hrel.lt _ _ ho,by rw [ho]; rfl⟩
  have:=(hrel.obj id o ho)
  have h2:=qa.ext (L0:=L0) ed (b:=(c.β id).1) (base:=(c.β id).2) (o:=o) (by rw [iO]; exact this) (hk _ (hrel.block hl))
  rw [iO] at h2
  exact h2
theorem qB {c:Cx}{L:Nat→Prop}:∀{xs:List AV} {vs:List Value},VRs c L xs vs→VRs c L (xs.map aN) vs
 | [],[],_=>trivial
 | x::_,_::_,h=>⟨by
   unfold aN
   cases hn:x.eu with
   | false=>exact h.1
   | true=>exact yu rfl (fun _ h=>h) x _ hn h.1,qB h.2⟩
 | [],_::_,h=>h.elim
 | _::_,[],h=>h.elim
theorem Ag {cf:CallF}(hcf:CallOK P cf):CallOK P fun f args h=>cf f (args.map aN) h:=by
 intro f args h r h' hc
 obtain⟨h1,h2⟩:=hcf f _ h r h' hc
 exact⟨h1,fun L0 c vs hh hb0 hrel hargs=>h2 L0 c vs hh hb0 hrel (qB hargs)⟩
theorem Kc {cf:CallF}(hcf:CallOK P cf)(deep:Nat):CallOK P fun f args h=>(br h deep args).bind fun as=>(cf f as bo).bind fun x=>(gI x.2 deep x.1).map fun r=>(r,h):=by
 intro f args h r h' hc
 dsimp only at hc
 simp only [aaH,aaI,aaQ] at hc
 obtain⟨as,has,⟨x,h1⟩,hx,r',hr,rfl,rfl⟩:=hc
 obtain⟨hin,hcall⟩:=hcf f as bo x h1 hx
 refine⟨hin,fun L0 c vs hh hb0 hrel hargs=>?_⟩
 let c0:Cx:=⟨fun _=>(0,0),bo,c.w,c.w.heap.size⟩
 have hnl:∀id,¬Live c0.h id:=fun id hl=>by have:=hl.2; cases this
 have Hg:∀b,RO c L0 b→RO c0 L0 b:=fun b hb=>⟨fun id hl=>absurd hl (hnl id),hb.2⟩
 have uF:HRel c0 L0:=⟨fun id o ho=>(by cases ho),fun id o ho=>(by cases ho),fun id _ hl _ _=>absurd hl (hnl id),fun id hl=>absurd hl (hnl id),hrel.bd,fun id hl=>absurd hl (hnl id),fun _=>ab9⟩
 have uG:VRs c0 L0 as vs:=jg (c:=c) (d:=c0) rfl Hg hrel (fun id hl=>⟨fun lP pY=>absurd pY (hnl lP),hrel.out id hl⟩) deep args as vs (by rw [hh]; exact has) hargs
 refine (hcall L0 c0 vs rfl (aaN _) uF uG).mono ?_
 rintro e w' ⟨c1,v,rfl,rfl,Oy,hv,hrel1,e1⟩
 let d:Cx:=⟨c.β,c.h,c1.w,c.base⟩
 have hk:∀b,b<c.w.heap.size→c1.w.heap[b]? = c.w.heap[b]?:=fun b hb=>e1.exact b hb
 have ed:Ext c none0 d none0:=⟨aaN _,fun id _ hl=>⟨hl,rfl,iL.len (c:=c) (c':=d) (.inl (hk _ (hrel.block hl)))⟩,e1.size,fun b hb _ _=>.inl (hk b hb),fun b hb=>hk b (aa9 hb hb0),rfl,fun id hl=>.inr ⟨id,hl,rfl⟩,fun _ h=>h,fun _ h=>.inl h,e1.os,e1.tape,e1.output⟩
 refine⟨d,v,rfl,rfl,hh,?_,⟨hrel.lt,fun id o ho=>?_,hrel.inj,hrel.out,fun b hb=>aa9 (hrel.bd b hb) e1.size,hrel.low,hrel.ver⟩,ed⟩
 ·refine pL (c:=c1) (d:=d) (L:=L0) rfl hrel1 (fun id hl=>⟨fun lP pY he=>?_,hrel1.out id hl⟩) deep x r' v ?_ hv
  ·rcases e1.JU id hl with h2 | ⟨rl,h2,_⟩
   ·have:=hrel.block pY
    have h3:(c.β lP).1=(c1.β id).1:=he
    have h4:c.w.heap.size≤(c1.β id).1:=h2
    omega
   ·exact absurd h2 (hnl rl)
  ·rw [Oy]; exact hr
 ·have hl:Live c.h id:=⟨hrel.lt _ _ ho,by rw [ho]; rfl⟩
  have:=(hrel.obj id o ho)
  have h2:=qa.ext (L0:=L0) ed (b:=(c.β id).1) (base:=(c.β id).2) (o:=o) (by rw [iO]; exact this) (hk _ (hrel.block hl))
  rw [iO] at h2
  exact h2
section
variable {c1 d:Cx}{L1:Nat→Prop}{k:Nat}
mutual
theorem uH (hw:d.w=c1.w)(hn:∀id,id<c1.h.next→id+k<d.h.next)(hl:∀id,Live d.h (id+k)→Live c1.h id∧d.β (id+k)=c1.β id):∀(x y:AV) (v:Value),dj k x=some y→VR c1 L1 x v→VR d L1 y v
 | .any,_,_,h,_=>by simp [dj] at h
 | .bool _,_,_,h,hv=>by simp only [dj,aaJ] at h; subst h; exact hv
 | .int _ _,_,_,h,hv=>by simp only [dj,aaJ] at h; subst h; exact hv
 | .str _,_,_,h,hv=>by simp only [dj,aaJ] at h; subst h; exact hv
 | .pC,_,_,h,hv=>by simp only [dj,aaJ] at h; subst h; exact hv
 | .nw,_,_,h,hv=>by simp only [dj,aaJ] at h; subst h; exact hv
 | .p6,_,_,h,hv=>by simp only [dj,aaJ] at h; subst h; exact hv
 | .nils,_,_,h,hv=>by simp only [dj,aaJ] at h; subst h; exact hv
 | .ptr id off,_,_,h,hv=>by
  simp only [dj,aaJ] at h
  subst h
  simp only [VR] at hv ⊢
  obtain⟨h1,a,rfl,h2⟩:=hv
  refine⟨hn _ h1,a,rfl,fun mE=>?_⟩
  obtain⟨g1,g2⟩:=hl _ mE
  rw [g2]; exact h2 g1
 | .lp _ _,_,_,h,_=>by simp [dj] at h
 | .fp _ _,_,_,h,_=>by simp [dj] at h
 | .fz _ _ _,_,_,h,_=>by simp [dj] at h
 | .rs id off len z,y,v,h,hv=>by
  simp only [dj] at h
  split at h
  ·rename_i h0
   cases h
   subst h0
   simp only [VR] at hv ⊢
   rcases hv with⟨_,h2,h3,h4⟩| h1
   ·exact .inl ⟨trivial,h2,h3,h4⟩
   ·exact absurd rfl h1.1
  ·rename_i h0
   cases h
   simp only [VR] at hv ⊢
   rcases hv with h1 | ⟨_,h1,a,cap,rfl,h2,h3,h4⟩
   ·exact absurd h1.1 h0
   refine .inr ⟨by omega,hn _ h1,a,cap,rfl,h2,h3,fun mE=>?_⟩
   obtain⟨g1,g2⟩:=hl _ mE
   have:=h4 g1
   rw [g2]
   unfold Cx.len at this ⊢
   rw [hw]; exact this
 | .mp _,_,_,h,_=>by simp [dj] at h
 | .fn _ _,_,_,h,_=>by simp [dj] at h
 | .agg cs,_,v,h,hv=>by
  simp only [dj,aaI] at h
  obtain⟨ys,h1,rfl⟩:=h
  simp only [VR] at hv ⊢
  obtain⟨vs,rfl,h2⟩:=hv
  exact⟨vs,rfl,rG hw hn hl cs ys vs.toList h1 h2⟩
 | .tup cs,_,v,h,hv=>by
  simp only [dj,aaI] at h
  obtain⟨ys,h1,rfl⟩:=h
  simp only [VR] at hv ⊢
  obtain⟨vs,rfl,h2⟩:=hv
  exact⟨vs,rfl,rG hw hn hl cs ys vs.toList h1 h2⟩
theorem rG (hw:d.w=c1.w)(hn:∀id,id<c1.h.next→id+k<d.h.next)(hl:∀id,Live d.h (id+k)→Live c1.h id∧d.β (id+k)=c1.β id):∀(xs ys:List AV) (vs:List Value),cE k xs=some ys→VRs c1 L1 xs vs→VRs d L1 ys vs
 | [],ys,[],h,_=>by simp only [cE,aaJ] at h; subst h; trivial
 | x::xs,ys,v::vs,h,hv=>by
  simp only [cE,aaH,aaI] at h
  obtain⟨y,h1,Yd,h2,rfl⟩:=h
  exact⟨uH hw hn hl x y v h1 hv.1,rG hw hn hl xs Yd vs h2 hv.2⟩
 | [],_,_::_,_,h=>h.elim
 | _::_,_,[],_,h=>h.elim
end
theorem sD (hw:d.w=c1.w)(hn:∀id,id<c1.h.next→id+k<d.h.next)(hl:∀id,Live d.h (id+k)→Live c1.h id∧d.β (id+k)=c1.β id):∀(xs:List AV) (b o:Nat),Cells c1 L1 xs b o→Cells d L1 (gi k xs) b o
 | [],_,_,_=>trivial
 | x::xs,b,o,h=>by
  obtain⟨⟨v,h1,h2,h3⟩,h4⟩:=h
  unfold gi
  cases hx:dj k x with
  | none=>trivial
  | some y=>exact⟨⟨v,by rw [hw]; exact h1,h2,uH hw hn hl x y v hx h3⟩,sD hw hn hl xs b (o+1) h4⟩
end
theorem uI (k:Nat):∀xs:List AV,(gi k xs).length≤xs.length
 | []=>aaN _
 | x::xs=>by
  unfold gi
  cases dj k x with
  | none=>exact abe _
  | some y=>exact Nat.succ_le_succ (uI k xs)
theorem jW {h h1:AHeap}{i:Nat}(hi:i<h.next):(h.eV h1).get i=h.get i∧(h.eV h1).ver i=h.ver i:=by
 have:Nat.blt i h.next=true:=by rw [Nat.blt_eq]; exact hi
 simp only [AHeap.eV,this,cond_true,and_self]
theorem kU {h h1:AHeap}{i:Nat}(hi:h.next≤i):(h.eV h1).get i=(h1.get (i - h.next)).bind (B5 h.next)∧(h.eV h1).ver i=h.next+h1.ver (i - h.next):=by
 have:Nat.blt i h.next=false:=by
  cases hb:Nat.blt i h.next with
  | false=>rfl
  | true=>rw [Nat.blt_eq] at hb; omega
 simp only [AHeap.eV,this,cond_false,and_self]
theorem Steady.eV {h h1:AHeap}(hw:∀id,h1.ver id<h1.next):Steady h (h.eV h1):=by
 refine⟨Nat.le_add_right _ _,fun i=>?_,fun hv i=>?_⟩
 ·by_cases hi:i<h.next
  ·exact .inl ⟨(jW hi).2,(jW hi).1⟩
  ·right; rw [(kU (abh hi)).2]; exact Nat.le_add_right _ _
 ·show _<h.next+h1.next
  by_cases hi:i<h.next
  ·rw [(jW hi).2]; have:=hv i; omega
  ·rw [(kU (abh hi)).2]; have:=hw (i - h.next); omega
theorem Hh {cf:CallF}(hcf:CallOK P cf)(deep:Nat):CallOK P fun f args h=>(br h deep args).bind fun us=>(cf f us bo).bind fun x=>(dj h.next x.1).map fun r=>(r,h.eV x.2):=by
 intro f args h r h' hc
 dsimp only at hc
 simp only [aaH,aaI,aaQ] at hc
 obtain⟨us,has,⟨x,h1⟩,hx,r',hr,rfl,rfl⟩:=hc
 obtain⟨hin,hcall⟩:=hcf f us bo x h1 hx
 refine⟨hin,fun L0 c vs hh hb0 hrel hargs=>?_⟩
 let c0:Cx:=⟨fun _=>(0,0),bo,c.w,c.w.heap.size⟩
 have hnl:∀id,¬Live c0.h id:=fun id hl=>by have:=hl.2; cases this
 have Hg:∀b,RO c L0 b→RO c0 L0 b:=fun b hb=>⟨fun id hl=>absurd hl (hnl id),hb.2⟩
 have uF:HRel c0 L0:=⟨fun id o ho=>(by cases ho),fun id o ho=>(by cases ho),fun id _ hl _ _=>absurd hl (hnl id),fun id hl=>absurd hl (hnl id),hrel.bd,fun id hl=>absurd hl (hnl id),fun _=>ab9⟩
 have uG:VRs c0 L0 us vs:=jg (c:=c) (d:=c0) rfl Hg hrel (fun id hl=>⟨fun lP pY=>absurd pY (hnl lP),hrel.out id hl⟩) deep args us vs (by rw [hh]; exact has) hargs
 refine (hcall L0 c0 vs rfl (aaN _) uF uG).mono ?_
 rintro e w' ⟨c1,v,rfl,rfl,Oy,hv,hrel1,e1⟩
 let d:Cx:=⟨fun i=>if i<c.h.next then c.β i else c1.β (i - c.h.next),c.h.eV c1.h,c1.w,c.base⟩
 have hk:∀b,b<c.w.heap.size→c1.w.heap[b]? = c.w.heap[b]?:=fun b hb=>e1.exact b hb
 have sj:∀i,i<c.h.next→Live d.h i→Live c.h i:=fun i hi hl=>⟨hi,by have:=hl.2; rw [show d.h.get i=_ from (jW hi).1] at this; exact this⟩
 have LK:∀i,c.h.next≤i→Live d.h i→Live c1.h (i - c.h.next):=fun i hi hl=>by
  have h2:=hl.2
  rw [show d.h.get i=_ from (kU hi).1] at h2
  cases hg:c1.h.get (i - c.h.next) with
  | none=>rw [hg] at h2; cases h2
  | some o=>exact⟨hrel1.lt _ _ hg,by rw [hg]; rfl⟩
 have Kd:∀i,i<c.h.next→d.β i=c.β i:=fun i hi=>if_pos hi
 have Hi:∀i,c.h.next≤i→d.β i=c1.β (i - c.h.next):=fun i hi=>if_neg (by omega)
 have Ke:∀i,Live c1.h i→c.w.heap.size≤(c1.β i).1:=fun i hl=>by
  rcases e1.JU i hl with h2 | ⟨rl,h2,_⟩
  ·exact h2
  ·exact absurd h2 (hnl rl)
 have ed:Ext c none0 d none0:=⟨Nat.le_add_right _ _,fun id hi hl=>⟨sj id hi hl,Kd id hi,iL.len (c:=c) (c':=d) (.inl (hk _ (hrel.block (sj id hi hl))))⟩,e1.size,fun b hb _ _=>.inl (hk b hb),fun b hb=>hk b (aa9 hb hb0),rfl,fun id hl=>by
  by_cases hi:id<c.h.next
  ·exact .inr ⟨id,sj id hi hl,by rw [Kd id hi]⟩
  ·rw [Hi id (abh hi)]
   exact .inl (Ke _ (LK id (abh hi) hl)),fun _ h=>h,fun _ h=>.inl h,e1.os,e1.tape,e1.output⟩
 have gn:∀id,id<c1.h.next→id+c.h.next<d.h.next:=fun id hi=>by show _<c.h.next+c1.h.next; omega
 have gl:∀id,Live d.h (id+c.h.next)→Live c1.h id∧d.β (id+c.h.next)=c1.β id:=fun id hl=>by
  have a:=LK (id+c.h.next) (Nat.le_add_left _ _) hl
  have b:=Hi (id+c.h.next) (Nat.le_add_left _ _)
  rw [Nat.add_sub_cancel] at a b
  exact⟨a,b⟩
 refine⟨d,v,rfl,rfl,?_,?_,⟨fun id o ho=>?_,fun id o ho=>?_,fun id lP hl pY he=>?_,fun id hl=>?_,fun b hb=>aa9 (hrel.bd b hb) e1.size,fun id hl=>?_,fun id=>?_⟩,ed⟩
 ·show c.h.eV c1.h=h.eV h1
  rw [hh,Oy]
 ·refine uH (c1:=c1) (d:=d) (k:=c.h.next) rfl gn gl x r' v ?_ hv
  rw [hh]; exact hr
 ·show id<c.h.next+c1.h.next
  by_cases hi:id<c.h.next
  ·omega
  ·rw [show d.h.get id=_ from (kU (abh hi)).1,aaH] at ho
   obtain⟨o1,LA,_⟩:=ho
   have:=hrel1.lt _ _ LA
   omega
 ·by_cases hi:id<c.h.next
  ·rw [show d.h.get id=_ from (jW hi).1] at ho
   have hl:Live c.h id:=⟨hi,by rw [ho]; rfl⟩
   have:=(hrel.obj id o ho)
   have h2:=qa.ext (L0:=L0) ed (b:=(c.β id).1) (base:=(c.β id).2) (o:=o) (by rw [iO]; exact this) (hk _ (hrel.block hl))
   rw [iO] at h2
   rw [Kd id hi]
   exact h2
  ·rw [show d.h.get id=_ from (kU (abh hi)).1,aaH] at ho
   obtain⟨o1,LA,ho⟩:=ho
   rw [Hi id (abh hi)]
   cases o1 with
   | map es=>cases ho
   | row t cs=>cases ho
   | cells cs=>
    simp only [B5,aaJ] at ho
    subst ho
    obtain⟨n,g1,g2,g3⟩:=hrel1.obj _ _ LA
    exact⟨n,g1,abB (Nat.add_le_add_left (uI _ _) _) g2,sD (c1:=c1) (d:=d) rfl gn gl cs _ _ g3⟩
 ·by_cases hi:id<c.h.next<;>by_cases kp:lP<c.h.next
  ·rw [Kd id hi,Kd lP kp] at he
   exact hrel.inj id lP (sj id hi hl) (sj lP kp pY) he
  ·rw [Kd id hi,Hi lP (abh kp)] at he
   have a:=hrel.block (sj id hi hl)
   have b:=Ke _ (LK lP (abh kp) pY)
   omega
  ·rw [Hi id (abh hi),Kd lP kp] at he
   have a:=hrel.block (sj lP kp pY)
   have b:=Ke _ (LK id (abh hi) hl)
   omega
  ·rw [Hi id (abh hi),Hi lP (abh kp)] at he
   have:=hrel1.inj _ _ (LK id (abh hi) hl) (LK lP (abh kp) pY) he
   omega
 ·by_cases hi:id<c.h.next
  ·rw [Kd id hi]; exact hrel.out id (sj id hi hl)
  ·rw [Hi id (abh hi)]; exact hrel1.out _ (LK id (abh hi) hl)
 ·show c.base≤_
  by_cases hi:id<c.h.next
  ·rw [Kd id hi]; exact hrel.low id (sj id hi hl)
  ·rw [Hi id (abh hi)]; exact abB hb0 (Ke _ (LK id (abh hi) hl))
 ·show _<c.h.next+c1.h.next
  by_cases hi:id<c.h.next
  ·rw [show d.h.ver id=_ from (jW hi).2]; have:=hrel.ver id; omega
  ·rw [show d.h.ver id=_ from (kU (abh hi)).2]; have:=hrel1.ver (id - c.h.next); omega
theorem mR {T:pj}(sE:IntrOK P T.intr)(m:Nat):∀k,SteadyF (fy P T m k)
 | 0=>fun f args h r h' hc=>by simp [fy] at hc
 | k+1=>fun f args h r h' hc=>by
  have hb:=yk (P:=P) (aS:=T.aS) (m:=m) (mR sE m k)
  simp only [fy] at hc
  split at hc
  ·rename_i g hg
   exact (sE f g hg).2 _ _ _ _ hc
  ·split at hc
   ·split at hc
    ·simp only [aaH] at hc
     obtain⟨us,_,x,hx,hc⟩:=hc
     obtain⟨r',_,h2⟩:=Option.map_some' hc
     cases h2
     exact Steady.eV ((hb _ _ _ _ _ hx).wf fun _=>ab9)
    split at hc
    ·rw [aaH] at hc
     obtain⟨x,_,hc⟩:=hc
     obtain⟨r',_,h2⟩:=Option.map_some' hc
     cases h2
     exact Steady.refl _
    ·split at hc
     ·rw [aaH] at hc
      obtain⟨x,_,hc⟩:=hc
      obtain⟨r',_,h2⟩:=Option.map_some' hc
      cases h2
      exact Steady.refl _
     ·exact hb _ _ _ _ _ hc
   ·exact hb _ _ _ _ _ hc
theorem qC (hP:Fit P){T:pj}(sE:IntrOK P T.intr)(m:Nat):∀k,CallOK P (fy P T m k)
 | 0=>fun f args h r h' hc=>by simp [fy] at hc
 | k+1=>fun f args h r h' hc=>by
  have ih:=qC hP sE m k
  have hb:=z8 hP (aS:=T.aS) ih (Ae hP.mixed ih (mR sE m k)) m
  simp only [fy] at hc
  split at hc
  ·rename_i g hg
   exact (sE f g hg).1 f args h r h' (by simpa using hc)
  ·split at hc
   ·rename_i deep _
    split at hc
    ·exact Hh hb deep f args h r h' hc
    by_cases zx:cQ args=true
    ·exact Kb hb deep f args h r h' (by dsimp only; rw [if_pos zx] at hc ⊢; exact hc)
    ·rw [if_neg zx] at hc
     split at hc
     ·rename_i as has
      refine Kc hb deep f args h r h' ?_
      dsimp only
      rw [has]
      exact hc
     ·exact Ag hb f args h r h' hc
   ·exact Ag hb f args h r h' hc
def Pq (P : Program) : Bool := P.funcs.toList.all fun fn => fn.name != "runtime.NumGoroutine" && match fn.body with | some c => lH fn.ntmps c | none => true
theorem MF (h1:P.follows .mixedOrders=true)(h2:Pq P=true):Fit P:=by
 refine⟨h1,fun f fn c hf hb=>?_⟩
 unfold Pq at h2
 rw [aa1] at h2
 have:=h2 fn (abF.2 (Array.mem_of_getElem? hf))
 rw [hb] at this
 simp only [aaK,bne_iff_ne,ne_eq] at this
 exact⟨this.2,this.1⟩
theorem oT:IntrOK P fun _=>none:=fun f g h=>by cases h
end
end Go.R
