/- Part of the proof: RLocal, RSteady, RDraw, RPure. -/
import Derived.Test.YtifafejidnjckaaK2
import Derived.StillTail
set_option linter.unusedVariables false
set_option linter.unusedSimpArgs false
set_option maxRecDepth 100000
open Array renaming getElem?_eq_some_iff → VZ, mem_toList_iff → Wj
open Bool renaming and_eq_true → Vu, false_eq_true → VB, or_eq_true → Wb, not_true → Wn, not_eq_true' → Ww
open List renaming getElem?_append_left → VG, all_eq_true → VK, mem_append → VX, getElem?_eq_none → V1, mem_map → V8, getElem?_cons_zero → V9, range → WS, map_congr_left → WY
open Nat renaming le_refl → Vv, zero_add → VO, lt_of_lt_of_le → VP, le_of_not_lt → VV, le_trans → We, zero_le → Wg, add_assoc → Wm, eq_of_beq_eq_true → Wr, min_eq_left → WL, zero_lt_one → WM, add_comm → WT
open Option renaming bind_eq_some_iff → Vp, bind_some → Vq, map_eq_some_iff → Vr, map_some → Vw, getD_some → Wl
open Option.some renaming injEq → Vt, inj → Wc
open Prod.mk renaming injEq → Vz
namespace Go.R
open Go
def RS.shift (s2:RS)(f:kG)(d:Option Nat)(s':RS):RS:=
 {ρ:=match d with | none=>s2.ρ | some d=>fun t=>if t=d then s'.ρ d else s2.ρ t
  bx:=match f.wb with | none=>s2.bx | some k=>fun t=>if t=k then s'.bx k else s2.bx t
  h:=if f.wh then s'.h else s2.h}
theorem RS.ext' {s t:RS}(h1:∀i,s.ρ i=t.ρ i)(h2:∀i,s.bx i=t.bx i)(h3:s.h=t.h):s=t:=by
 cases s; cases t
 congr
 ·exact funext h1
 ·exact funext h2
theorem iq (s s2:RS)(f:kG)(d:Option Nat)(z:AV)(hw:f.wb=none)(hh:f.wh=false):s2.set d z=s2.shift f d (s.set d z):=by
 refine RS.ext' (fun i=>?_) (fun i=>?_) ?_
 ·cases d with
  | none=>rfl
  | some d=>simp only [tM,RS.shift,if_true]
 ·simp only [RS.shift,hw]; cases d<;>rfl
 ·simp only [RS.shift,hh]; cases d<;>rfl
theorem jd (s:RS)(d:Option Nat)(z:AV):(s.set d z).h=s.h:=by cases d<;>rfl
theorem Iv (s:RS)(d:Option Nat)(z:AV):(s.set d z).bx=s.bx:=by cases d<;>rfl
theorem DG (s:RS)(k i:Nat)(cs:List AV):(s.box k cs).bx i=if i=k then some cs else s.bx i:=by
 simp only [RS.box,beq_nat]
 by_cases h:i=k<;>simp [h]
theorem gF (s s2:RS)(f:kG)(d:Option Nat)(z:AV)(h':AHeap)(hw:f.wb=none)(hh:f.wh=true):({s2 with h:=h'}:RS).set d z=s2.shift f d (({s with h:=h'}:RS).set d z):=by
 refine RS.ext' (fun i=>?_) (fun i=>?_) ?_
 ·cases d with
  | none=>rfl
  | some d=>simp only [tM,RS.shift,if_true]
 ·simp only [RS.shift,hw]; cases d<;>rfl
 ·simp only [RS.shift,hh]; cases d<;>rfl
theorem B6 (s s2:RS)(f:kG)(k:Nat)(cs:List AV)(hw:f.wb=some k)(hh:f.wh=false):s2.box k cs=s2.shift f none (s.box k cs):=by
 refine RS.ext' (fun i=>rfl) (fun i=>?_) ?_
 ·simp only [DG,RS.shift,hw,if_true]
 ·simp only [RS.shift,hh]; rfl
section
variable {P:Program}{cf:CallF}{aE ds:List Nat}{o:Oper}{s s' s2:RS}
theorem oA {cs:List AV}{f:kG}(h:ic s aE ds o cs=some s')(hf:f=(match o.dst with
  | some d=>if aE.contains d then {wb:=some d,al:=true} else {wh:=true}
  | none=>{})) (hh:f.wh=true→s2.h=s.h) (oa:f.al=true→∀d,o.dst=some d→rL d s2.ρ (ds.filter fun t=>!Nat.beq t d)=true) :
  ic s2 aE ds o cs=some (s2.shift f o.dst s'):=by
 unfold ic at h ⊢
 split at h
 rotate_left
 ·cases h
 rename_i n9
 rw [if_pos n9]
 cases hd:o.dst with
 | none=>rw [hd] at h; cases h
 | some d=>
  rw [hd] at h hf
  simp only at h hf ⊢
  by_cases hl:aE.contains d=true
  ·rw [if_pos hl] at h hf ⊢
   subst hf
   split at h
   rotate_left
   ·cases h
   cases h
   rw [if_pos (oa rfl d hd)]
   congr 1
   refine RS.ext' (fun i=>?_) (fun i=>?_) ?_
   ·simp only [tM,RS.shift,if_true]; rfl
   ·simp only [Iv,DG,RS.shift,if_true]
   ·simp only [jd,RS.shift]; rfl
  ·rw [if_neg hl] at h hf ⊢
   subst hf
   cases h
   rw [hh rfl]
   congr 1
   exact gF s s2 {wh:=true} (some d) _ _ rfl rfl
theorem tX {e:Operand→AV}(h:yM P cf aE ds e s o=some s')(hb:∀k∈(bf aE e o).rb,s2.bx k=s.bx k)(hr:∀id∈(bf aE e o).rh,s2.h.get id=s.h.get id)
  (hh:(bf aE e o).wh=true→s2.h=s.h) (oa:(bf aE e o).al=true→∀d,o.dst=some d→rL d s2.ρ (ds.filter fun t=>!Nat.beq t d)=true) :
  yM P cf aE ds e s2 o=some (s2.shift (bf aE e o) o.dst s'):=by
 have dT:∀{x x2:Option AV} (f:kG),(x.map fun x=>s.set o.dst x)=some s'→(x2=x)→f.wb=none→f.wh=false→(x2.map fun x=>s2.set o.dst x)=some (s2.shift f o.dst s'):=by
  intro x x2 f hx h2 h3 h4
  obtain⟨z,rfl,rfl⟩:=Option.map_some' hx
  subst h2
  simp only [Vw]
  rw [←iq s s2 f o.dst z h3 h4]
 have wU:∀{α:Type} {x x2:Option α} (f:kG) (g:α→AV) (k:α→AHeap),(x.map fun y=>({s with h:=k y}:RS).set o.dst (g y))=some s'→(x2=x)→f.wb=none→f.wh=true→
   (x2.map fun y=>({s2 with h:=k y}:RS).set o.dst (g y))=some (s2.shift f o.dst s'):=by
  intro α x x2 f g k hx h2 h3 h4
  obtain⟨z,rfl,rfl⟩:=Option.map_some' hx
  subst h2
  simp only [Vw]
  rw [←gF s s2 f o.dst (g z) (k z) h3 h4]
 unfold yM at h ⊢
 dsimp only at h ⊢
 split at h
 ·rename_i x ho; cases h; simp only [Vt]; exact iq s s2 _ _ _ (by simp [bf,ho]) (by simp [bf,ho])
 ·rename_i x ho; cases h; simp only [Vt]; exact iq s s2 _ _ _ (by simp [bf,ho]) (by simp [bf,ho])
 ·rename_i k x y ho
  obtain⟨t,ht,rfl⟩:=Option.map_some' h
  simp only [ht,Vw,Vt]
  exact iq s s2 _ _ _ (by simp [bf,ho]) (by simp [bf,ho])
 ·rename_i t ho
  rw [Vp] at h
  obtain⟨z,hz,h⟩:=h
  simp only [hz,Vq]
  exact oA h (by simp only [bf,ho]; rfl) hh oa
 ·rename_i t x ho
  exact oA h (by simp only [bf,ho]; rfl) hh oa
 ·rename_i t ps ho; exact dT _ h rfl (by simp [bf,ho]) (by simp [bf,ho])
 ·rename_i t k ps ho
  obtain⟨z,hz,rfl⟩:=Option.map_some' h
  simp only [hz,Vw,Vt]
  have hf:bf aE e o=(match o.dst with | some d=>if aE.contains d then {wh:=true} else {} | none=>{}):=by simp only [bf,ho]; rfl
  unfold px
  cases Io:nI P aE o t z with
  | none=>
   simp only
   cases hd:o.dst with
   | none=>rw [hd] at hf; rw [hf]; exact iq s s2 _ none _ rfl rfl
   | some d=>
    rw [hd] at hf
    simp only at hf
    by_cases hl:aE.contains d=true
    ·rw [if_pos hl] at hf
     have h2:=hh (by rw [hf])
     rw [hf]
     have h3:=gF s s2 {wh:=true} (some d) z s2.h rfl rfl
     refine h3.trans ?_
     rw [h2]
    ·rw [if_neg hl] at hf
     rw [hf]; exact iq s s2 _ _ _ rfl rfl
  | some q=>
   obtain⟨d,hd,hl⟩:∃d,o.dst=some d∧aE.contains d=true:=by
    unfold nI at Io
    split at Io
    ·rename_i d _ _ _ hd
     refine⟨d,hd,?_⟩
     cases hc:aE.contains d with
     | false=>rw [hc] at Io; cases Io
     | true=>rfl
    ·cases Io
   rw [hd] at hf
   simp only [hl,if_true] at hf
   rw [hf] at hh ⊢
   simp only [hh rfl]
   exact gF s s2 _ _ _ _ rfl rfl
 ·
  rename_i t x ho
  have hf:bf aE e o=(match e x with | .lp k _=>{rb:=[k]} | .ptr id _=>{rh:=[id]} | _=>{}):=by simp only [bf,ho]; rfl
  refine dT _ h ?_ ?_ ?_
  ·rw [hf] at hb hr
   unfold jG
   cases hx:e x<;>rw [hx] at hb hr<;>try rfl
   ·simp only; rw [hr _ (by simp)]
   ·simp only; rw [hb _ (by simp)]
  ·rw [hf]; cases e x<;>rfl
  ·rw [hf]; cases e x<;>rfl
 ·
  rename_i t x y ho
  have hf:bf aE e o=(match e x with | .lp k _=>{rb:=[k],wb:=some k} | _=>{wh:=true}):=by simp only [bf,ho]; rfl
  try simp only at h ⊢
  split at h
  ·cases h
  rename_i hd
  rw [if_neg hd]
  have F0:o.dst=none:=by simpa using hd
  cases hx:e x<;>rw [hx] at h hf<;>simp only at h hf ⊢<;>try (cases h; done)
  ·rename_i id off
   rw [hf] at hh ⊢
   rw [Vp] at h
   obtain⟨ob,hob,h⟩:=h
   rw [hh rfl,hob]
   cases ob with
   | map es=>cases h
   | row t cs=>cases h
   | cells cs=>
    obtain⟨fi,hcs,rfl⟩:=Option.map_some' h
    simp only [Vq,hcs,Vw,F0,Vt]
    exact gF s s2 {wh:=true} none .any _ rfl rfl
  ·rename_i k off
   rw [hf] at hb ⊢
   rw [Vp] at h
   obtain⟨cs,hcs,h⟩:=h
   rw [hb k (by simp),hcs]
   obtain⟨fi,Nx,rfl⟩:=Option.map_some' h
   simp only [Vq,Nx,Vw,F0,Vt]
   exact B6 s s2 _ k fi rfl rfl
 ·rename_i ho; exact dT _ h rfl (by simp [bf,ho]) (by simp [bf,ho])
 ·rename_i ho; exact dT _ h rfl (by simp [bf,ho]) (by simp [bf,ho])
 ·rename_i ho; exact dT _ h rfl (by simp [bf,ho]) (by simp [bf,ho])
 ·
  rename_i a b x ho
  have hf:bf aE e o=(match e x with | .rs id _ _ _=>{rh:=[id]} | _=>{}):=by simp only [bf,ho]; rfl
  refine dT _ h ?_ ?_ ?_
  ·have hc:eu s2.h 1 (e x)=eu s.h 1 (e x):=by
    rw [hf] at hr
    unfold eu
    cases hx:e x<;>rw [hx] at hr<;>try rfl
    simp only; rw [hr _ (by simp)]
   unfold mg
   rw [hc]
  ·rw [hf]; cases e x<;>rfl
  ·rw [hf]; cases e x<;>rfl
 ·rename_i y4 first cap ho
  try simp only
  split at h
  ·rename_i hc
   rw [if_pos hc]
   exact dT _ h rfl (by simp [bf,ho]) (by simp [bf,ho])
  ·cases h
 ·rename_i ho
  have hf:(bf aE e o).wh=true:=by simp [bf,ho]
  cases h
  simp only [hh hf,Vt]
  exact gF s s2 _ _ _ _ (by simp [bf,ho]) hf
 ·rename_i t l c ho
  have hf:(bf aE e o).wh=true:=by simp [bf,ho]
  exact wU _ (fun y:AV × AHeap=>y.1) (fun y=>y.2) h (by simp only [hh hf]) (by simp [bf,ho]) hf
 ·rename_i ho; exact dT _ h rfl (by simp [bf,ho]) (by simp [bf,ho])
 ·rename_i ho; exact dT _ h rfl (by simp [bf,ho]) (by simp [bf,ho])
 ·rename_i ho; exact dT _ h rfl (by simp [bf,ho]) (by simp [bf,ho])
 ·rename_i ho; exact dT _ h rfl (by simp [bf,ho]) (by simp [bf,ho])
 ·rename_i ho; exact dT _ h rfl (by simp [bf,ho]) (by simp [bf,ho])
 ·
  rename_i t m k ok ho
  have hf:bf aE e o=(match e m with | .mp id=>{rh:=[id]} | _=>{}):=by simp only [bf,ho]; rfl
  refine dT _ h ?_ ?_ ?_
  ·rw [hf] at hr
   unfold fU
   cases hx:e m<;>rw [hx] at hr<;>try rfl
   simp only; rw [hr _ (by simp)]
  ·rw [hf]; cases e m<;>rfl
  ·rw [hf]; cases e m<;>rfl
 ·rename_i t m k x ho
  have hf:(bf aE e o).wh=true:=by simp [bf,ho]
  try simp only at h ⊢
  split at h
  ·cases h
  rename_i hd
  rw [if_neg hd]
  have F0:o.dst=none:=by simpa using hd
  obtain⟨h',hm,rfl⟩:=Option.map_some' h
  simp only [hh hf,hm,Vw,F0,Vt]
  exact gF s s2 _ none .any _ (by simp [bf,ho]) hf
 ·rename_i t m k x ho
  have hf:(bf aE e o).wh=true:=by simp [bf,ho]
  try simp only at h ⊢
  split at h
  ·cases h
  rename_i hd
  rw [if_neg hd]
  have F0:o.dst=none:=by simpa using hd
  obtain⟨h',hm,rfl⟩:=Option.map_some' h
  simp only [hh hf,hm,Vw,F0,Vt]
  exact gF s s2 _ none .any _ (by simp [bf,ho]) hf
 ·rename_i ho; exact dT _ h rfl (by simp [bf,ho]) (by simp [bf,ho])
 ·
  rename_i b args Ad ho
  try simp only
  unfold fP at h ⊢
  generalize hargs:args.toList.map e=as at h ⊢
  generalize Ad.toList=ts at h ⊢
  split at h
  ·rename_i t x
   try simp only
   have hf:bf aE e o=(match x with | .mp id=>{rh:=[id]} | _=>{}):=by
    simp only [bf,ho,hargs]
    cases x<;>rfl
   refine dT _ h ?_ ?_ ?_
   ·rw [hf] at hr
    unfold rK
    cases x<;>try rfl
    simp only; rw [hr _ (by simp)]
   ·rw [hf]; cases x<;>rfl
   ·rw [hf]; cases x<;>rfl
  ·try simp only
   have hf:(bf aE e o).wh=true∧(bf aE e o).wb=none:=by simp only [bf,ho,hargs]; simp
   exact wU _ (fun y:AV × AHeap=>y.1) (fun y=>y.2) h (by simp only [hh hf.1]) hf.2 hf.1
  ·try simp only
   have hf:(bf aE e o).wh=true∧(bf aE e o).wb=none:=by simp only [bf,ho,hargs]; simp
   exact wU _ (fun y:AV × AHeap=>y.1) (fun y=>y.2) h (by simp only [hh hf.1]) hf.2 hf.1
  ·try simp only
   have hf:(bf aE e o).wh=true∧(bf aE e o).wb=none:=by simp only [bf,ho,hargs]; simp
   exact wU _ (fun _:AHeap=>.tup []) (fun y=>y) h (by simp only [hh hf.1]) hf.2 hf.1
  ·try simp only
   rw [Vp] at h
   obtain⟨v,hv,h⟩:=h
   rw [Vp] at h
   obtain⟨vs,C4,h⟩:=h
   rw [Vp] at h
   obtain⟨u,hu,h⟩:=h
   simp only [hv,C4,hu,Vq]
   exact dT _ h rfl (by simp [bf,ho]) (by simp [bf,ho])
  ·try simp only
   rw [Vp] at h
   obtain⟨v,hv,h⟩:=h
   rw [Vp] at h
   obtain⟨vs,C4,h⟩:=h
   rw [Vp] at h
   obtain⟨u,hu,h⟩:=h
   simp only [hv,C4,hu,Vq]
   exact dT _ h rfl (by simp [bf,ho]) (by simp [bf,ho])
  ·cases h
 ·
  rename_i fx args Ad ho
  have hf:(bf aE e o).wh=true∧(bf aE e o).wb=none:=by simp [bf,ho]
  try simp only
  cases hx:e fx<;>rw [hx] at h<;>simp only at h ⊢<;>try (cases h; done)
  rename_i y4 cap
  split at h
  ·rename_i ha
   rw [if_pos ha]
   exact wU _ (fun y:AV × AHeap=>y.1) (fun y=>y.2) h (by simp only [hh hf.1]) hf.2 hf.1
  ·cases h
 ·cases h
end
end Go.R
namespace Go.R
open Go
def SteadyF (cf:CallF):Prop:=∀f args h r h',cf f args h=some (r,h')→Steady h h'
section
variable {P:Program}{cf:CallF}{aE ds:List Nat}{o:Oper}{s s':RS}
theorem sb {h h':AHeap}{t t2:TypeId}{x y z:AV}(hh:dE P h t t2 x y=some (z,h')):Steady h h':=by
 unfold dE at hh
 rw [Vp] at hh
 obtain⟨d,_,hh⟩:=hh
 cases d<;>simp only at hh<;>try (cases hh; done)
 rw [Vp] at hh
 obtain⟨i,_,hh⟩:=hh
 rw [Vp] at hh
 obtain⟨⟨new,m⟩,_,hh⟩:=hh
 simp only at hh
 split at hh
 ·cases hh
 split at hh
 ·split at hh
  ·cases hh
  ·split at hh<;>cases hh
   ·exact Steady.refl _
   ·exact Steady.put _ _ _
 ·split at hh
  ·cases hh
  ·split at hh
   ·split at hh<;>cases hh<;>exact Steady.refl _
   ·cases hh; exact Steady.put _ _ _
 ·split at hh
  ·split at hh
   ·cases hh
   ·split at hh<;>cases hh
    ·exact Steady.refl _
    ·exact Steady.put _ _ _
  rw [Vp] at hh
  obtain⟨ob,_,hh⟩:=hh
  cases ob with
  | map es=>cases hh
  | row t cs=>cases hh
  | cells cs=>
   simp only at hh
   split at hh
   ·cases hh
   ·split at hh<;>cases hh
    ·exact Steady.refl _
    ·exact (Steady.kill _ _).trans (Steady.put _ _ _)
 ·cases hh
theorem u9 {h h':AHeap}{t t2:TypeId}{x y z:AV}(hh:p7 P h t t2 x y=some (z,h')):Steady h h':=by
 unfold p7 at hh
 rw [Vp] at hh
 obtain⟨d,_,hh⟩:=hh
 cases d<;>simp only at hh<;>try (cases hh; done)
 rw [Vp] at hh
 obtain⟨i,_,hh⟩:=hh
 rw [Vp] at hh
 obtain⟨⟨new,m⟩,_,hh⟩:=hh
 simp only at hh
 split at hh
 ·cases hh
 split at hh
 ·split at hh
  ·split at hh<;>cases hh
   exact Steady.refl _
  rw [Vp] at hh
  obtain⟨ob,_,hh⟩:=hh
  cases ob with
  | map es=>cases hh
  | row t cs=>cases hh
  | cells cs=>
   simp only at hh
   split at hh<;>cases hh
   exact Steady.put _ _ _
 ·split at hh<;>cases hh
  exact Steady.refl _
 ·cases hh
theorem tv {h h':AHeap}{t:TypeId}{x:AV}(hh:lj P h t x=some h'):Steady h h':=by
 unfold lj at hh
 rw [Vp] at hh
 obtain⟨d,_,hh⟩:=hh
 cases x<;>simp only at hh<;>try (cases hh; done)
 ·split at hh
  ·cases hh; exact Steady.refl _
  split at hh
  ·cases hh
  cases d<;>simp only at hh<;>try (cases hh; done)
  simp only [Vp] at hh
  obtain⟨i,_,z,_,ob,_,hh⟩:=hh
  cases ob with
  | map es=>cases hh
  | row t cs=>cases hh
  | cells cs=>
   simp only at hh
   split at hh
   ·cases hh; exact Steady.put _ _ _
   ·cases hh
 ·cases hh; exact Steady.refl _
 ·rw [Vp] at hh
  obtain⟨ob,_,hh⟩:=hh
  cases ob with
  | cells cs=>cases hh
  | row t cs=>cases hh
  | map es=>cases hh; exact Steady.put _ _ _
theorem wV {aE:List Nat}{d:Option Nat}{x y:AV × AHeap}(hz:uL aE d x=some y):Steady x.2 y.2:=by
 unfold uL at hz
 cases hm:Ks aE d with
 | true=>rw [hm,cond_true] at hz; exact mr hz
 | false=>rw [hm,cond_false] at hz; cases hz; exact Steady.refl _
theorem mz {h h':AHeap}{t:TypeId}{x y z:AV}(hh:iC P h t x y z=some h'):Steady h h':=by
 unfold iC at hh
 rw [Vp] at hh
 obtain⟨d,_,hh⟩:=hh
 cases d<;>simp only at hh<;>try (cases hh; done)
 split at hh
 ·cases hh
 cases x<;>simp only at hh<;>try (cases hh; done)
 rw [Vp] at hh
 obtain⟨ob,_,hh⟩:=hh
 cases ob with
 | cells cs=>cases hh
 | row t cs=>cases hh
 | map es=>
  obtain⟨p6,_,rfl⟩:=Option.map_some' hh
  exact Steady.put _ _ _
theorem oB {h h':AHeap}{t:TypeId}{x y z:AV}(hh:gE P h t x y=some (z,h')):Steady h h':=by
 unfold gE at hh
 split at hh
 ·rw [Vp] at hh
  obtain⟨d,_,hh⟩:=hh
  cases d<;>simp only at hh<;>try (cases hh; done)
  rw [Vp] at hh
  obtain⟨i,_,hh⟩:=hh
  rw [Vp] at hh
  obtain⟨z,_,hh⟩:=hh
  split at hh<;>cases hh
  exact Steady.put _ _ _
 ·cases hh
theorem nA {cs:List AV}(h:ic s aE ds o cs=some s'):Steady s.h s'.h:=by
 unfold ic at h
 split at h
 rotate_left
 ·cases h
 split at h
 ·split at h
  ·split at h<;>cases h
   rw [jd]; exact Steady.refl _
  ·cases h
   rw [jd]; exact Steady.put _ _ _
 ·cases h
theorem sc (hcf:SteadyF cf){e:Operand→AV}(h:yM P cf aE ds e s o=some s'):Steady s.h s'.h:=by
 have dT:∀{x:Option AV},(x.map fun x=>s.set o.dst x)=some s'→Steady s.h s'.h:=by
  intro x hx
  obtain⟨z,rfl,rfl⟩:=Option.map_some' hx
  rw [jd]; exact Steady.refl _
 unfold yM at h
 dsimp only at h
 split at h
 ·cases h; rw [jd]; exact Steady.refl _
 ·cases h; rw [jd]; exact Steady.refl _
 ·obtain⟨z,_,rfl⟩:=Option.map_some' h; rw [jd]; exact Steady.refl _
 ·rw [Vp] at h
  obtain⟨z,_,h⟩:=h
  exact nA h
 ·exact nA h
 ·exact dT h
 ·obtain⟨z,hz,rfl⟩:=Option.map_some' h
  unfold px
  split
  ·rw [jd]; exact Steady.refl _
  ·rw [jd]; exact Steady.put _ _ _
 ·exact dT h
 ·split at h
  ·cases h
  split at h
  ·rw [Vp] at h
   obtain⟨cs,_,h⟩:=h
   obtain⟨z,_,rfl⟩:=Option.map_some' h
   exact Steady.refl _
  ·rw [Vp] at h
   obtain⟨ob,_,h⟩:=h
   cases ob with
   | map es=>cases h
   | row t cs=>cases h
   | cells cs=>
    obtain⟨z,_,rfl⟩:=Option.map_some' h
    exact Steady.put _ _ _
  ·cases h
 ·exact dT h
 ·exact dT h
 ·exact dT h
 ·exact dT h
 ·split at h
  ·exact dT h
  ·cases h
 ·cases h; rw [jd]; exact Steady.put _ _ _
 ·obtain⟨⟨z,h'⟩,hz,rfl⟩:=Option.map_some' h
  rw [jd]; exact oB hz
 ·exact dT h
 ·exact dT h
 ·exact dT h
 ·exact dT h
 ·exact dT h
 ·exact dT h
 ·split at h
  ·cases h
  obtain⟨h',hz,rfl⟩:=Option.map_some' h
  exact mz hz
 ·split at h
  ·cases h
  obtain⟨h',hz,rfl⟩:=Option.map_some' h
  exact mz hz
 ·exact dT h
 ·unfold fP at h
  split at h
  ·exact dT h
  ·obtain⟨⟨z,h'⟩,hz,rfl⟩:=Option.map_some' h
   rw [jd]; exact sb hz
  ·obtain⟨⟨z,h'⟩,hz,rfl⟩:=Option.map_some' h
   rw [jd]; exact u9 hz
  ·obtain⟨h',hz,rfl⟩:=Option.map_some' h
   rw [jd]; exact tv hz
  ·rw [Vp] at h
   obtain⟨v,_,h⟩:=h
   rw [Vp] at h
   obtain⟨vs,_,h⟩:=h
   rw [Vp] at h
   obtain⟨u,_,h⟩:=h
   exact dT h
  ·rw [Vp] at h
   obtain⟨v,_,h⟩:=h
   rw [Vp] at h
   obtain⟨vs,_,h⟩:=h
   rw [Vp] at h
   obtain⟨u,_,h⟩:=h
   exact dT h
  ·cases h
 ·split at h
  ·split at h
   ·obtain⟨⟨z,h'⟩,hz,rfl⟩:=Option.map_some' h
    rw [Vp] at hz
    obtain⟨⟨z0,h0⟩,hz,hm⟩:=hz
    rw [jd]; exact (hcf _ _ _ _ _ hz).trans (wV hm)
   ·cases h
  ·cases h
 ·cases h
theorem oC (hcf:SteadyF cf){ops:List Oper}(h:mi P cf aE ops s o=some s'):Steady s.h s'.h:=by
 unfold mi at h
 rw [Vp] at h
 obtain⟨w,_,h⟩:=h
 cases w with
 | true=>exact sc hcf (by simpa [uM] using h)
 | false=>
  simp only [VB,if_false,Vt] at h
  subst h
  rw [jd]; exact Steady.refl _
theorem qn (hcf:SteadyF cf){ops:List Oper}:∀{l:List Oper} {s s':RS},qD P cf aE ops s l=some s'→Steady s.h s'.h
 | [],s,s',h=>by simp only [qD,Vt] at h; subst h; exact Steady.refl _
 | o::l,s,s',h=>by
  simp only [qD,Vp] at h
  obtain⟨s1,h1,h2⟩:=h
  exact (oC hcf h1).trans (qn hcf h2)
theorem qo (hcf:SteadyF cf){ops:List Oper}:∀{l:List Oper} {s r:RS} {es:List lW},oo P cf aE ops s l=some (es,r)→Steady s.h r.h
 | [],s,r,es,h=>by simp only [oo,Vt,Vz] at h; rw [h.2]; exact Steady.refl _
 | o::l,s,r,es,h=>by
  simp only [oo,Vp,Vr] at h
  obtain⟨w,hw,s1,h1,⟨p6,r'⟩,h2,h3⟩:=h
  simp only [Vz] at h3
  obtain⟨_,rfl⟩:=h3
  have h4:mi P cf aE ops s o=some s1:=by unfold mi; rw [hw]; exact h1
  exact (oC hcf h4).trans (qo hcf h2)
theorem tw (hcf:SteadyF cf){ops:Array Oper}(h:jH P cf aE ops s=some s'):Steady s.h s'.h:=by
 unfold jH at h
 dsimp only at h
 split at h
 rotate_left
 ·cases h
 rw [Vp] at h
 obtain⟨⟨es,r⟩,yW,h⟩:=h
 simp only at h
 split at h
 ·cases h; exact qo hcf yW
 ·cases h
theorem fX (hcf:SteadyF cf){A:b5}{m:Nat}:∀(c:Code) (st js:St) (e:Ex),bJ P cf A m c st=some (e,js)→Steady st.h js.h
 | .skip,st,js,e,h=>by simp only [bJ,Vt,Vz] at h; rw [h.2]; exact Steady.refl _
 | .label _,st,js,e,h=>by simp only [bJ,Vt,Vz] at h; rw [h.2]; exact Steady.refl _
 | .ret,st,js,e,h=>by simp only [bJ,Vt,Vz] at h; rw [h.2]; exact Steady.refl _
 | .exit _,st,js,e,h=>by simp only [bJ,Vt,Vz] at h; rw [h.2]; exact Steady.refl _
 | .seq x y,st,js,e,h=>by
  simp only [bJ,Vp] at h
  obtain⟨⟨e1,s1⟩,h1,h2⟩:=h
  have:=fX hcf x st s1 e1 h1
  cases e1 with
  | norm=>exact this.trans (fX hcf y s1 js e h2)
  | exit id=>simp only [Vt,Vz] at h2; rw [←h2.2]; exact this
  | ret=>simp only [Vt,Vz] at h2; rw [←h2.2]; exact this
 | .cond k x y,st,js,e,h=>by
  simp only [bJ,Vp] at h
  obtain⟨t,_,h⟩:=h
  cases t with
  | true=>exact fX hcf x st js e (by simpa using h)
  | false=>exact fX hcf y st js e (by simpa using h)
 | .block id x,st,js,e,h=>by
  simp only [bJ,Vr] at h
  obtain⟨⟨e1,s1⟩,h1,h2⟩:=h
  have:=fX hcf x st s1 e1 h1
  cases e1<;>(simp only [Vz] at h2; rw [←h2.2]; exact this)
 | .loop x,st,js,e,h=>by
  simp only [bJ] at h
  have key:∀(j:Nat) (st:St),kI (bJ P cf A m x) j st=some (e,js)→Steady st.h js.h:=by
   intro j
   induction j with
   | zero=>intro st h; simp [kI] at h
   | succ j ih=>
    intro st h
    simp only [kI,Vp] at h
    obtain⟨⟨e1,s1⟩,h1,h2⟩:=h
    have:=fX hcf x st s1 e1 h1
    cases e1 with
    | norm=>exact this.trans (ih s1 h2)
    | exit id=>simp only [Vt,Vz] at h2; rw [←h2.2]; exact this
    | ret=>simp only [Vt,Vz] at h2; rw [←h2.2]; exact this
  exact key m st h
 | .region id ops draw,st,js,e,h=>by
  simp only [bJ,Vp,Vr,Vz] at h
  obtain⟨s0,h0,s',h1,s2,h2,_,rfl⟩:=h
  rw [Gu]
  refine ((mu h0).trans ?_).trans (mu h2)
  cases draw with
  | true=>exact tw (s:=s0) hcf (by simpa using h1)
  | false=>exact qn (s:=s0) hcf (by simpa using h1)
 | .rangeFunc ..,st,js,e,h=>by simp [bJ] at h
 | .scope ..,st,js,e,h=>by simp [bJ] at h
 | .goto ..,st,js,e,h=>by simp [bJ] at h
 | .refuse ..,st,js,e,h=>by simp [bJ] at h
theorem va (hcf:SteadyF cf){aX:FuncId→b5}{m:Nat}:SteadyF (a6 P aX cf m):=by
 intro f args h r h' hc
 unfold a6 at hc
 rw [Vp] at hc
 obtain⟨fn,hf,hc⟩:=hc
 rw [Vp] at hc
 obtain⟨c,hb,hc⟩:=hc
 split at hc
 rotate_left
 ·cases hc
 rw [Vp] at hc
 obtain⟨⟨e,st⟩,hex,hc⟩:=hc
 have:=fX hcf c _ _ _ hex
 cases e with
 | norm=>obtain⟨r',_,h2⟩:=Option.map_some' hc; cases h2; exact this
 | ret=>obtain⟨r',_,h2⟩:=Option.map_some' hc; cases h2; exact this
 | exit id=>cases hc
end
end Go.R
namespace Go.R
open Go
section
variable {P:Program}{cf:CallF}{aE ds:List Nat}{o:Oper}{s s':RS}
theorem B7 {e e':Operand→AV}(h:∀x∈o.op.operands,e x=e' x):yM P cf aE ds e s o=yM P cf aE ds e' s o:=by
 have KR:∀(l:List Operand),(∀x∈l,e x=e' x)→l.map e=l.map e':=fun l hl=>WY hl
 have Iw:∀(q:Option Operand),(∀x,q=some x→e x=e' x)→q.map e=q.map e':=by
  intro q hq; cases q with
  | none=>rfl
  | some x=>simp [hq x rfl]
 unfold yM
 cases Ag:o.op<;>rw [Ag] at h
 case build t ps=>
  have:(ps.toList.map fun (i,x)=>(i,e x))=(ps.toList.map fun (i,x)=>(i,e' x)):=
   WY fun p hp=>by
    have:=h p.2 (by simp only [Op.operands,List.mem_toArray,V8]; exact⟨p,hp,rfl⟩)
    simp [this]
  simp only [this]
 case buildSlice t n ps=>
  have:(ps.toList.map fun (i,x)=>(i,e x))=(ps.toList.map fun (i,x)=>(i,e' x)):=
   WY fun p hp=>by
    have:=h p.2 (by simp only [Op.operands,List.mem_toArray,V8]; exact⟨p,hp,rfl⟩)
    simp [this]
  simp only [this]
 case makeFunc f first cap=>
  have:cap.toList.map e=cap.toList.map e':=KR _ fun x hx=>h x (by simp only [Op.operands,Array.mem_append]; right; exact Wj.1 hx)
  cases f<;>first | rfl | simp only [this]
 case makeMap t r=>cases r<;>rfl
 case slice t x lo hi mx=>
  have h1:e x=e' x:=h x (by simp [Op.operands])
  have h2:=Iw lo fun y hy=>h y (by simp [Op.operands,hy])
  have h3:=Iw hi fun y hy=>h y (by simp [Op.operands,hy])
  have h4:=Iw mx fun y hy=>h y (by simp [Op.operands,hy])
  simp only [h1,h2,h3,h4]
 case call c=>
  obtain⟨callee,args,Ad⟩:=c
  have h1:args.toList.map e=args.toList.map e':=KR _ fun x hx=>h x (by
   simp only [Op.operands,Call.operands]
   cases callee<;>simp<;>first | exact Wj.1 hx | (right; exact Wj.1 hx) | (left; exact Wj.1 hx))
  cases callee with
  | builtin b=>simp only [h1]
  | value f=>
   have h2:e f=e' f:=h f (by simp [Op.operands,Call.operands])
   simp only [h1,h2]
  | invoke r nm=>rfl
 all_goals first
  | rfl
  | (simp [Op.operands] at h; simp [h])
end
theorem oD (acc:List Nat)(i:Nat):∀(l:List Edge) (m:Nat),(l.foldl (fun m e=>bif Region.binds .any e then m ||| (2 ^ e.on ||| acc.getD e.on 0) else m) m).testBit i=true→
  m.testBit i=true∨∃e∈l,Region.binds .any e=true∧(e.on=i∨(acc.getD e.on 0).testBit i=true)
 | [],m,h=>.inl h
 | e::l,m,h=>by
  rcases oD acc i l _ h with h1 | ⟨e',he,h1⟩
  ·dsimp only at h1
   cases hb:Region.binds .any e with
   | false=>rw [hb] at h1; exact .inl h1
   | true=>
    rw [hb] at h1
    simp only [cond_true,Nat.testBit_or,Wb,Nat.testBit_two_pow,decide_eq_true_eq] at h1
    rcases h1 with h1 | h1 | h1
    ·exact .inl h1
    ·exact .inr ⟨e,by simp,hb,.inl h1⟩
    ·exact .inr ⟨e,by simp,hb,.inr h1⟩
  ·exact .inr ⟨e',by simp [he],h1⟩
theorem qp:∀(l:List Oper) (acc:List Nat),(∀j,j<acc.length→(jl acc l).getD j 0=acc.getD j 0)∧
  ∀j i,((jl acc l).getD j 0).testBit i=true→acc.length≤j→∃o,l[j - acc.length]? = some o∧∃e∈o.after.toList,Region.binds .any e=true∧(e.on=i∨((jl acc l).getD e.on 0).testBit i=true)
 | [],acc=>⟨fun j hj=>rfl,fun j i h hj=>by simp [jl,List.getD,V1 hj] at h⟩
 | o::l,acc=>by
  simp only [jl]
  generalize hm:(o.after.toList.foldl (fun m e=>bif Region.binds .any e then m ||| (2 ^ e.on ||| acc.getD e.on 0) else m) 0)=m
  obtain⟨h1,h2⟩:=qp l (acc++[m])
  have hold:∀j,j<acc.length→(jl (acc++[m]) l).getD j 0=acc.getD j 0:=fun j hj=>by
   rw [h1 j (by simp; omega)]
   simp [List.getD,VG hj]
  refine⟨hold,fun j i h hj=>?_⟩
  by_cases SG:j=acc.length
  ·subst SG
   have:(jl (acc++[m]) l).getD acc.length 0=m:=by
    rw [h1 _ (by simp)]; simp [List.getD]
   rw [this,←hm] at h
   rcases oD acc i _ _ h with h3 | ⟨e,he,hb,h3⟩
   ·simp at h3
   ·refine⟨o,by simp,e,he,hb,h3.imp id fun h4=>?_⟩
    by_cases hl:e.on<acc.length
    ·rw [hold _ hl]; exact h4
    ·simp [List.getD,V1 (Nat.not_lt.1 hl)] at h4
  ·obtain⟨o',J6,h3⟩:=h2 j i h (by simp; omega)
   refine⟨o',?_,h3⟩
   rw [show j - acc.length=(j - (acc++[m]).length)+1 by simp; omega]
   simpa using J6
theorem kp {α:Type}(p:Nat→α→Nat→α→Bool):∀(l:List α) (k:Nat),om p k l=true→∀i j x y,i<j→l[i]? = some x→l[j]? = some y→p (k+i) x (k+j) y=true
 | [],k,_,i,j,x,y,_,hx,_=>by simp at hx
 | a::l,k,h,i,j,x,y,yy,hx,hy=>by
  simp only [om,Vu,VK] at h
  obtain⟨h1,h2⟩:=h
  cases j with
  | zero=>omega
  | succ j=>
   cases i with
   | zero=>
    simp only [V9,Vt] at hx
    subst hx
    have:=h1 (y,k+1+j) (by rw [List.mk_add_mem_zipIdx_iff_getElem?]; simpa using hy)
    simpa [Wm,WT 1 j] using this
   | succ i=>
    have:=kp p l (k+1) h2 i j x y (by omega) (by simpa using hx) (by simpa using hy)
    rw [show k+(i+1)=k+1+i by omega,show k+(j+1)=k+1+j by omega]
    exact this
theorem oE:∀(l:List Oper) (k:Nat),ri k l=true→∀i o,l[i]? = some o→∀e∈o.after.toList,Region.binds .any e=true→e.on<k+i
 | [],k,_,i,o,h,_,_,_=>by simp at h
 | a::l,k,h,i,o,ho,e,he,hb=>by
  simp only [ri,Vu,VK] at h
  obtain⟨h1,h2⟩:=h
  cases i with
  | zero=>
   simp only [V9,Vt] at ho
   subst ho
   have:=h1 e he
   simp only [hb,Wn,Bool.false_or] at this
   exact Nat.blt_eq.mp this
  | succ i=>
   have:=oE l (k+1) h2 i o (by simpa using ho) e he hb
   omega
theorem oF {V:Type}{n i:Nat}(hi:i≤n){W:Nat→Prop}{S:Nat→Bool}{m x:Nat→V}(h0:m 0=x 0)(KS:∀k,k<n→W k→S k=true→m (k+1)=x (k+1))(qd:∀k,k<n→(¬W k∨S k=false)→m (k+1)=m k)
  (hx:∀k,k<n→¬W k→x (k+1)=x k) (hS:∀k,k<n→W k→(S k=true↔k<i)):m n=x i:=by
 have key:∀k,k≤n→m k=x (min k i):=by
  intro k
  induction k with
  | zero=>intro _; simpa using h0
  | succ k ih=>
   intro hk
   have ih:=ih (by omega)
   by_cases hw:W k
   ·have hs:=hS k (by omega) hw
    by_cases wW:k<i
    ·rw [KS k (by omega) hw (hs.2 wW),WL (by omega)]
    ·have:S k=false:=by
      cases h:S k with
      | false=>rfl
      | true=>exact absurd (hs.1 h) wW
     rw [qd k (by omega) (.inr this),ih,Nat.min_eq_right (by omega),Nat.min_eq_right (by omega)]
   ·rw [qd k (by omega) (.inl hw),ih]
    by_cases wW:k<i
    ·rw [WL (by omega),WL (by omega),hx k (by omega) hw]
    ·rw [Nat.min_eq_right (by omega),Nat.min_eq_right (by omega)]
 rw [key n (Vv n),Nat.min_eq_right hi]
open Classical in
theorem vb {V:Type}{n i:Nat}(hi:i<n){W:Nat→Prop}{S S':Nat→Bool}{m m' x:Nat→V}(h0:m' 0=m 0)(KS:∀k,k<n→W k→S k=true→m (k+1)=x (k+1))(qd:∀k,k<n→(¬W k∨S k=false)→m (k+1)=m k)
  (Qp:∀k,k<n→W k→S' k=true→m' (k+1)=x (k+1)) (Ix:∀k,k<n→(¬W k∨S' k=false)→m' (k+1)=m' k)
  (B8:∀k,S' k=if k=i then true else S k) (KT:S i=false) (hl:W i→∀j,j<n→i<j→W j→S j=false):m' n=if W i then x (i+1) else m n:=by
 have key:∀k,k≤n→m' k=if i<k∧W i then x (i+1) else m k:=by
  intro k
  induction k with
  | zero=>intro _; simpa using h0
  | succ k ih=>
   intro hk
   have ih:=ih (by omega)
   by_cases wW:k=i
   ·subst wW
    by_cases hw:W k
    ·rw [Qp k (by omega) hw (by rw [B8]; simp),if_pos ⟨by omega,hw⟩]
    ·rw [Ix k (by omega) (.inl hw),ih,if_neg (fun h=>hw h.2),if_neg (fun h=>hw h.2),qd k (by omega) (.inl hw)]
   ·have hs:S' k=S k:=by rw [B8,if_neg wW]
    by_cases hw:W k
    ·cases sa:S k with
     | true=>
      rw [Qp k (by omega) hw (hs.trans sa)]
      by_cases C7:i<k+1∧W i
      ·have:=hl C7.2 k (by omega) (by omega) hw
       rw [sa] at this; cases this
      ·rw [if_neg C7,KS k (by omega) hw sa]
     | false=>
      rw [Ix k (by omega) (.inr (hs.trans sa)),ih,qd k (by omega) (.inr sa)]
      by_cases C7:i<k∧W i
      ·rw [if_pos C7,if_pos ⟨by omega,C7.2⟩]
      ·rw [if_neg C7,if_neg (fun h=>C7 ⟨by omega,h.2⟩)]
    ·rw [Ix k (by omega) (.inl hw),ih,qd k (by omega) (.inl hw)]
     by_cases C7:i<k∧W i
     ·rw [if_pos C7,if_pos ⟨by omega,C7.2⟩]
     ·rw [if_neg C7,if_neg (fun h=>C7 ⟨by omega,h.2⟩)]
 rw [key n (Vv n)]
 by_cases hw:W i
 ·rw [if_pos ⟨hi,hw⟩,if_pos hw]
 ·rw [if_neg (fun h=>hw h.2),if_neg hw]
structure sd (P:Program)(cf:CallF)(aE:List Nat)(ops:Array Oper)(tx:Nat→RS)(ft:Nat→kG)(ord:Nat→Nat→Prop):Prop where
 op:∀k o,ops[k]? = some o→∃w,gP ops.toList (tx k).ρ o=some w∧(if w then uM P cf aE (ops.toList.filterMap (·.dst)) (tx k) o=some (tx (k+1))∧ft k=bf aE (bL (tx k).ρ) o else tx (k+1)=(tx k).set o.dst (.tup [])∧ft k={})
 Iy:∀k i,ord k i→∃o,ops[i]? = some o∧∃e∈o.after,Region.binds .any e=true∧(e.on=k∨ord k e.on)
 back:∀i o,ops[i]? = some o→∀e∈o.after,Region.binds .any e=true→e.on<i
 HG:∀i j x y,i≠j→ops[i]? = some x→ops[j]? = some y→ord i j∨ord j i∨∀d,x.dst=some d→d∉y.looksAt ops∧y.dst≠some d
 boxes:∀i j,i<ops.size→j<ops.size→i≠j→ord i j∨ord j i∨(∀k,(ft i).wb=some k→k∉(ft j).rb∧(ft j).wb≠some k)∧((ft i).wh=true→(ft j).wh=false∧∀id∈(ft j).rh,(tx i).h.get id=(tx (i+1)).h.get id)
 Ny:∀i o d,ops[i]? = some o→(ft i).al=true→o.dst=some d→(∀t∈ops.toList.filterMap (·.dst),t≠d→∀off,(tx 0).ρ t≠.lp d off)∧∀j y t,ops[j]? = some y→j≠i→ord i j∨(y.dst=some t→∀off,(tx (j+1)).ρ t≠.lp d off)
section
variable {P:Program}{cf:CallF}{aE:List Nat}{ops:Array Oper}{tx:Nat→RS}{ft:Nat→kG}{ord:Nat→Nat→Prop}
def je (ops:Array Oper)(k:Nat):Option Nat:=(ops[k]?).bind (·.dst)
def jZ (ops:Array Oper)(tx:Nat→RS)(ft:Nat→kG)(S:Nat→Bool):Nat→RS
 | 0=>tx 0
 | k+1=>if S k then (jZ ops tx ft S k).shift (ft k) (je ops k) (tx (k+1)) else jZ ops tx ft S k
theorem sd.shift (T:sd P cf aE ops tx ft ord){k:Nat}(hk:k<ops.size):tx (k+1)=(tx k).shift (ft k) (je ops k) (tx (k+1)):=by
 have ho:ops[k]? = some ops[k]:=by simp [hk]
 obtain⟨w,hw,h⟩:=T.op k _ ho
 have hd:je ops k=ops[k].dst:=by simp [je,hk]
 rw [hd]
 cases w with
 | true=>
  simp only [if_true] at h
  obtain⟨h1,h2⟩:=h
  have:=tX (s2:=tx k) (e:=bL (tx k).ρ) h1 (fun _ _=>rfl) (fun _ _=>rfl) (fun _=>rfl) (fun oa d yv=>by
   unfold uM yM at h1
   dsimp only at h1
   have HH:∀(cs:List AV) (s s':RS),ic s aE (ops.toList.filterMap (·.dst)) ops[k] cs=some s'→aE.contains d=true→rL d s.ρ ((ops.toList.filterMap (·.dst)).filter fun t=>!Nat.beq t d)=true:=by
    intro cs s s' hb hl
    unfold ic at hb
    simp only [yv,hl,if_true] at hb
    by_cases hn:rL d s.ρ ((ops.toList.filterMap (·.dst)).filter fun t=>!Nat.beq t d)=true
    ·exact hn
    ·simp [hn] at hb
   unfold bf at oa
   split at oa
   ·rename_i t Ag
    rw [yv] at oa
    simp only at oa
    split at oa
    ·rename_i hl
     rw [Ag] at h1
     simp only [Vp] at h1
     obtain⟨z,_,h1⟩:=h1
     exact HH _ _ _ h1 hl
    ·cases oa
   ·rename_i t x Ag
    rw [yv] at oa
    simp only at oa
    split at oa
    ·rename_i hl
     rw [Ag] at h1
     exact HH _ _ _ h1 hl
    ·cases oa
   all_goals first
    | (split at oa<;>cases oa)
    | (split at oa<;>first | cases oa | (split at oa<;>cases oa))
    | cases oa)
  unfold uM at h1
  rw [h1] at this
  rw [h2]
  exact Wc this
 | false=>
  simp only [VB,if_false] at h
  rw [h.1,h.2]
  exact iq (tx k) (tx k) {} _ _ rfl rfl
theorem rm (s2:RS)(f:kG)(d:Option Nat)(s':RS)(t:Nat):(s2.shift f d s').ρ t=if d=some t then s'.ρ t else s2.ρ t:=by
 cases d with
 | none=>simp [RS.shift]
 | some d=>
  simp only [RS.shift,Vt]
  by_cases h:t=d
  ·subst h; simp
  ·rw [if_neg h,if_neg (Ne.symm h)]
theorem oG (s2:RS)(f:kG)(d:Option Nat)(s':RS)(b:Nat):(s2.shift f d s').bx b=if f.wb=some b then s'.bx b else s2.bx b:=by
 cases hf:f.wb with
 | none=>simp [RS.shift,hf]
 | some k=>
  simp only [RS.shift,hf,Vt]
  by_cases h:b=k
  ·subst h; simp
  ·rw [if_neg h,if_neg (Ne.symm h)]
theorem sd.lt (T:sd P cf aE ops tx ft ord):∀{j k:Nat},ord k j→k<j:=by
 intro j
 induction j using Nat.strongRecOn with
 | _ j ih=>
  intro k h
  obtain⟨o,ho,e,he,hb,h1⟩:=T.Iy k j h
  have h2:=T.back j o ho e he hb
  rcases h1 with h1 | h1
  ·omega
  ·have:=ih e.on h2 h1; omega
def pE (ops:Array Oper)(S:Nat→Bool):Prop:=∀j o,ops[j]? = some o→S j=true→∀e∈o.after,Region.binds .any e=true→S e.on=true
theorem sd.down (T:sd P cf aE ops tx ft ord){S:Nat→Bool}(hc:pE ops S):∀{j k:Nat},ord k j→S j=true→S k=true:=by
 intro j
 induction j using Nat.strongRecOn with
 | _ j ih=>
  intro k h hs
  obtain⟨o,ho,e,he,hb,h1⟩:=T.Iy k j h
  have h2:=T.back j o ho e he hb
  have h3:=hc j o ho hs e he hb
  rcases h1 with h1 | h1
  ·rw [←h1]; exact h3
  ·exact ih e.on h2 h1 h3
variable {S:Nat→Bool}{i:Nat}{oi:Oper}
theorem sd.before (T:sd P cf aE ops tx ft ord)(hc:pE ops S)(ho:ops[i]? = some oi)(hr:∀e∈oi.after,Region.binds .any e=true→S e.on=true){k:Nat}(h:ord k i):S k=true:=by
 obtain⟨o,J6,e,he,hb,h1⟩:=T.Iy k i h
 rw [ho] at J6
 cases J6
 rcases h1 with h1 | h1
 ·rw [←h1]; exact hr e he hb
 ·exact T.down hc h1 (hr e he hb)
theorem sd.iff (T:sd P cf aE ops tx ft ord)(hc:pE ops S)(ho:ops[i]? = some oi)(hr:∀e∈oi.after,Region.binds .any e=true→S e.on=true)(hi:S i=false){k:Nat}(h:ord i k∨ord k i):S k=true↔k<i:=by
 rcases h with h | h
 ·have:=T.lt h
  refine⟨fun hk=>?_,fun _=>by omega⟩
  have:=T.down hc h hk
  rw [hi] at this; cases this
 ·exact⟨fun _=>T.lt h,fun _=>T.before hc ho hr h⟩
theorem vc (t:Nat)(k:Nat)(hd:je ops k=some t)(hs:S k=true):(jZ ops tx ft S (k+1)).ρ t=(tx (k+1)).ρ t:=by
 simp only [jZ,hs,if_true,rm,hd]
theorem vd (t:Nat)(k:Nat)(h:¬je ops k=some t∨S k=false):(jZ ops tx ft S (k+1)).ρ t=(jZ ops tx ft S k).ρ t:=by
 simp only [jZ]
 split
 ·rename_i hs
  rcases h with h | h
  ·rw [rm,if_neg h]
  ·rw [h] at hs; cases hs
 ·rfl
theorem ve (b:Nat)(k:Nat)(hd:(ft k).wb=some b)(hs:S k=true):(jZ ops tx ft S (k+1)).bx b=(tx (k+1)).bx b:=by
 simp only [jZ,hs,if_true,oG,hd]
theorem vf (b:Nat)(k:Nat)(h:¬(ft k).wb=some b∨S k=false):(jZ ops tx ft S (k+1)).bx b=(jZ ops tx ft S k).bx b:=by
 simp only [jZ]
 split
 ·rename_i hs
  rcases h with h | h
  ·rw [oG,if_neg h]
  ·rw [h] at hs; cases hs
 ·rfl
theorem vg (k:Nat)(hd:(ft k).wh=true)(hs:S k=true):(jZ ops tx ft S (k+1)).h=(tx (k+1)).h:=by
 simp only [jZ,hs,if_true,RS.shift,hd]
theorem vh (k:Nat)(h:¬(ft k).wh=true∨S k=false):(jZ ops tx ft S (k+1)).h=(jZ ops tx ft S k).h:=by
 simp only [jZ]
 split
 ·rename_i hs
  rcases h with h | h
  ·simp only [RS.shift]; rw [if_neg h]
  ·rw [h] at hs; cases hs
 ·rfl
theorem sd.Nz (T:sd P cf aE ops tx ft ord)(t:Nat)(k:Nat)(hk:k<ops.size)(h:¬je ops k=some t):(tx (k+1)).ρ t=(tx k).ρ t:=by
 rw [T.shift hk,rm,if_neg h]
theorem sd.KU (T:sd P cf aE ops tx ft ord)(b:Nat)(k:Nat)(hk:k<ops.size)(h:¬(ft k).wb=some b):(tx (k+1)).bx b=(tx k).bx b:=by
 rw [T.shift hk,oG,if_neg h]
theorem sd.Iz (T:sd P cf aE ops tx ft ord)(k:Nat)(hk:k<ops.size)(h:¬(ft k).wh=true):(tx (k+1)).h=(tx k).h:=by
 rw [T.shift hk]; simp only [RS.shift]; rw [if_neg h]
theorem sd.reads (T:sd P cf aE ops tx ft ord)(hc:pE ops S)(ho:ops[i]? = some oi)(hr:∀e∈oi.after,Region.binds .any e=true→S e.on=true)(hi:S i=false) :
  (∀t∈oi.looksAt ops,(jZ ops tx ft S ops.size).ρ t=(tx i).ρ t)∧(∀b∈(ft i).rb,(jZ ops tx ft S ops.size).bx b=(tx i).bx b)∧
  (∀id∈(ft i).rh,(jZ ops tx ft S ops.size).h.get id=(tx i).h.get id)∧((ft i).wh=true→(jZ ops tx ft S ops.size).h=(tx i).h):=by
 have hin:i<ops.size:=(VZ.1 ho).1
 have BW:∀k,k<ops.size→ops[k]? = some ops[k]!:=fun k hk=>by simp [hk]
 have DH:∀k,k=i→(S k=true↔k<i):=by
  rintro k rfl
  rw [hi]; simp
 refine⟨fun t ht=>?_,fun b hb=>?_,fun id hid=>?_,fun hw=>?_⟩
 ·refine oF (W:=fun k=>je ops k=some t) (m:=fun k=>(jZ ops tx ft S k).ρ t) (x:=fun k=>(tx k).ρ t) (S:=S) (Nat.le_of_lt hin) rfl (fun k _ h hs=>vc t k h hs) (fun k _ h=>vd t k h) (fun k hk h=>T.Nz t k hk h) (fun k hk h=>?_)
  by_cases wW:k=i
  ·exact DH k wW
  ·obtain⟨y,hy,IA⟩:=Vp.1 h
   rcases T.HG k i y oi wW hy ho with h1 | h1 | h1
   ·exact T.iff hc ho hr hi (.inr h1)
   ·exact T.iff hc ho hr hi (.inl h1)
   ·exact absurd ht (h1 t IA).1
 ·refine oF (W:=fun k=>(ft k).wb=some b) (m:=fun k=>(jZ ops tx ft S k).bx b) (x:=fun k=>(tx k).bx b) (S:=S) (Nat.le_of_lt hin) rfl (fun k _ h hs=>ve b k h hs) (fun k _ h=>vf b k h) (fun k hk h=>T.KU b k hk h) (fun k hk h=>?_)
  by_cases wW:k=i
  ·exact DH k wW
  ·rcases T.boxes k i hk hin wW with h1 | h1 | h1
   ·exact T.iff hc ho hr hi (.inr h1)
   ·exact T.iff hc ho hr hi (.inl h1)
   ·exact absurd hb (h1.1 b h).1
 ·
  obtain⟨p,hp,KL⟩:∃p,p≤ops.size∧∀k,k<ops.size→(ft k).wh=true→(S k=true↔k<p):=by
   have key:∀m,m≤ops.size→(∀k,k<m→(ft k).wh=true→S k=true)∨∃p,p<m∧(ft p).wh=true∧S p=false∧∀k,k<p→(ft k).wh=true→S k=true:=by
    intro m
    induction m with
    | zero=>intro _; exact .inl fun k hk=>by omega
    | succ m ih=>
     intro hm
     rcases ih (by omega) with h | ⟨p,h1,h2⟩
     ·by_cases hw:(ft m).wh=true∧S m=false
      ·exact .inr ⟨m,by omega,hw.1,hw.2,h⟩
      ·refine .inl fun k hk Qq=>?_
       by_cases SH:k=m
       ·subst SH
        cases hs:S k with
        | true=>rfl
        | false=>exact absurd ⟨Qq,hs⟩ hw
       ·exact h k (by omega) Qq
     ·exact .inr ⟨p,by omega,h2⟩
   rcases key ops.size (Vv _) with h | ⟨p,h1,h2,h3,h4⟩
   ·exact⟨ops.size,Vv _,fun k hk hw=>⟨fun _=>hk,fun _=>h k hk hw⟩⟩
   ·refine⟨p,by omega,fun k hk hw=>⟨fun hs=>?_,fun MA=>h4 k MA hw⟩⟩
    rcases Nat.lt_or_ge k p with h5 | h5
    ·exact h5
    ·by_cases MA:k=p
     ·subst MA; rw [h3] at hs; cases hs
     ·rcases T.boxes p k h1 hk (Ne.symm MA) with h6 | h6 | h6
      ·have:=T.down hc h6 hs; rw [h3] at this; cases this
      ·have:=T.lt h6; omega
      ·have:=(h6.2 h2).1; rw [hw] at this; cases this
  have IB:(jZ ops tx ft S ops.size).h=(tx p).h:=
   oF (W:=fun k=>(ft k).wh=true) (m:=fun k=>(jZ ops tx ft S k).h) (x:=fun k=>(tx k).h) (S:=S) hp rfl (fun k _ h hs=>vg k h hs) (fun k _ h=>vh k h) (fun k hk h=>T.Iz k hk h) KL
  rw [IB]
  have HI:∀k,k<ops.size→(p≤k∧k<i)∨(i≤k∧k<p)→(tx (k+1)).h.get id=(tx k).h.get id:=by
   intro k hk hb
   by_cases hw:(ft k).wh=true
   ·have hs:=KL k hk hw
    have wW:k≠i:=by
     rintro rfl
     rcases hb with hb | hb
     ·omega
     ·have:=hs.2 hb.2; rw [hi] at this; cases this
    rcases T.boxes k i hk hin wW with h1 | h1 | h1
    ·have hlt:=T.lt h1
     have:=hs.1 (T.before hc ho hr h1)
     omega
    ·have hlt:=T.lt h1
     have:=T.down hc h1 (hs.2 (by omega))
     rw [hi] at this; cases this
    ·exact ((h1.2 hw).2 id hid).symm
   ·rw [T.Iz k hk hw]
  have walk:∀a b,a≤b→b≤ops.size→(∀k,a≤k→k<b→(tx (k+1)).h.get id=(tx k).h.get id)→(tx b).h.get id=(tx a).h.get id:=by
   intro a b KV
   induction b with
   | zero=>
     intro _ _; have:a=0:=by omega
     subst this; rfl
   | succ b ih=>
    intro hb hk
    by_cases NA:a=b+1
    ·subst NA; rfl
    ·rw [hk b (by omega) (by omega)]
     exact ih (by omega) (by omega) fun k h1 h2=>hk k h1 (by omega)
  rcases Nat.le_total p i with h | h
  ·exact (walk p i h (Nat.le_of_lt hin) fun k h1 h2=>HI k (by omega) (.inl ⟨h1,h2⟩)).symm
  ·exact walk i p h hp fun k h1 h2=>HI k (by omega) (.inr ⟨h1,h2⟩)
 ·refine oF (W:=fun k=>(ft k).wh=true) (m:=fun k=>(jZ ops tx ft S k).h) (x:=fun k=>(tx k).h) (S:=S) (Nat.le_of_lt hin) rfl (fun k _ h hs=>vg k h hs) (fun k _ h=>vh k h) (fun k hk h=>T.Iz k hk h) (fun k hk h=>?_)
  by_cases wW:k=i
  ·exact DH k wW
  ·rcases T.boxes k i hk hin wW with h1 | h1 | h1
   ·exact T.iff hc ho hr hi (.inr h1)
   ·exact T.iff hc ho hr hi (.inl h1)
   ·have:=(h1.2 h).1; rw [hw] at this; cases this
theorem wX (t:Nat):∀k,(jZ ops tx ft S k).ρ t=(tx 0).ρ t∨∃j,j<k∧S j=true∧je ops j=some t∧(jZ ops tx ft S k).ρ t=(tx (j+1)).ρ t
 | 0=>.inl rfl
 | k+1=>by
  by_cases h:je ops k=some t∧S k=true
  ·exact .inr ⟨k,by omega,h.2,h.1,vc t k h.1 h.2⟩
  ·have h':¬je ops k=some t∨S k=false:=by
    by_cases h1:je ops k=some t
    ·right; cases hs:S k with
     | true=>exact absurd ⟨h1,hs⟩ h
     | false=>rfl
    ·exact .inl h1
   rw [vd t k h']
   rcases wX t k with h1 | ⟨j,h1,h2⟩
   ·exact .inl h1
   ·exact .inr ⟨j,by omega,h2⟩
theorem se {k:Nat}{ρ:Nat→AV}:∀{l:List Nat},(∀t∈l,∀off,ρ t≠.lp k off)→rL k ρ l=true
 | [],_=>rfl
 | t::l,h=>by
  simp only [rL,Vu]
  refine⟨?_,se fun u hu=>h u (by simp [hu])⟩
  have:=h t (by simp)
  split
  ·rename_i j off heq
   simp only [bne_iff_ne,ne_eq]
   rintro rfl
   exact this off heq
  ·rfl
open Classical in
theorem sd.next (T:sd P cf aE ops tx ft ord)(hc:pE ops S)(ho:ops[i]? = some oi)(hr:∀e∈oi.after,Region.binds .any e=true→S e.on=true)(hi:S i=false){S':Nat→Bool}(B8:∀k,S' k=if k=i then true else S k) :
  mi P cf aE ops.toList (jZ ops tx ft S ops.size) oi=some (jZ ops tx ft S' ops.size):=by
 have hin:i<ops.size:=(VZ.1 ho).1
 obtain⟨h1,h2,h3,h4⟩:=T.reads hc ho hr hi
 obtain⟨w,hw,Ag⟩:=T.op i oi ho
 have qF:je ops i=oi.dst:=by simp [je,ho]
 have tY:∀j,i<j→j<ops.size→(ord i j∨ord j i)→S j=false:=by
  intro j yy hj h
  cases hs:S j with
  | false=>rfl
  | true=>have:=(T.iff hc ho hr hi h).1 hs; omega
 have IB:jZ ops tx ft S' ops.size=(jZ ops tx ft S ops.size).shift (ft i) (je ops i) (tx (i+1)):=by
  refine RS.ext' (fun t=>?_) (fun b=>?_) ?_
  ·rw [rm]
   have:=vb (W:=fun k=>je ops k=some t) (m:=fun k=>(jZ ops tx ft S k).ρ t) (m':=fun k=>(jZ ops tx ft S' k).ρ t) (x:=fun k=>(tx k).ρ t) (S:=S) (S':=S') hin rfl
    (fun k _ h hs=>vc t k h hs) (fun k _ h=>vd t k h) (fun k _ h hs=>vc t k h hs) (fun k _ h=>vd t k h) B8 hi (fun J8 j hj yy KW=>by
     obtain⟨y,hy,IA⟩:=Vp.1 KW
     rw [qF] at J8
     rcases T.HG i j oi y (by omega) ho hy with h | h | h
     ·exact tY j yy hj (.inl h)
     ·exact tY j yy hj (.inr h)
     ·exact absurd IA (h t J8).2)
   rw [this]
   by_cases hd:je ops i=some t
   ·rw [if_pos hd,if_pos hd]
   ·rw [if_neg hd,if_neg hd]
  ·rw [oG]
   have:=vb (W:=fun k=>(ft k).wb=some b) (m:=fun k=>(jZ ops tx ft S k).bx b) (m':=fun k=>(jZ ops tx ft S' k).bx b) (x:=fun k=>(tx k).bx b) (S:=S) (S':=S') hin rfl
    (fun k _ h hs=>ve b k h hs) (fun k _ h=>vf b k h) (fun k _ h hs=>ve b k h hs) (fun k _ h=>vf b k h) B8 hi (fun J8 j hj yy KW=>by
     rcases T.boxes i j hin hj (by omega) with h | h | h
     ·exact tY j yy hj (.inl h)
     ·exact tY j yy hj (.inr h)
     ·exact absurd KW (h.1 b J8).2)
   rw [this]
   by_cases hd:(ft i).wb=some b
   ·rw [if_pos hd,if_pos hd]
   ·rw [if_neg hd,if_neg hd]
  ·have:=vb (W:=fun k=>(ft k).wh=true) (m:=fun k=>(jZ ops tx ft S k).h) (m':=fun k=>(jZ ops tx ft S' k).h) (x:=fun k=>(tx k).h) (S:=S) (S':=S') hin rfl
    (fun k _ h hs=>vg k h hs) (fun k _ h=>vh k h) (fun k _ h hs=>vg k h hs) (fun k _ h=>vh k h) B8 hi (fun J8 j hj yy KW=>by
     rcases T.boxes i j hin hj (by omega) with h | h | h
     ·exact tY j yy hj (.inl h)
     ·exact tY j yy hj (.inr h)
     ·have:=(h.2 J8).1; rw [KW] at this; cases this)
   rw [this]
   simp only [RS.shift]
   by_cases hd:(ft i).wh=true
   ·rw [if_pos hd,if_pos hd]
   ·rw [if_neg hd,if_neg hd]
 have KX:∀x∈oi.op.operands,bL (jZ ops tx ft S ops.size).ρ x=bL (tx i).ρ x:=by
  intro x hx
  cases x with
  | tmp t=>
   refine h1 t ?_
   unfold Oper.looksAt
   rw [VX]
   left
   rw [List.mem_filterMap]
   exact⟨.tmp t,Wj.2 hx,rfl⟩
  | _=>rfl
 have KY:gP ops.toList (jZ ops tx ft S ops.size).ρ oi=gP ops.toList (tx i).ρ oi:=by
  unfold gP
  cases hg:oi.guard with
  | none=>rfl
  | some g=>
   obtain⟨g,want⟩:=g
   simp only
   cases hq:(ops.toList[g]?).bind (·.dst) with
   | none=>rfl
   | some d=>
    simp only [Vq]
    rw [h1 d]
    unfold Oper.looksAt
    rw [VX]
    right
    rw [hg]
    simp only
    have:(ops[g]?).bind (·.dst)=some d:=by simpa using hq
    rw [this]
    simp
 unfold mi
 rw [KY,hw]
 simp only [Vq]
 rw [IB,qF]
 cases w with
 | false=>
  simp only [VB,if_false] at Ag ⊢
  rw [Ag.1,Ag.2]
  congr 1
  exact iq (tx i) _ {} _ _ rfl rfl
 | true=>
  simp only [if_true] at Ag ⊢
  obtain⟨Ag,J9⟩:=Ag
  unfold uM at Ag ⊢
  rw [B7 KX,J9]
  rw [J9] at h2 h3 h4
  refine tX Ag h2 h3 h4 (fun oa d yv=>se fun t ht off he=>?_)
  rw [List.mem_filter] at ht
  obtain⟨SI,SJ⟩:=ht
  have HA:t≠d:=by simpa [beq_nat] using SJ
  obtain⟨l1,l2⟩:=T.Ny i oi d ho (by rw [J9]; exact oa) yv
  rcases wX (ops:=ops) (tx:=tx) (ft:=ft) (S:=S) t ops.size with h | ⟨j,hj,hs,SK,h⟩
  ·rw [h] at he
   exact l1 t SI HA off he
  ·rw [h] at he
   obtain⟨y,hy,IA⟩:=Vp.1 SK
   have hji:j≠i:=by rintro rfl; rw [hi] at hs; cases hs
   rcases l2 j y t hy hji with h5 | h5
   ·have:=T.down hc h5 hs; rw [hi] at this; cases this
   ·exact h5 IA off he
theorem Ah (T:sd P cf aE ops tx ft ord)(kP:∀k,k<ops.size→S k=true):∀k,k≤ops.size→jZ ops tx ft S k=tx k
 | 0,_=>rfl
 | k+1,hk=>by
  simp only [jZ,kP k (by omega),if_true]
  rw [Ah T kP k (by omega)]
  exact (T.shift (by omega)).symm
def left (n:Nat)(S:Nat→Bool):Nat:=(WS n).countP fun j=>!S j
theorem B9 {n:Nat}{S:Nat→Bool}(h:left n S=0):∀k,k<n→S k=true:=by
 intro k hk
 unfold left at h
 rw [List.countP_eq_zero] at h
 simpa using h k (List.mem_range.2 hk)
theorem DI {n i:Nat}(hi:i<n){S S':Nat→Bool}(KT:S i=false)(B8:∀k,S' k=if k=i then true else S k):left n S'+1=left n S:=by
 unfold left
 have:∀m,(WS m).countP (fun j=>!S' j)+(if i<m then 1 else 0)=(WS m).countP fun j=>!S j:=by
  intro m
  induction m with
  | zero=>simp
  | succ m ih=>
   rw [List.range_succ,List.countP_append,List.countP_append]
   simp only [List.countP_cons,List.countP_nil]
   by_cases hm:m=i
   ·subst hm
    have h1:S' m=true:=by rw [B8]; simp
    rw [h1,KT]
    simp at ih ⊢
    omega
   ·have h1:S' m=S m:=by rw [B8,if_neg hm]
    rw [h1]
    by_cases Qr:i<m
    ·have h3:i<m+1:=by omega
     simp only [Qr,h3,if_true] at ih ⊢
     omega
    ·have h3:¬i<m+1:=by omega
     simp only [Qr,h3,if_false] at ih ⊢
     omega
 have:=this n
 rw [if_pos hi] at this
 exact this
theorem IC (T:sd P cf aE ops tx ft ord)(hcf:CallOK P cf){L0:Nat→Prop}{c0:Cx}{n:Nat}(hb0:c0.base≤c0.w.heap.size)(FX:tW n ops.toList=true){Q:Exit→Act→World→Prop}
  (hQ:∀a' w',Inv L0 c0 n (ops.toList.filterMap (·.dst)) (tx ops.size) a' w'→Q .normal a' w') :
  ∀(fuel:Nat) (dU:Array Bool) (a:Act) (w:World),dU.size=ops.size→pE ops (fun j=>dU.getD j false)→left ops.size (fun j=>dU.getD j false)≤fuel→
   Inv L0 c0 n (ops.toList.filterMap (·.dst)) (jZ ops tx ft (fun j=>dU.getD j false) ops.size) a w→wpAny P .any ops Q fuel dU a w:=by
 intro fuel
 have DJ:∀(dU:Array Bool) a w,dU.size=ops.size→Region.ready .any ops dU=[]→Inv L0 c0 n (ops.toList.filterMap (·.dst)) (jZ ops tx ft (fun j=>dU.getD j false) ops.size) a w→Q .normal a w:=by
  intro dU a w hsz Ka hi
  have kP:∀k,k<ops.size→dU.getD k false=true:=by
   intro k
   induction k using Nat.strongRecOn with
   | _ k ih=>
    intro hk
    cases hl:dU.getD k false with
    | true=>rfl
    | false=>
     have:k∈Region.ready .any ops dU:=mem_ready.2 ⟨getD_in (by omega) hl,ops[k],by simp [hk],fun e he hb=>by
      have:=T.back k ops[k] (by simp [hk]) e he hb
      exact ih e.on this (by omega)⟩
     rw [Ka] at this
     cases this
  rw [Ah (S:=fun j=>dU.getD j false) T kP _ (Vv _)] at hi
  exact hQ a w hi
 induction fuel with
 | zero=>
  intro dU a w hsz hc hl hi
  have kP:=B9 (Nat.le_zero.1 hl)
  have Ka:Region.ready .any ops dU=[]:=by
   rw [List.eq_nil_iff_forall_not_mem]
   intro j hj
   obtain⟨h1,o,ho,_⟩:=mem_ready.1 hj
   have NB:j<ops.size:=(VZ.1 ho).1
   have h2:=kP j NB
   have F3:j<dU.size:=by omega
   simp [F3] at h1 h2
   rw [h1] at h2; cases h2
  exact⟨Ka,DJ dU a w hsz Ka hi⟩
 | succ fuel ih=>
  intro dU a w hsz hc hl hi
  refine⟨fun Ka=>DJ dU a w hsz Ka hi,fun i Gv=>?_⟩
  obtain⟨h1,o,ho,KZ⟩:=mem_ready.1 Gv
  have hin:i<ops.size:=(VZ.1 ho).1
  have Qs:i<dU.size:=by omega
  have KT:dU.getD i false=false:=by simp [Qs] at h1 ⊢; exact h1
  have B8:∀k,(dU.setIfInBounds i true).getD k false=if k=i then true else dU.getD k false:=by
   intro k
   by_cases hk:k=i
   ·subst hk
    rw [if_pos rfl]
    simp [Qs]
   ·rw [if_neg hk,getD_set_ne false (Ne.symm hk)]
  have hst:=T.next (S:=fun j=>dU.getD j false) (S':=fun k=>(dU.setIfInBounds i true).getD k false) hc ho KZ KT B8
  unfold wpOp
  rw [ho]
  simp only
  have La:o∈ops.toList:=Wj.2 (Array.mem_of_getElem? ho)
  have:=wQ (Q:=Q) (K:=wpAny P .any ops Q fuel (dU.setIfInBounds i true)) hcf hb0 rfl (wR FX La) hst hi (fun a' w' jI=>by
   refine ih _ a' w' (by simpa using hsz) ?_ ?_ jI
   ·intro j oj NC hj e he hb
    dsimp only at hj ⊢
    rw [B8] at hj ⊢
    by_cases hji:j=i
    ·subst hji
     rw [ho] at NC
     cases NC
     have:=KZ e he hb
     rw [this]; simp
    ·rw [if_neg hji] at hj
     have:=hc j oj NC hj e he hb
     simp only at this
     rw [this]; simp
   ·have:=DI hin (S:=fun j=>dU.getD j false) KT B8
    omega)
  split
  ·rename_i hw; rw [if_pos hw] at this; exact .inl this
  ·rename_i hw; rw [if_neg hw] at this; exact this
theorem tZ {opsL:List Oper}:∀(l:List Oper) (s r:RS) (es:List lW),oo P cf aE opsL s l=some (es,r)→∃tx:Nat→RS,tx 0=s∧tx l.length=r∧
  ∀k o,l[k]? = some o→∃w,gP opsL (tx k).ρ o=some w∧(if w then uM P cf aE (opsL.filterMap (·.dst)) (tx k) o=some (tx (k+1)) else tx (k+1)=(tx k).set o.dst (.tup []))∧
   es[k]? = some {o,f:=if w then bf aE (bL (tx k).ρ) o else {},s:=tx k,s':=tx (k+1)}
 | [],s,r,es,h=>by
  simp only [oo,Vt,Vz] at h
  obtain⟨rfl,rfl⟩:=h
  exact⟨fun _=>s,rfl,rfl,fun k o ho=>by simp at ho⟩
 | o::l,s,r,es,h=>by
  simp only [oo,Vp,Vr] at h
  obtain⟨w,hw,s1,h1,⟨p6,r'⟩,h2,h3⟩:=h
  simp only [Vz] at h3
  obtain⟨rfl,rfl⟩:=h3
  obtain⟨tx,t0,tn,ht⟩:=tZ l s1 r' p6 h2
  refine⟨fun | 0=>s | k+1=>tx k,rfl,tn,fun k o' ho=>?_⟩
  cases k with
  | zero=>
   simp only [V9,Vt] at ho
   subst ho
   refine⟨w,hw,?_,?_⟩
   ·cases w with
    | true=>simpa [t0] using h1
    | false=>
     simp only [VB,if_false,Vt] at h1 ⊢
     rw [t0]; exact h1.symm
   ·simp [t0]
  | succ k=>
   obtain⟨w',h4,h5,h6⟩:=ht k o' (by simpa using ho)
   exact⟨w',h4,h5,by simpa using h6⟩
theorem DK {e:Operand→AV}{o:Oper}(h:(bf aE e o).al=true):(bf aE e o).wb.isSome=true:=by
 unfold bf at h ⊢
 split at h<;>try (cases h; done)
 all_goals (split at h<;>try (cases h; done))
 all_goals (split at h<;>try (cases h; done))
 all_goals simp_all
theorem Ca {k:Nat}{x:AV}(h:Ie k x=false):∀off,x≠.lp k off:=by
 rintro off rfl
 simp [Ie] at h
theorem wY (hm:P.follows .mixedOrders=true)(hcf:CallOK P cf)(SL:SteadyF cf):y7 P cf:=by
 intro L0 c0 n aE id ops s s' h hb0 FX a w Q hi hQ
 unfold jH at h
 dsimp only at h
 split at h
 rotate_left
 ·cases h
 rename_i vi
 rw [Vp] at h
 obtain⟨⟨es,r⟩,yW,h⟩:=h
 simp only at h
 split at h
 rotate_left
 ·cases h
 rename_i wZ
 cases h
 obtain⟨tx,t0,tn,ht⟩:=tZ ops.toList s s' es yW
 generalize Kv:jl [] ops.toList=ms at vi wZ
 have ND:∀k i,(ms.getD i 0).testBit k=true→∃o,ops[i]? = some o∧∃e∈o.after,Region.binds .any e=true∧(e.on=k∨(ms.getD e.on 0).testBit k=true):=by
  intro k i hk
  obtain⟨o,ho,e,he,hb,h1⟩:=(qp ops.toList []).2 i k (by rw [Kv]; exact hk) (by simp)
  refine⟨o,by simpa using ho,e,Wj.1 he,hb,?_⟩
  rw [Kv] at h1
  exact h1
 unfold mU at vi
 simp only [Vu] at vi
 obtain⟨ID,DL⟩:=vi
 let ft:Nat→kG:=fun k=>((es[k]?).map (·.f)).getD {}
 have rT:∀k o,ops[k]? = some o→∃w,gP ops.toList (tx k).ρ o=some w∧(if w then uM P cf aE (ops.toList.filterMap (·.dst)) (tx k) o=some (tx (k+1)) else tx (k+1)=(tx k).set o.dst (.tup []))∧
   es[k]? = some {o,f:=ft k,s:=tx k,s':=tx (k+1)}∧ft k=if w then bf aE (bL (tx k).ρ) o else {}:=by
  intro k o ho
  obtain⟨w,h1,h2,h3⟩:=ht k o (by simpa using ho)
  have J9:ft k=if w then bf aE (bL (tx k).ρ) o else {}:=by simp only [ft,h3,Vw,Wl]
  exact⟨w,h1,h2,by rw [J9]; exact h3,J9⟩
 have Gv:∀k o,ops[k]? = some o→((⟨o,ft k,tx k,tx (k+1)⟩:lW),k)∈es.zipIdx:=by
  intro k o ho
  obtain⟨w,_,_,h3,_⟩:=rT k o ho
  exact List.mk_mem_zipIdx_iff_getElem?.2 h3
 simp only [VK,List.mem_filter,Vu] at wZ
 have p8:∀k o,ops[k]? = some o→(ft k).quiet=false→(((⟨o,ft k,tx k,tx (k+1)⟩:lW),k)∈es.zipIdx∧(!(ft k).quiet)=true):=fun k o ho hq=>⟨Gv k o ho,by rw [hq]; rfl⟩
 have BW:∀k,k<ops.size→ops[k]? = some ops[k]!:=fun k hk=>by simp [hk]
 have IE:∀i j x y,ops[i]? = some x→ops[j]? = some y→i≠j→(ft i).quiet=false→(ft j).quiet=false→(ms.getD j 0).testBit i=true∨(ms.getD i 0).testBit j=true∨
   lW.jk ⟨x,ft i,tx i,tx (i+1)⟩ ⟨y,ft j,tx j,tx (j+1)⟩=true:=by
  intro i j x y hx hy yy HJ F4
  rcases Nat.lt_or_ge i j with hlt | hge
  ·have:=(wZ _ (p8 i x hx HJ)).2 _ (p8 j y hy F4)
   simp only [Wb,Vu] at this
   rcases this with (h1 | h1) | h1
   ·have:=Nat.le_of_ble_eq_true h1; omega
   ·exact .inl h1
   ·exact .inr (.inr h1.1)
  ·have:=(wZ _ (p8 j y hy F4)).2 _ (p8 i x hx HJ)
   simp only [Wb,Vu] at this
   rcases this with (h1 | h1) | h1
   ·have:=Nat.le_of_ble_eq_true h1; omega
   ·exact .inr (.inl h1)
   ·exact .inr (.inr h1.2)
 have NF:∀id,(tx 0).h.ver id<(tx 0).h.next:=by
  obtain⟨_,c,Lo,lam,_,f,_⟩:=hi
  rw [t0,←f.h]; exact f.rel.ver
 have hst:∀k,k<ops.size→Steady (tx k).h (tx (k+1)).h:=by
  intro k hk
  obtain⟨w,h1,h2,_⟩:=rT k _ (BW k hk)
  cases w with
  | true=>exact sc SL (by simpa [uM] using h2)
  | false=>
   simp only [VB,if_false] at h2
   rw [h2,jd]; exact Steady.refl _
 have MB:∀k,k≤ops.size→∀id,(tx k).h.ver id<(tx k).h.next:=by
  intro k
  induction k with
  | zero=>intro _; exact NF
  | succ k ih=>intro hk; exact (hst k (by omega)).wf (ih (by omega))
 have T:sd P cf aE ops tx ft (fun k i=>(ms.getD i 0).testBit k=true):=by
  refine⟨fun k o ho=>?_,ND,fun i o ho e he hb=>?_,fun i j x y yy hx hy=>?_,fun i j hin NB yy=>?_,fun i o d ho oa hd=>?_⟩
  ·obtain⟨w,h1,h2,h3,h4⟩:=rT k o ho
   refine⟨w,h1,?_⟩
   cases w with
   | true=>exact⟨h2,h4⟩
   | false=>exact⟨h2,h4⟩
  ·have:=oE _ 0 ID i o (by simpa using ho) e (Wj.2 he) hb
   omega
  ·have Kb:∀x y:Oper,uN ops x y=true→∀d,x.dst=some d→d∉y.looksAt ops∧y.dst≠some d:=by
    intro x y h d hd
    unfold uN at h
    rw [hd] at h
    simpa using h
   rcases Nat.lt_or_ge i j with hlt | hge
   ·have:=kp _ _ 0 DL i j x y hlt (by simpa using hx) (by simpa using hy)
    simp only [VO,Wb,Vu] at this
    rcases this with h1 | h1
    ·exact .inl h1
    ·exact .inr (.inr (Kb _ _ h1.1))
   ·have:=kp _ _ 0 DL j i y x (by omega) (by simpa using hy) (by simpa using hx)
    simp only [VO,Wb,Vu] at this
    rcases this with h1 | h1
    ·exact .inr (.inl h1)
    ·exact .inr (.inr (Kb _ _ h1.2))
  ·cases HJ:(ft i).quiet with
   | true=>
    unfold kG.quiet at HJ
    simp only [Vu,Option.isNone_iff_eq_none,Ww] at HJ
    exact .inr (.inr ⟨fun k hk=>(by rw [HJ.1.1.2] at hk; cases hk),fun hk=>(by rw [HJ.2] at hk; cases hk)⟩)
   | false=>
    cases F4:(ft j).quiet with
    | true=>
     unfold kG.quiet at F4
     simp only [Vu,Option.isNone_iff_eq_none,Ww,List.isEmpty_iff] at F4
     obtain⟨⟨⟨q1,q2⟩,q3⟩,q4⟩:=F4
     exact .inr (.inr ⟨fun k hk=>⟨by rw [q1]; simp,by rw [q2]; simp⟩,fun hk=>⟨q4,by rw [q3]; simp⟩⟩)
    | false=>
     rcases IE i j _ _ (BW i hin) (BW j NB) yy HJ F4 with h1 | h1 | h1
     ·exact .inl h1
     ·exact .inr (.inl h1)
     ·refine .inr (.inr ?_)
      unfold lW.jk at h1
      simp only [Vu,Wb,Ww,VK] at h1
      obtain⟨h2,h3⟩:=h1
      refine⟨fun k hk=>?_,fun hk=>?_⟩
      ·rw [hk] at h2
       simpa using h2
      ·rcases h3 with h3 | h3
       ·rw [hk] at h3; cases h3
       ·refine⟨h3.1,fun id hid=>?_⟩
        have hv:=Wr (h3.2 id hid)
        rcases (hst i hin).keep id with⟨_,h5⟩| h5
        ·exact h5.symm
        ·have:=MB i (by omega) id; omega
  ·obtain⟨w,h1,h2,h3,h4⟩:=rT i o ho
   have hq:(ft i).quiet=false:=by
    cases w with
    | false=>rw [h4] at oa; cases oa
    | true=>
     rw [h4] at oa ⊢
     have:=DK oa
     unfold kG.quiet
     simp only [if_true] at this ⊢
     cases hwb:(bf aE (bL (tx i).ρ) o).wb with
     | none=>rw [hwb] at this; cases this
     | some k=>simp
   have:=(wZ _ (p8 i o ho hq)).1
   unfold rj at this
   simp only [oa,hd] at this
   simp only [Vu,VK,Wb] at this
   obtain⟨k1,k2⟩:=this
   refine⟨fun t ht HA off=>?_,fun j y t hy hji=>?_⟩
   ·rw [t0]
    exact pz k1 t (by rw [List.mem_filter]; exact⟨ht,by simpa [beq_nat] using HA⟩) off
   ·have:=k2 _ (Gv j y hy)
    rcases this with (h5 | h5) | h5
    ·have:=Wr h5; omega
    ·exact .inl h5
    ·right
     intro IA off
     simp only [lW.out,IA,Ww] at h5
     exact Ca h5 off
 have hlen:tx ops.size=s':=by simpa using tn
 refine wp_region_any hm ?_
 refine IC T hcf hb0 FX (fun a' w' jI=>hQ a' w' (by rw [hlen] at jI; exact jI)) ops.size _ _ _ (by simp) ?_ ?_ ?_
 ·intro j o _ hj
  simp only [getD_replicate_false] at hj
  cases hj
 ·unfold left
  exact We (List.countP_le_length) (by simp)
 ·have Dw:∀k,jZ ops tx ft (fun j=>(Array.replicate ops.size false).getD j false) k=tx 0:=by
   intro k
   induction k with
   | zero=>rfl
   | succ k ih=>
    rw [jZ,getD_replicate_false,if_neg (by simp)]
    exact ih
  rw [Dw,t0]
  exact hi.drew
end
end Go.R
namespace Go.R
open Go
section
variable {c d:Cx}{L L':Nat→Prop}
mutual
theorem Ai (hw:d.w=c.w)(hbs:d.base≤c.base)(lb:∀b,RO c L b→RO d L' b):∀(x:AV) (v:Value),x.dZ=true→VR c L x v→VR d L' x v
 | .any,_,h,_=>by simp [AV.dZ] at h
 | .bool _,_,_,h=>h
 | .int _ _,_,_,h=>h
 | .str _,_,_,h=>h
 | .nk,_,_,h=>h
 | .ptr _ _,_,h,_=>by simp [AV.dZ] at h
 | .lp _ _,_,h,_=>by simp [AV.dZ] at h
 | .fp cs off,v,h,hv=>by
  simp only [AV.dZ] at h
  simp only [VR] at hv ⊢
  obtain⟨b,o,rfl,hc⟩:=hv
  exact⟨b,o,rfl,hc.imp id fun ⟨hr,hc⟩=>⟨lb b hr,nO hw hbs lb cs b o h hc⟩⟩
 | .nils,_,_,h=>h
 | .fz cs n ex,v,h,hv=>by
  simp only [AV.dZ] at h
  simp only [VR] at hv ⊢
  obtain⟨a,cap,rfl,h1,h2,hs,hc⟩:=hv
  exact⟨a,cap,rfl,h1,h2,hs,hc.imp id fun ⟨b,o,ha,hr,hex,hc⟩=>⟨b,o,ha,lb b hr,fun h=>We hbs (hex h),nO hw hbs lb cs b o h hc⟩⟩
 | .rs _ _ _ _,_,h,_=>by simp [AV.dZ] at h
 | .lV,_,_,h=>h
 | .mp _,_,h,_=>by simp [AV.dZ] at h
 | .fn f cap,v,h,hv=>by
  simp only [AV.dZ] at h
  simp only [VR] at hv ⊢
  obtain⟨vs,rfl,h1⟩:=hv
  exact⟨vs,rfl,oH hw hbs lb cap vs.toList h h1⟩
 | .oe,_,_,h=>h
 | .agg cs,v,h,hv=>by
  simp only [AV.dZ] at h
  simp only [VR] at hv ⊢
  obtain⟨vs,rfl,h1⟩:=hv
  exact⟨vs,rfl,oH hw hbs lb cs vs.toList h h1⟩
 | .tup cs,v,h,hv=>by
  simp only [AV.dZ] at h
  simp only [VR] at hv ⊢
  obtain⟨vs,rfl,h1⟩:=hv
  exact⟨vs,rfl,oH hw hbs lb cs vs.toList h h1⟩
theorem oH (hw:d.w=c.w)(hbs:d.base≤c.base)(lb:∀b,RO c L b→RO d L' b):∀(xs:List AV) (vs:List Value),cJ xs=true→VRs c L xs vs→VRs d L' xs vs
 | [],[],_,_=>trivial
 | x::xs,v::vs,h,hv=>by
  simp only [cJ,Vu] at h
  exact⟨Ai hw hbs lb x v h.1 hv.1,oH hw hbs lb xs vs h.2 hv.2⟩
 | [],_::_,_,h=>h.elim
 | _::_,[],_,h=>h.elim
theorem nO (hw:d.w=c.w)(hbs:d.base≤c.base)(lb:∀b,RO c L b→RO d L' b):∀(xs:List AV) (b o:Nat),cJ xs=true→Cells c L xs b o→Cells d L' xs b o
 | [],_,_,_,_=>trivial
 | x::xs,b,o,h,hv=>by
  simp only [cJ,Vu] at h
  obtain⟨⟨v,h1,h2,h3⟩,h4⟩:=hv
  exact⟨⟨v,by rw [hw]; exact h1,h2,Ai hw hbs lb x v h.1 h3⟩,nO hw hbs lb xs b (o+1) h.2 h4⟩
end
mutual
theorem vj (hw:d.w=c.w)(lb:∀b,RO c L b→RO d L' b):∀(x:AV) (v:Value),x.dZ=true→VR c L x v→VR d L' x.jj v
 | .any,_,h,_=>by simp [AV.dZ] at h
 | .bool _,_,_,h=>h
 | .int _ _,_,_,h=>h
 | .str _,_,_,h=>h
 | .nk,_,_,h=>h
 | .ptr _ _,_,h,_=>by simp [AV.dZ] at h
 | .lp _ _,_,h,_=>by simp [AV.dZ] at h
 | .fp cs off,v,h,hv=>by
  simp only [AV.dZ] at h
  simp only [VR,AV.jj] at hv ⊢
  obtain⟨b,o,rfl,hc⟩:=hv
  refine⟨b,o,rfl,?_⟩
  rcases hc with rfl | ⟨hr,hc⟩
  ·exact .inl rfl
  ·exact .inr ⟨lb b hr,pF hw lb cs b o h hc⟩
 | .nils,v,_,h=>by
  simp only [VR] at h
  simp only [AV.jj,VR]
  exact⟨none,0,h,Vv _,by simp,.inr ⟨trivial,rfl⟩,.inl trivial⟩
 | .fz cs n ex,v,h,hv=>by
  simp only [AV.dZ] at h
  simp only [VR,AV.jj] at hv ⊢
  obtain⟨a,cap,rfl,h1,h2,hs,hc⟩:=hv
  refine⟨a,cap,rfl,h1,by simp,hs.imp id fun h=>⟨by rw [h.1]; rfl,h.2⟩,?_⟩
  rcases hc with rfl | ⟨b,o,ha,hr,hex,hc⟩
  ·exact .inl rfl
  ·exact .inr ⟨b,o,ha,lb b hr,by simp,pF hw lb cs b o h hc⟩
 | .rs _ _ _ _,_,h,_=>by simp [AV.dZ] at h
 | .lV,_,_,h=>h
 | .mp _,_,h,_=>by simp [AV.dZ] at h
 | .fn f cap,v,h,hv=>by
  simp only [AV.dZ] at h
  simp only [VR,AV.jj] at hv ⊢
  obtain⟨vs,rfl,h1⟩:=hv
  exact⟨vs,rfl,oI hw lb cap vs.toList h h1⟩
 | .oe,_,_,h=>h
 | .agg cs,v,h,hv=>by
  simp only [AV.dZ] at h
  simp only [VR,AV.jj] at hv ⊢
  obtain⟨vs,rfl,h1⟩:=hv
  exact⟨vs,rfl,oI hw lb cs vs.toList h h1⟩
 | .tup cs,v,h,hv=>by
  simp only [AV.dZ] at h
  simp only [VR,AV.jj] at hv ⊢
  obtain⟨vs,rfl,h1⟩:=hv
  exact⟨vs,rfl,oI hw lb cs vs.toList h h1⟩
theorem oI (hw:d.w=c.w)(lb:∀b,RO c L b→RO d L' b):∀(xs:List AV) (vs:List Value),cJ xs=true→VRs c L xs vs→VRs d L' (dw xs) vs
 | [],[],_,_=>trivial
 | x::xs,v::vs,h,hv=>by
  simp only [cJ,Vu] at h
  exact⟨vj hw lb x v h.1 hv.1,oI hw lb xs vs h.2 hv.2⟩
 | [],_::_,_,h=>h.elim
 | _::_,[],_,h=>h.elim
theorem pF (hw:d.w=c.w)(lb:∀b,RO c L b→RO d L' b):∀(xs:List AV) (b o:Nat),cJ xs=true→Cells c L xs b o→Cells d L' (dw xs) b o
 | [],_,_,_,_=>trivial
 | x::xs,b,o,h,hv=>by
  simp only [cJ,Vu] at h
  obtain⟨⟨v,h1,h2,h3⟩,h4⟩:=hv
  exact⟨⟨v,by rw [hw]; exact h1,h2,vj hw lb x v h.1 h3⟩,pF hw lb xs b (o+1) h.2 h4⟩
end
mutual
theorem pG (hw:d.w=c.w)(lb:∀b,RO c L b→RO d L' b)(hrel:HRel c L)(hid:∀id,Live c.h id→RO d L' (c.β id).1):∀(n:Nat) (x y:AV) (v:Value),ck c.h n x=some y→VR c L x v→VR d L' y v
 | 0,x,y,v,h,_=>by simp [ck] at h
 | n+1,x,y,v,h,hv=>by
  have NG:(if x.dZ then some x.jj else none)=some y→VR d L' y v:=by
   intro h
   split at h
   ·rename_i hn; cases h; exact vj hw lb x v hn hv
   ·cases h
  cases x with
  | ptr id off=>
   simp only [ck,Vp] at h
   obtain⟨ob,ho,h⟩:=h
   cases ob with
   | map es=>cases h
   | row t cs=>cases h
   | cells cs=>
    simp only [Vr] at h
    obtain⟨fi,hcs,rfl⟩:=h
    have hl:Live c.h id:=⟨hrel.lt _ _ ho,by simp [ho]⟩
    obtain⟨m,_,_,hc⟩:=hrel.obj _ _ ho
    simp only [VR] at hv ⊢
    obtain⟨_,a,rfl,ha⟩:=hv
    rw [ha hl]
    exact⟨_,_,rfl,.inr ⟨hid id hl,jP hw lb hrel hid n cs fi _ _ hcs hc⟩⟩
  | rs id off len ij=>
   simp only [ck] at h
   split at h
   ·rename_i hid
    split at h
    rotate_left
    ·cases h
    rename_i hl0
    cases h
    simp only [VR] at hv ⊢
    rcases hv with⟨_,_,_,a,rfl⟩| hv
    ·exact⟨a,0,rfl,Vv _,by simp,.inr ⟨trivial,rfl⟩,.inl trivial⟩
    ·exact absurd hid hv.1
   rename_i j5
   rw [Vp] at h
   obtain⟨ob,ho,h⟩:=h
   cases ob with
   | map es=>cases h
   | row t cs=>cases h
   | cells cs=>
    simp only at h
    split at h
    rotate_left
    ·cases h
    rename_i hle
    simp only [Vr] at h
    obtain⟨fi,hcs,rfl⟩:=h
    have hl:Live c.h id:=⟨hrel.lt _ _ ho,by simp [ho]⟩
    obtain⟨m,_,_,hc⟩:=hrel.obj _ _ ho
    simp only [VR] at hv ⊢
    rcases hv with hv | ⟨_,_,a,cap,rfl,h1,h2,h3⟩
    ·exact absurd hv.1 j5
    refine⟨a,cap,rfl,h1,by simp,.inl h2,?_⟩
    rcases h3 hl with⟨h4,_⟩| h4
    ·exact .inr ⟨_,_,h4,hid id hl,by simp,jP hw lb hrel hid n _ fi _ _ hcs ((hc.drop off).take (len*ij))⟩
    ·left
     have hz:len=0:=by omega
     subst hz
     rw [Nat.zero_mul,List.take_zero] at hcs
     cases n with
     | zero=>simp [br] at hcs
     | succ n=>simp only [br,Vt] at hcs; exact hcs.symm
  | agg cs=>
   simp only [ck,Vr] at h
   obtain⟨fi,hcs,rfl⟩:=h
   simp only [VR] at hv ⊢
   obtain⟨vs,rfl,h1⟩:=hv
   exact⟨vs,rfl,ir hw lb hrel hid n cs fi vs.toList hcs h1⟩
  | tup cs=>
   simp only [ck,Vr] at h
   obtain⟨fi,hcs,rfl⟩:=h
   simp only [VR] at hv ⊢
   obtain⟨vs,rfl,h1⟩:=hv
   exact⟨vs,rfl,ir hw lb hrel hid n cs fi vs.toList hcs h1⟩
  | fn f cs=>
   simp only [ck,Vr] at h
   obtain⟨fi,hcs,rfl⟩:=h
   simp only [VR] at hv ⊢
   obtain⟨vs,rfl,h1⟩:=hv
   exact⟨vs,rfl,ir hw lb hrel hid n cs fi vs.toList hcs h1⟩
  | _=>exact NG (by simpa only [ck] using h)
theorem ir (hw:d.w=c.w)(lb:∀b,RO c L b→RO d L' b)(hrel:HRel c L)(hid:∀id,Live c.h id→RO d L' (c.β id).1):∀(n:Nat) (xs ys:List AV) (vs:List Value),br c.h n xs=some ys→VRs c L xs vs→VRs d L' ys vs
 | 0,xs,ys,vs,h,_=>by simp [br] at h
 | n+1,[],ys,vs,h,hv=>by
  simp only [br,Vt] at h
  subst h
  cases vs with
  | nil=>trivial
  | cons v vs=>exact hv.elim
 | n+1,x::xs,ys,vs,h,hv=>by
  simp only [br,Vp,Vr] at h
  obtain⟨y,hy,zs,hz,rfl⟩:=h
  cases vs with
  | nil=>exact hv.elim
  | cons v vs=>exact⟨pG hw lb hrel hid n x y v hy hv.1,ir hw lb hrel hid n xs zs vs hz hv.2⟩
theorem jP (hw:d.w=c.w)(lb:∀b,RO c L b→RO d L' b)(hrel:HRel c L)(hid:∀id,Live c.h id→RO d L' (c.β id).1):∀(n:Nat) (xs ys:List AV) (b o:Nat),br c.h n xs=some ys→Cells c L xs b o→Cells d L' ys b o
 | 0,xs,ys,b,o,h,_=>by simp [br] at h
 | n+1,[],ys,b,o,h,hv=>by
  simp only [br,Vt] at h
  subst h
  trivial
 | n+1,x::xs,ys,b,o,h,hv=>by
  simp only [br,Vp,Vr] at h
  obtain⟨y,hy,zs,hz,rfl⟩:=h
  obtain⟨⟨v,h1,h2,h3⟩,h4⟩:=hv
  exact⟨⟨v,by rw [hw]; exact h1,h2,pG hw lb hrel hid n x y v hy h3⟩,jP hw lb hrel hid n xs zs b (o+1) hz h4⟩
end
mutual
theorem nP (hw:d.w=c.w)(hrel:HRel c L)(hid:∀id,Live c.h id→RO d L' (c.β id).1):∀(n:Nat) (x y:AV) (v:Value),fW c.h n x=some y→VR c L x v→VR d L' y v
 | 0,x,y,v,h,_=>by simp [fW] at h
 | n+1,x,y,v,h,hv=>by
  unfold fW at h
  split at h
  ·cases h; exact hv
  ·cases h; exact hv
  ·cases h; exact hv
  ·cases h; exact hv
  ·cases h; exact hv
  ·cases h; exact hv
  ·cases h
   simp only [VR] at hv ⊢
   exact⟨none,0,hv,Vv _,by simp,.inr ⟨trivial,rfl⟩,.inl trivial⟩
  ·cases h
   simp only [VR] at hv ⊢
   obtain⟨a,cap,rfl,h1,h2,hs,_⟩:=hv
   exact⟨a,cap,rfl,h1,by simp,hs,.inl trivial⟩
  ·rename_i id off len ij
   split at h
   ·rename_i j5
    split at h
    rotate_left
    ·cases h
    rename_i hl0
    cases h
    simp only [VR] at hv ⊢
    rcases hv with⟨_,_,_,a,rfl⟩| hv
    ·exact⟨a,0,rfl,Vv _,by simp,.inr ⟨trivial,rfl⟩,.inl trivial⟩
    ·exact absurd j5 hv.1
   rename_i j5
   rw [Vp] at h
   obtain⟨ob,ho,h⟩:=h
   cases ob with
   | map es=>cases h
   | row t cs=>cases h
   | cells cs=>
    simp only at h
    split at h
    rotate_left
    ·cases h
    rename_i hle
    simp only [Vr] at h
    obtain⟨fi,hcs,rfl⟩:=h
    have hl:Live c.h id:=⟨hrel.lt _ _ ho,by simp [ho]⟩
    obtain⟨m,_,_,hc⟩:=hrel.obj _ _ ho
    simp only [VR] at hv ⊢
    rcases hv with hv | ⟨_,_,a,cap,rfl,h1,h2,h3⟩
    ·exact absurd hv.1 j5
    refine⟨a,cap,rfl,h1,by simp,.inl h2,?_⟩
    rcases h3 hl with⟨h4,_⟩| h4
    ·exact .inr ⟨_,_,h4,hid id hl,by simp,lS hw hrel hid n _ fi _ _ hcs ((hc.drop off).take (len*ij))⟩
    ·left
     have hz:len=0:=by omega
     subst hz
     rw [Nat.zero_mul,List.take_zero] at hcs
     cases n with
     | zero=>simp [dj] at hcs
     | succ n=>simp only [dj,Vt] at hcs; exact hcs.symm
  ·rename_i cs
   simp only [Vr] at h
   obtain⟨fi,hcs,rfl⟩:=h
   simp only [VR] at hv ⊢
   obtain⟨vs,rfl,h1⟩:=hv
   exact⟨vs,rfl,mA hw hrel hid n cs fi vs.toList hcs h1⟩
  ·rename_i cs
   simp only [Vr] at h
   obtain⟨fi,hcs,rfl⟩:=h
   simp only [VR] at hv ⊢
   obtain⟨vs,rfl,h1⟩:=hv
   exact⟨vs,rfl,mA hw hrel hid n cs fi vs.toList hcs h1⟩
  ·cases h
theorem mA (hw:d.w=c.w)(hrel:HRel c L)(hid:∀id,Live c.h id→RO d L' (c.β id).1):∀(n:Nat) (xs ys:List AV) (vs:List Value),dj c.h n xs=some ys→VRs c L xs vs→VRs d L' ys vs
 | 0,xs,ys,vs,h,_=>by simp [dj] at h
 | n+1,[],ys,vs,h,hv=>by
  simp only [dj,Vt] at h
  subst h
  cases vs with
  | nil=>trivial
  | cons v vs=>exact hv.elim
 | n+1,x::xs,ys,vs,h,hv=>by
  simp only [dj,Vp,Vr] at h
  obtain⟨y,hy,zs,hz,rfl⟩:=h
  cases vs with
  | nil=>exact hv.elim
  | cons v vs=>exact⟨nP hw hrel hid n x y v hy hv.1,mA hw hrel hid n xs zs vs hz hv.2⟩
theorem lS (hw:d.w=c.w)(hrel:HRel c L)(hid:∀id,Live c.h id→RO d L' (c.β id).1):∀(n:Nat) (xs ys:List AV) (b o:Nat),dj c.h n xs=some ys→Cells c L xs b o→Cells d L' ys b o
 | 0,xs,ys,b,o,h,_=>by simp [dj] at h
 | n+1,[],ys,b,o,h,hv=>by
  simp only [dj,Vt] at h
  subst h
  trivial
 | n+1,x::xs,ys,b,o,h,hv=>by
  simp only [dj,Vp,Vr] at h
  obtain⟨y,hy,zs,hz,rfl⟩:=h
  obtain⟨⟨v,h1,h2,h3⟩,h4⟩:=hv
  exact⟨⟨v,by rw [hw]; exact h1,h2,nP hw hrel hid n x y v hy h3⟩,lS hw hrel hid n xs zs b (o+1) hz h4⟩
end
end
section
variable {P:Program}
theorem Gw {cf:CallF}(hcf:CallOK P cf)(deep:Nat):CallOK P fun f args h=>if cJ args then (cf f (dw args) bz).bind fun x=>(ck x.2 deep x.1).map fun r=>(r,h) else cf f args h:=by
 intro f args h r h' hc
 dsimp only at hc
 split at hc
 rotate_left
 ·exact hcf f args h r h' hc
 rename_i wi
 rw [Vp] at hc
 obtain⟨⟨x,h1⟩,hx,hc⟩:=hc
 rw [Vr] at hc
 obtain⟨r',hr,he⟩:=hc
 simp only [Vz] at he
 obtain⟨rfl,rfl⟩:=he
 obtain⟨hin,hcall⟩:=hcf f (dw args) bz x h1 hx
 refine⟨hin,fun L0 c vs hh hb0 hrel hargs=>?_⟩
 let L1:Nat→Prop:=fun b=>L0 b∨∃id,Live c.h id∧(c.β id).1=b
 let c0:Cx:=⟨fun _=>(0,0),bz,c.w,c.w.heap.size⟩
 have hnl:∀id,¬Live c0.h id:=fun id hl=>by have:=hl.2; cases this
 have DM:∀b,RO c L0 b→RO c0 L1 b:=fun b hb=>⟨fun id hl=>absurd hl (hnl id),fun h=>by
  rcases h with h | ⟨id,h1,h2⟩
  ·exact hb.2 h
  ·exact hb.1 id h1 h2⟩
 have sf:HRel c0 L1:=⟨fun id o ho=>(by cases ho),fun id o ho=>(by cases ho),fun id _ hl _ _=>absurd hl (hnl id),fun id hl=>absurd hl (hnl id),fun b hb=>by
  rcases hb with h | ⟨id,h1,h2⟩
  ·exact hrel.bd b h
  ·rw [←h2]; exact hrel.block h1,fun id hl=>absurd hl (hnl id),fun _=>WM⟩
 refine (hcall L1 c0 vs rfl (Vv _) sf (oI (c:=c) (d:=c0) rfl DM _ _ wi hargs)).mono ?_
 rintro e w' ⟨c1,v,rfl,rfl,Kc,hv,hrel1,e1⟩
 let d:Cx:=⟨c.β,c.h,c1.w,c.base⟩
 have hk:∀b,b<c.w.heap.size→c1.w.heap[b]? = c.w.heap[b]?:=fun b hb=>e1.exact b hb
 have ed:Ext c none0 d none0:=⟨Vv _,fun id _ hl=>⟨hl,rfl,gX.len (c:=c) (c':=d) (.inl (hk _ (hrel.block hl)))⟩,e1.size,fun b hb _ _=>.inl (hk b hb),fun b hb=>hk b (VP hb hb0),rfl,fun id hl=>.inr ⟨id,hl,rfl⟩,fun _ h=>h,fun _ h=>.inl h,e1.os,e1.tape,e1.output⟩
 have hb1:d.base≤c1.base:=by rw [e1.base]; exact hb0
 have NH:∀b,RO c1 L1 b→RO d L0 b:=fun b hb=>⟨fun id hl he=>hb.2 (.inr ⟨id,hl,he⟩),fun h=>hb.2 (.inl h)⟩
 refine⟨d,v,rfl,rfl,hh,?_,⟨hrel.lt,fun id o ho=>?_,hrel.inj,hrel.out,fun b hb=>VP (hrel.bd b hb) e1.size,hrel.low,hrel.ver⟩,ed⟩
 ·refine pG (c:=c1) (d:=d) (L:=L1) rfl NH hrel1 (fun id hl=>⟨fun kn n6 he=>hrel1.out id hl (.inr ⟨kn,n6,he⟩),fun h=>hrel1.out id hl (.inl h)⟩) deep x r' v ?_ hv
  rw [Kc]; exact hr
 ·have hl:Live c.h id:=⟨hrel.lt _ _ ho,by rw [ho]; rfl⟩
  have:=(hrel.obj id o ho)
  have h2:=ot.ext (L0:=L0) ed (b:=(c.β id).1) (base:=(c.β id).2) (o:=o) (by rw [hH]; exact this) (hk _ (hrel.block hl))
  rw [hH] at h2
  exact h2
theorem oJ {c:Cx}{L:Nat→Prop}:∀{xs:List AV} {vs:List Value},VRs c L xs vs→VRs c L (xs.map aM) vs
 | [],[],_=>trivial
 | x::_,_::_,h=>⟨by
   unfold aM
   cases hn:x.dZ with
   | false=>exact h.1
   | true=>exact vj rfl (fun _ h=>h) x _ hn h.1,oJ h.2⟩
 | [],_::_,h=>h.elim
 | _::_,[],h=>h.elim
theorem w0 {cf:CallF}(hcf:CallOK P cf):CallOK P fun f args h=>cf f (args.map aM) h:=by
 intro f args h r h' hc
 obtain⟨h1,h2⟩:=hcf f _ h r h' hc
 exact⟨h1,fun L0 c vs hh hb0 hrel hargs=>h2 L0 c vs hh hb0 hrel (oJ hargs)⟩
theorem Gx {cf:CallF}(hcf:CallOK P cf)(deep:Nat):CallOK P fun f args h=>(br h deep args).bind fun as=>(cf f as bz).bind fun x=>(fW x.2 deep x.1).map fun r=>(r,h):=by
 intro f args h r h' hc
 dsimp only at hc
 simp only [Vp,Vr,Vz] at hc
 obtain⟨as,has,⟨x,h1⟩,hx,r',hr,rfl,rfl⟩:=hc
 obtain⟨hin,hcall⟩:=hcf f as bz x h1 hx
 refine⟨hin,fun L0 c vs hh hb0 hrel hargs=>?_⟩
 let c0:Cx:=⟨fun _=>(0,0),bz,c.w,c.w.heap.size⟩
 have hnl:∀id,¬Live c0.h id:=fun id hl=>by have:=hl.2; cases this
 have DM:∀b,RO c L0 b→RO c0 L0 b:=fun b hb=>⟨fun id hl=>absurd hl (hnl id),hb.2⟩
 have sf:HRel c0 L0:=⟨fun id o ho=>(by cases ho),fun id o ho=>(by cases ho),fun id _ hl _ _=>absurd hl (hnl id),fun id hl=>absurd hl (hnl id),hrel.bd,fun id hl=>absurd hl (hnl id),fun _=>WM⟩
 have sg:VRs c0 L0 as vs:=ir (c:=c) (d:=c0) rfl DM hrel (fun id hl=>⟨fun kn n6=>absurd n6 (hnl kn),hrel.out id hl⟩) deep args as vs (by rw [hh]; exact has) hargs
 refine (hcall L0 c0 vs rfl (Vv _) sf sg).mono ?_
 rintro e w' ⟨c1,v,rfl,rfl,Kc,hv,hrel1,e1⟩
 let d:Cx:=⟨c.β,c.h,c1.w,c.base⟩
 have hk:∀b,b<c.w.heap.size→c1.w.heap[b]? = c.w.heap[b]?:=fun b hb=>e1.exact b hb
 have ed:Ext c none0 d none0:=⟨Vv _,fun id _ hl=>⟨hl,rfl,gX.len (c:=c) (c':=d) (.inl (hk _ (hrel.block hl)))⟩,e1.size,fun b hb _ _=>.inl (hk b hb),fun b hb=>hk b (VP hb hb0),rfl,fun id hl=>.inr ⟨id,hl,rfl⟩,fun _ h=>h,fun _ h=>.inl h,e1.os,e1.tape,e1.output⟩
 refine⟨d,v,rfl,rfl,hh,?_,⟨hrel.lt,fun id o ho=>?_,hrel.inj,hrel.out,fun b hb=>VP (hrel.bd b hb) e1.size,hrel.low,hrel.ver⟩,ed⟩
 ·refine nP (c:=c1) (d:=d) (L:=L0) rfl hrel1 (fun id hl=>⟨fun kn n6 he=>?_,hrel1.out id hl⟩) deep x r' v ?_ hv
  ·rcases e1.Ge id hl with h2 | ⟨pt,h2,_⟩
   ·have:=hrel.block n6
    have h3:(c.β kn).1=(c1.β id).1:=he
    have h4:c.w.heap.size≤(c1.β id).1:=h2
    omega
   ·exact absurd h2 (hnl pt)
  ·rw [Kc]; exact hr
 ·have hl:Live c.h id:=⟨hrel.lt _ _ ho,by rw [ho]; rfl⟩
  have:=(hrel.obj id o ho)
  have h2:=ot.ext (L0:=L0) ed (b:=(c.β id).1) (base:=(c.β id).2) (o:=o) (by rw [hH]; exact this) (hk _ (hrel.block hl))
  rw [hH] at h2
  exact h2
section
variable {c1 d:Cx}{L1:Nat→Prop}{k:Nat}
mutual
theorem sh (hw:d.w=c1.w)(hn:∀id,id<c1.h.next→id+k<d.h.next)(hl:∀id,Live d.h (id+k)→Live c1.h id∧d.β (id+k)=c1.β id):∀(x y:AV) (v:Value),cR k x=some y→VR c1 L1 x v→VR d L1 y v
 | .any,_,_,h,_=>by simp [cR] at h
 | .bool _,_,_,h,hv=>by simp only [cR,Vt] at h; subst h; exact hv
 | .int _ _,_,_,h,hv=>by simp only [cR,Vt] at h; subst h; exact hv
 | .str _,_,_,h,hv=>by simp only [cR,Vt] at h; subst h; exact hv
 | .nk,_,_,h,hv=>by simp only [cR,Vt] at h; subst h; exact hv
 | .lV,_,_,h,hv=>by simp only [cR,Vt] at h; subst h; exact hv
 | .oe,_,_,h,hv=>by simp only [cR,Vt] at h; subst h; exact hv
 | .nils,_,_,h,hv=>by simp only [cR,Vt] at h; subst h; exact hv
 | .ptr id off,_,_,h,hv=>by
  simp only [cR,Vt] at h
  subst h
  simp only [VR] at hv ⊢
  obtain⟨h1,a,rfl,h2⟩:=hv
  refine⟨hn _ h1,a,rfl,fun lR=>?_⟩
  obtain⟨g1,g2⟩:=hl _ lR
  rw [g2]; exact h2 g1
 | .lp _ _,_,_,h,_=>by simp [cR] at h
 | .fp _ _,_,_,h,_=>by simp [cR] at h
 | .fz _ _ _,_,_,h,_=>by simp [cR] at h
 | .rs id off len z,y,v,h,hv=>by
  simp only [cR] at h
  split at h
  ·rename_i h0
   cases h
   subst h0
   simp only [VR] at hv ⊢
   rcases hv with⟨_,h2,h3,h4⟩| h1
   ·exact .inl ⟨trivial,h2,h3,h4⟩
   ·exact absurd rfl h1.1
  ·rename_i h0
   cases h
   simp only [VR] at hv ⊢
   rcases hv with h1 | ⟨_,h1,a,cap,rfl,h2,h3,h4⟩
   ·exact absurd h1.1 h0
   refine .inr ⟨by omega,hn _ h1,a,cap,rfl,h2,h3,fun lR=>?_⟩
   obtain⟨g1,g2⟩:=hl _ lR
   have:=h4 g1
   rw [g2]
   unfold Cx.len at this ⊢
   rw [hw]; exact this
 | .mp _,_,_,h,_=>by simp [cR] at h
 | .fn _ _,_,_,h,_=>by simp [cR] at h
 | .agg cs,_,v,h,hv=>by
  simp only [cR,Vr] at h
  obtain⟨ys,h1,rfl⟩:=h
  simp only [VR] at hv ⊢
  obtain⟨vs,rfl,h2⟩:=hv
  exact⟨vs,rfl,pH hw hn hl cs ys vs.toList h1 h2⟩
 | .tup cs,_,v,h,hv=>by
  simp only [cR,Vr] at h
  obtain⟨ys,h1,rfl⟩:=h
  simp only [VR] at hv ⊢
  obtain⟨vs,rfl,h2⟩:=hv
  exact⟨vs,rfl,pH hw hn hl cs ys vs.toList h1 h2⟩
theorem pH (hw:d.w=c1.w)(hn:∀id,id<c1.h.next→id+k<d.h.next)(hl:∀id,Live d.h (id+k)→Live c1.h id∧d.β (id+k)=c1.β id):∀(xs ys:List AV) (vs:List Value),cq k xs=some ys→VRs c1 L1 xs vs→VRs d L1 ys vs
 | [],ys,[],h,_=>by simp only [cq,Vt] at h; subst h; trivial
 | x::xs,ys,v::vs,h,hv=>by
  simp only [cq,Vp,Vr] at h
  obtain⟨y,h1,SM,h2,rfl⟩:=h
  exact⟨sh hw hn hl x y v h1 hv.1,pH hw hn hl xs SM vs h2 hv.2⟩
 | [],_,_::_,_,h=>h.elim
 | _::_,_,[],_,h=>h.elim
end
theorem qu (hw:d.w=c1.w)(hn:∀id,id<c1.h.next→id+k<d.h.next)(hl:∀id,Live d.h (id+k)→Live c1.h id∧d.β (id+k)=c1.β id):∀(xs:List AV) (b o:Nat),Cells c1 L1 xs b o→Cells d L1 (fG k xs) b o
 | [],_,_,_=>trivial
 | x::xs,b,o,h=>by
  obtain⟨⟨v,h1,h2,h3⟩,h4⟩:=h
  unfold fG
  cases hx:cR k x with
  | none=>trivial
  | some y=>exact⟨⟨v,by rw [hw]; exact h1,h2,sh hw hn hl x y v hx h3⟩,qu hw hn hl xs b (o+1) h4⟩
end
theorem si (k:Nat):∀xs:List AV,(fG k xs).length≤xs.length
 | []=>Vv _
 | x::xs=>by
  unfold fG
  cases cR k x with
  | none=>exact Wg _
  | some y=>exact Nat.succ_le_succ (si k xs)
theorem jf {h h1:AHeap}{i:Nat}(hi:i<h.next):(h.eM h1).get i=h.get i∧(h.eM h1).ver i=h.ver i:=by
 have:Nat.blt i h.next=true:=by rw [Nat.blt_eq]; exact hi
 simp only [AHeap.eM,this,cond_true,and_self]
theorem jQ {h h1:AHeap}{i:Nat}(hi:h.next≤i):(h.eM h1).get i=(h1.get (i - h.next)).bind (yP h.next)∧(h.eM h1).ver i=h.next+h1.ver (i - h.next):=by
 have:Nat.blt i h.next=false:=by
  cases hb:Nat.blt i h.next with
  | false=>rfl
  | true=>rw [Nat.blt_eq] at hb; omega
 simp only [AHeap.eM,this,cond_false,and_self]
theorem Steady.eM {h h1:AHeap}(hw:∀id,h1.ver id<h1.next):Steady h (h.eM h1):=by
 refine⟨Nat.le_add_right _ _,fun i=>?_,fun hv i=>?_⟩
 ·by_cases hi:i<h.next
  ·exact .inl ⟨(jf hi).2,(jf hi).1⟩
  ·right; rw [(jQ (VV hi)).2]; exact Nat.le_add_right _ _
 ·show _<h.next+h1.next
  by_cases hi:i<h.next
  ·rw [(jf hi).2]; have:=hv i; omega
  ·rw [(jQ (VV hi)).2]; have:=hw (i - h.next); omega
theorem DN {cf:CallF}(hcf:CallOK P cf)(deep:Nat):CallOK P fun f args h=>(br h deep args).bind fun us=>(cf f us bz).bind fun x=>(cR h.next x.1).map fun r=>(r,h.eM x.2):=by
 intro f args h r h' hc
 dsimp only at hc
 simp only [Vp,Vr,Vz] at hc
 obtain⟨us,has,⟨x,h1⟩,hx,r',hr,rfl,rfl⟩:=hc
 obtain⟨hin,hcall⟩:=hcf f us bz x h1 hx
 refine⟨hin,fun L0 c vs hh hb0 hrel hargs=>?_⟩
 let c0:Cx:=⟨fun _=>(0,0),bz,c.w,c.w.heap.size⟩
 have hnl:∀id,¬Live c0.h id:=fun id hl=>by have:=hl.2; cases this
 have DM:∀b,RO c L0 b→RO c0 L0 b:=fun b hb=>⟨fun id hl=>absurd hl (hnl id),hb.2⟩
 have sf:HRel c0 L0:=⟨fun id o ho=>(by cases ho),fun id o ho=>(by cases ho),fun id _ hl _ _=>absurd hl (hnl id),fun id hl=>absurd hl (hnl id),hrel.bd,fun id hl=>absurd hl (hnl id),fun _=>WM⟩
 have sg:VRs c0 L0 us vs:=ir (c:=c) (d:=c0) rfl DM hrel (fun id hl=>⟨fun kn n6=>absurd n6 (hnl kn),hrel.out id hl⟩) deep args us vs (by rw [hh]; exact has) hargs
 refine (hcall L0 c0 vs rfl (Vv _) sf sg).mono ?_
 rintro e w' ⟨c1,v,rfl,rfl,Kc,hv,hrel1,e1⟩
 let d:Cx:=⟨fun i=>if i<c.h.next then c.β i else c1.β (i - c.h.next),c.h.eM c1.h,c1.w,c.base⟩
 have hk:∀b,b<c.w.heap.size→c1.w.heap[b]? = c.w.heap[b]?:=fun b hb=>e1.exact b hb
 have p8:∀i,i<c.h.next→Live d.h i→Live c.h i:=fun i hi hl=>⟨hi,by have:=hl.2; rw [show d.h.get i=_ from (jf hi).1] at this; exact this⟩
 have HK:∀i,c.h.next≤i→Live d.h i→Live c1.h (i - c.h.next):=fun i hi hl=>by
  have h2:=hl.2
  rw [show d.h.get i=_ from (jQ hi).1] at h2
  cases hg:c1.h.get (i - c.h.next) with
  | none=>rw [hg] at h2; cases h2
  | some o=>exact⟨hrel1.lt _ _ hg,by rw [hg]; rfl⟩
 have Gy:∀i,i<c.h.next→d.β i=c.β i:=fun i hi=>if_pos hi
 have DO:∀i,c.h.next≤i→d.β i=c1.β (i - c.h.next):=fun i hi=>if_neg (by omega)
 have Gz:∀i,Live c1.h i→c.w.heap.size≤(c1.β i).1:=fun i hl=>by
  rcases e1.Ge i hl with h2 | ⟨pt,h2,_⟩
  ·exact h2
  ·exact absurd h2 (hnl pt)
 have ed:Ext c none0 d none0:=⟨Nat.le_add_right _ _,fun id hi hl=>⟨p8 id hi hl,Gy id hi,gX.len (c:=c) (c':=d) (.inl (hk _ (hrel.block (p8 id hi hl))))⟩,e1.size,fun b hb _ _=>.inl (hk b hb),fun b hb=>hk b (VP hb hb0),rfl,fun id hl=>by
  by_cases hi:id<c.h.next
  ·exact .inr ⟨id,p8 id hi hl,by rw [Gy id hi]⟩
  ·rw [DO id (VV hi)]
   exact .inl (Gz _ (HK id (VV hi) hl)),fun _ h=>h,fun _ h=>.inl h,e1.os,e1.tape,e1.output⟩
 have gn:∀id,id<c1.h.next→id+c.h.next<d.h.next:=fun id hi=>by show _<c.h.next+c1.h.next; omega
 have gl:∀id,Live d.h (id+c.h.next)→Live c1.h id∧d.β (id+c.h.next)=c1.β id:=fun id hl=>by
  have a:=HK (id+c.h.next) (Nat.le_add_left _ _) hl
  have b:=DO (id+c.h.next) (Nat.le_add_left _ _)
  rw [Nat.add_sub_cancel] at a b
  exact⟨a,b⟩
 refine⟨d,v,rfl,rfl,?_,?_,⟨fun id o ho=>?_,fun id o ho=>?_,fun id kn hl n6 he=>?_,fun id hl=>?_,fun b hb=>VP (hrel.bd b hb) e1.size,fun id hl=>?_,fun id=>?_⟩,ed⟩
 ·show c.h.eM c1.h=h.eM h1
  rw [hh,Kc]
 ·refine sh (c1:=c1) (d:=d) (k:=c.h.next) rfl gn gl x r' v ?_ hv
  rw [hh]; exact hr
 ·show id<c.h.next+c1.h.next
  by_cases hi:id<c.h.next
  ·omega
  ·rw [show d.h.get id=_ from (jQ (VV hi)).1,Vp] at ho
   obtain⟨o1,HC,_⟩:=ho
   have:=hrel1.lt _ _ HC
   omega
 ·by_cases hi:id<c.h.next
  ·rw [show d.h.get id=_ from (jf hi).1] at ho
   have hl:Live c.h id:=⟨hi,by rw [ho]; rfl⟩
   have:=(hrel.obj id o ho)
   have h2:=ot.ext (L0:=L0) ed (b:=(c.β id).1) (base:=(c.β id).2) (o:=o) (by rw [hH]; exact this) (hk _ (hrel.block hl))
   rw [hH] at h2
   rw [Gy id hi]
   exact h2
  ·rw [show d.h.get id=_ from (jQ (VV hi)).1,Vp] at ho
   obtain⟨o1,HC,ho⟩:=ho
   rw [DO id (VV hi)]
   cases o1 with
   | map es=>cases ho
   | row t cs=>cases ho
   | cells cs=>
    simp only [yP,Vt] at ho
    subst ho
    obtain⟨n,g1,g2,g3⟩:=hrel1.obj _ _ HC
    exact⟨n,g1,We (Nat.add_le_add_left (si _ _) _) g2,qu (c1:=c1) (d:=d) rfl gn gl cs _ _ g3⟩
 ·by_cases hi:id<c.h.next<;>by_cases jI:kn<c.h.next
  ·rw [Gy id hi,Gy kn jI] at he
   exact hrel.inj id kn (p8 id hi hl) (p8 kn jI n6) he
  ·rw [Gy id hi,DO kn (VV jI)] at he
   have a:=hrel.block (p8 id hi hl)
   have b:=Gz _ (HK kn (VV jI) n6)
   omega
  ·rw [DO id (VV hi),Gy kn jI] at he
   have a:=hrel.block (p8 kn jI n6)
   have b:=Gz _ (HK id (VV hi) hl)
   omega
  ·rw [DO id (VV hi),DO kn (VV jI)] at he
   have:=hrel1.inj _ _ (HK id (VV hi) hl) (HK kn (VV jI) n6) he
   omega
 ·by_cases hi:id<c.h.next
  ·rw [Gy id hi]; exact hrel.out id (p8 id hi hl)
  ·rw [DO id (VV hi)]; exact hrel1.out _ (HK id (VV hi) hl)
 ·show c.base≤_
  by_cases hi:id<c.h.next
  ·rw [Gy id hi]; exact hrel.low id (p8 id hi hl)
  ·rw [DO id (VV hi)]; exact We hb0 (Gz _ (HK id (VV hi) hl))
 ·show _<c.h.next+c1.h.next
  by_cases hi:id<c.h.next
  ·rw [show d.h.ver id=_ from (jf hi).2]; have:=hrel.ver id; omega
  ·rw [show d.h.ver id=_ from (jQ (VV hi)).2]; have:=hrel1.ver (id - c.h.next); omega
theorem lz {T:nu}(qv:IntrOK P T.intr)(m:Nat):∀k,SteadyF (eO P T m k)
 | 0=>fun f args h r h' hc=>by simp [eO] at hc
 | k+1=>fun f args h r h' hc=>by
  have hb:=va (P:=P) (aX:=T.aX) (m:=m) (lz qv m k)
  simp only [eO] at hc
  split at hc
  ·rename_i g hg
   exact (qv f g hg).2 _ _ _ _ hc
  ·split at hc
   ·split at hc
    ·simp only [Vp] at hc
     obtain⟨us,_,x,hx,hc⟩:=hc
     obtain⟨r',_,h2⟩:=Option.map_some' hc
     cases h2
     exact Steady.eM ((hb _ _ _ _ _ hx).wf fun _=>WM)
    split at hc
    ·rw [Vp] at hc
     obtain⟨x,_,hc⟩:=hc
     obtain⟨r',_,h2⟩:=Option.map_some' hc
     cases h2
     exact Steady.refl _
    ·split at hc
     ·rw [Vp] at hc
      obtain⟨x,_,hc⟩:=hc
      obtain⟨r',_,h2⟩:=Option.map_some' hc
      cases h2
      exact Steady.refl _
     ·exact hb _ _ _ _ _ hc
   ·exact hb _ _ _ _ _ hc
theorem oK (hP:Fit P){T:nu}(qv:IntrOK P T.intr)(m:Nat):∀k,CallOK P (eO P T m k)
 | 0=>fun f args h r h' hc=>by simp [eO] at hc
 | k+1=>fun f args h r h' hc=>by
  have ih:=oK hP qv m k
  have hb:=wT hP (aX:=T.aX) ih (wY hP.mixed ih (lz qv m k)) m
  simp only [eO] at hc
  split at hc
  ·rename_i g hg
   exact (qv f g hg).1 f args h r h' (by simpa using hc)
  ·split at hc
   ·rename_i deep _
    split at hc
    ·exact DN hb deep f args h r h' hc
    by_cases wi:cJ args=true
    ·exact Gw hb deep f args h r h' (by dsimp only; rw [if_pos wi] at hc ⊢; exact hc)
    ·rw [if_neg wi] at hc
     split at hc
     ·rename_i as has
      refine Gx hb deep f args h r h' ?_
      dsimp only
      rw [has]
      exact hc
     ·exact w0 hb f args h r h' hc
   ·exact w0 hb f args h r h' hc
def Lb (P : Program) : Bool := P.funcs.toList.all fun fn => fn.name != "runtime.NumGoroutine" && match fn.body with | some c => ki fn.ntmps c | none => true
theorem IF (h1:P.follows .mixedOrders=true)(h2:Lb P=true):Fit P:=by
 refine⟨h1,fun f fn c hf hb=>?_⟩
 unfold Lb at h2
 rw [VK] at h2
 have:=h2 fn (Wj.2 (Array.mem_of_getElem? hf))
 rw [hb] at this
 simp only [Vu,bne_iff_ne,ne_eq] at this
 exact⟨this.2,this.1⟩
theorem mY:IntrOK P fun _=>none:=fun f g h=>by cases h
end
end Go.R
