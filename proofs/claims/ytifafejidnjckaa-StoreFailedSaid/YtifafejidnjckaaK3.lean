/- Part of the proof: RLocal, RSteady, RDraw, RPure. -/
import Derived.Test.YtifafejidnjckaaK2
import Derived.StillTail
set_option linter.unusedVariables false
set_option linter.unusedSimpArgs false
set_option maxRecDepth 100000
open Array renaming getElem?_eq_some_iff → UL, mem_toList_iff → U5
open Bool renaming and_eq_true → Ui, false_eq_true → Up, or_eq_true → UY, not_true → Vd, not_eq_true' → Vl
open List renaming getElem?_append_left → Uu, all_eq_true → Uy, mem_append → UJ, getElem?_eq_none → UN, mem_map → US, getElem?_cons_zero → UW, range → VG, map_congr_left → VM
open Nat renaming le_refl → Uj, zero_add → UC, lt_of_lt_of_le → UD, le_of_not_lt → UI, le_trans → U1, zero_le → U8, add_assoc → Va, eq_of_beq_eq_true → Vf, min_eq_left → VA, zero_lt_one → VB, add_comm → VH
open Option renaming bind_eq_some_iff → Ud, bind_some → Ue, map_eq_some_iff → Ug, map_some → Uk, getD_some → U7
open Option.some renaming injEq → Uh, inj → UZ
open Prod.mk renaming injEq → Um
namespace Go.R
open Go
def RS.shift (s2:RS)(f:kh)(d:Option Nat)(s':RS):RS:=
 {ρ:=match d with | none=>s2.ρ | some d=>fun t=>if t=d then s'.ρ d else s2.ρ t
  bx:=match f.wb with | none=>s2.bx | some k=>fun t=>if t=k then s'.bx k else s2.bx t
  h:=if f.wh then s'.h else s2.h}
theorem RS.ext' {s t:RS}(h1:∀i,s.ρ i=t.ρ i)(h2:∀i,s.bx i=t.bx i)(h3:s.h=t.h):s=t:=by
 cases s; cases t
 congr
 ·exact funext h1
 ·exact funext h2
theorem hX (s s2:RS)(f:kh)(d:Option Nat)(z:AV)(hw:f.wb=none)(hh:f.wh=false):s2.set d z=s2.shift f d (s.set d z):=by
 refine RS.ext' (fun i=>?_) (fun i=>?_) ?_
 ·cases d with
  | none=>rfl
  | some d=>simp only [tg,RS.shift,if_true]
 ·simp only [RS.shift,hw]; cases d<;>rfl
 ·simp only [RS.shift,hh]; cases d<;>rfl
theorem iQ (s:RS)(d:Option Nat)(z:AV):(s.set d z).h=s.h:=by cases d<;>rfl
theorem HM (s:RS)(d:Option Nat)(z:AV):(s.set d z).bx=s.bx:=by cases d<;>rfl
theorem CZ (s:RS)(k i:Nat)(cs:List AV):(s.box k cs).bx i=if i=k then some cs else s.bx i:=by
 simp only [RS.box,beq_nat]
 by_cases h:i=k<;>simp [h]
theorem gr (s s2:RS)(f:kh)(d:Option Nat)(z:AV)(h':AHeap)(hw:f.wb=none)(hh:f.wh=true):({s2 with h:=h'}:RS).set d z=s2.shift f d (({s with h:=h'}:RS).set d z):=by
 refine RS.ext' (fun i=>?_) (fun i=>?_) ?_
 ·cases d with
  | none=>rfl
  | some d=>simp only [tg,RS.shift,if_true]
 ·simp only [RS.shift,hw]; cases d<;>rfl
 ·simp only [RS.shift,hh]; cases d<;>rfl
theorem Bs (s s2:RS)(f:kh)(k:Nat)(cs:List AV)(hw:f.wb=some k)(hh:f.wh=false):s2.box k cs=s2.shift f none (s.box k cs):=by
 refine RS.ext' (fun i=>rfl) (fun i=>?_) ?_
 ·simp only [CZ,RS.shift,hw,if_true]
 ·simp only [RS.shift,hh]; rfl
section
variable {P:Program}{cf:CallF}{aE ds:List Nat}{o:Oper}{s s' s2:RS}
theorem nW {cs:List AV}{f:kh}(h:gX s aE ds o cs=some s')(hf:f=(match o.dst with
  | some d=>if aE.contains d then {wb:=some d,al:=true} else {wh:=true}
  | none=>{})) (hh:f.wh=true→s2.h=s.h) (nI:f.al=true→∀d,o.dst=some d→q8 d s2.ρ (ds.filter fun t=>!Nat.beq t d)=true) :
  gX s2 aE ds o cs=some (s2.shift f o.dst s'):=by
 unfold gX at h ⊢
 split at h
 rotate_left
 ·cases h
 rename_i nH
 rw [if_pos nH]
 cases hd:o.dst with
 | none=>rw [hd] at h; cases h
 | some d=>
  rw [hd] at h hf
  simp only at h hf ⊢
  by_cases hl:aE.contains d=true
  ·rw [if_pos hl] at h hf ⊢
   subst hf
   split at h
   rotate_left
   ·cases h
   cases h
   rw [if_pos (nI rfl d hd)]
   congr 1
   refine RS.ext' (fun i=>?_) (fun i=>?_) ?_
   ·simp only [tg,RS.shift,if_true]; rfl
   ·simp only [HM,CZ,RS.shift,if_true]
   ·simp only [iQ,RS.shift]; rfl
  ·rw [if_neg hl] at h hf ⊢
   subst hf
   cases h
   rw [hh rfl]
   congr 1
   exact gr s s2 {wh:=true} (some d) _ _ rfl rfl
theorem tz {e:Operand→AV}(h:xX P cf aE ds e s o=some s')(hb:∀k∈(bb aE e o).rb,s2.bx k=s.bx k)(hr:∀id∈(bb aE e o).rh,s2.h.get id=s.h.get id)
  (hh:(bb aE e o).wh=true→s2.h=s.h) (nI:(bb aE e o).al=true→∀d,o.dst=some d→q8 d s2.ρ (ds.filter fun t=>!Nat.beq t d)=true) :
  xX P cf aE ds e s2 o=some (s2.shift (bb aE e o) o.dst s'):=by
 have dP:∀{x x2:Option AV} (f:kh),(x.map fun x=>s.set o.dst x)=some s'→(x2=x)→f.wb=none→f.wh=false→(x2.map fun x=>s2.set o.dst x)=some (s2.shift f o.dst s'):=by
  intro x x2 f hx h2 h3 h4
  obtain⟨z,rfl,rfl⟩:=Option.map_some' hx
  subst h2
  simp only [Uk]
  rw [←hX s s2 f o.dst z h3 h4]
 have we:∀{α:Type} {x x2:Option α} (f:kh) (g:α→AV) (k:α→AHeap),(x.map fun y=>({s with h:=k y}:RS).set o.dst (g y))=some s'→(x2=x)→f.wb=none→f.wh=true→
   (x2.map fun y=>({s2 with h:=k y}:RS).set o.dst (g y))=some (s2.shift f o.dst s'):=by
  intro α x x2 f g k hx h2 h3 h4
  obtain⟨z,rfl,rfl⟩:=Option.map_some' hx
  subst h2
  simp only [Uk]
  rw [←gr s s2 f o.dst (g z) (k z) h3 h4]
 unfold xX at h ⊢
 dsimp only at h ⊢
 split at h
 ·rename_i x ho; cases h; simp only [Uh]; exact hX s s2 _ _ _ (by simp [bb,ho]) (by simp [bb,ho])
 ·rename_i x ho; cases h; simp only [Uh]; exact hX s s2 _ _ _ (by simp [bb,ho]) (by simp [bb,ho])
 ·rename_i k x y ho
  obtain⟨t,ht,rfl⟩:=Option.map_some' h
  simp only [ht,Uk,Uh]
  exact hX s s2 _ _ _ (by simp [bb,ho]) (by simp [bb,ho])
 ·rename_i t ho
  rw [Ud] at h
  obtain⟨z,hz,h⟩:=h
  simp only [hz,Ue]
  exact nW h (by simp only [bb,ho]; rfl) hh nI
 ·rename_i t x ho
  exact nW h (by simp only [bb,ho]; rfl) hh nI
 ·rename_i t ps ho; exact dP _ h rfl (by simp [bb,ho]) (by simp [bb,ho])
 ·rename_i t k ps ho
  obtain⟨z,hz,rfl⟩:=Option.map_some' h
  simp only [hz,Uk,Uh]
  have hf:bb aE e o=(match o.dst with | some d=>if aE.contains d then {wh:=true} else {} | none=>{}):=by simp only [bb,ho]; rfl
  unfold oU
  cases HF:nj P aE o t z with
  | none=>
   simp only
   cases hd:o.dst with
   | none=>rw [hd] at hf; rw [hf]; exact hX s s2 _ none _ rfl rfl
   | some d=>
    rw [hd] at hf
    simp only at hf
    by_cases hl:aE.contains d=true
    ·rw [if_pos hl] at hf
     have h2:=hh (by rw [hf])
     rw [hf]
     have h3:=gr s s2 {wh:=true} (some d) z s2.h rfl rfl
     refine h3.trans ?_
     rw [h2]
    ·rw [if_neg hl] at hf
     rw [hf]; exact hX s s2 _ _ _ rfl rfl
  | some q=>
   obtain⟨d,hd,hl⟩:∃d,o.dst=some d∧aE.contains d=true:=by
    unfold nj at HF
    split at HF
    ·rename_i d _ _ _ hd
     refine⟨d,hd,?_⟩
     cases hc:aE.contains d with
     | false=>rw [hc] at HF; cases HF
     | true=>rfl
    ·cases HF
   rw [hd] at hf
   simp only [hl,if_true] at hf
   rw [hf] at hh ⊢
   simp only [hh rfl]
   exact gr s s2 _ _ _ _ rfl rfl
 ·
  rename_i t x ho
  have hf:bb aE e o=(match e x with | .lp k _=>{rb:=[k]} | .ptr id _=>{rh:=[id]} | _=>{}):=by simp only [bb,ho]; rfl
  refine dP _ h ?_ ?_ ?_
  ·rw [hf] at hb hr
   unfold jl
   cases hx:e x<;>rw [hx] at hb hr<;>try rfl
   ·simp only; rw [hr _ (by simp)]
   ·simp only; rw [hb _ (by simp)]
  ·rw [hf]; cases e x<;>rfl
  ·rw [hf]; cases e x<;>rfl
 ·
  rename_i t x y ho
  have hf:bb aE e o=(match e x with | .lp k _=>{rb:=[k],wb:=some k} | _=>{wh:=true}):=by simp only [bb,ho]; rfl
  try simp only at h ⊢
  split at h
  ·cases h
  rename_i hd
  rw [if_neg hd]
  have Ff:o.dst=none:=by simpa using hd
  cases hx:e x<;>rw [hx] at h hf<;>simp only at h hf ⊢<;>try (cases h; done)
  ·rename_i id off
   rw [hf] at hh ⊢
   rw [Ud] at h
   obtain⟨ob,hob,h⟩:=h
   rw [hh rfl,hob]
   cases ob with
   | map es=>cases h
   | row t cs=>cases h
   | cells cs=>
    obtain⟨eS,hcs,rfl⟩:=Option.map_some' h
    simp only [Ue,hcs,Uk,Ff,Uh]
    exact gr s s2 {wh:=true} none .any _ rfl rfl
  ·rename_i k off
   rw [hf] at hb ⊢
   rw [Ud] at h
   obtain⟨cs,hcs,h⟩:=h
   rw [hb k (by simp),hcs]
   obtain⟨eS,MK,rfl⟩:=Option.map_some' h
   simp only [Ue,MK,Uk,Ff,Uh]
   exact Bs s s2 _ k eS rfl rfl
 ·rename_i ho; exact dP _ h rfl (by simp [bb,ho]) (by simp [bb,ho])
 ·rename_i ho; exact dP _ h rfl (by simp [bb,ho]) (by simp [bb,ho])
 ·rename_i ho; exact dP _ h rfl (by simp [bb,ho]) (by simp [bb,ho])
 ·
  rename_i a b x ho
  have hf:bb aE e o=(match e x with | .rs id _ _ _=>{rh:=[id]} | _=>{}):=by simp only [bb,ho]; rfl
  refine dP _ h ?_ ?_ ?_
  ·have hc:dY s2.h 1 (e x)=dY s.h 1 (e x):=by
    rw [hf] at hr
    unfold dY
    cases hx:e x<;>rw [hx] at hr<;>try rfl
    simp only; rw [hr _ (by simp)]
   unfold lI
   rw [hc]
  ·rw [hf]; cases e x<;>rfl
  ·rw [hf]; cases e x<;>rfl
 ·rename_i yl first cap ho
  try simp only
  split at h
  ·rename_i hc
   rw [if_pos hc]
   exact dP _ h rfl (by simp [bb,ho]) (by simp [bb,ho])
  ·cases h
 ·rename_i ho
  have hf:(bb aE e o).wh=true:=by simp [bb,ho]
  cases h
  simp only [hh hf,Uh]
  exact gr s s2 _ _ _ _ (by simp [bb,ho]) hf
 ·rename_i t l c ho
  have hf:(bb aE e o).wh=true:=by simp [bb,ho]
  exact we _ (fun y:AV × AHeap=>y.1) (fun y=>y.2) h (by simp only [hh hf]) (by simp [bb,ho]) hf
 ·rename_i ho; exact dP _ h rfl (by simp [bb,ho]) (by simp [bb,ho])
 ·rename_i ho; exact dP _ h rfl (by simp [bb,ho]) (by simp [bb,ho])
 ·rename_i ho; exact dP _ h rfl (by simp [bb,ho]) (by simp [bb,ho])
 ·rename_i ho; exact dP _ h rfl (by simp [bb,ho]) (by simp [bb,ho])
 ·rename_i ho; exact dP _ h rfl (by simp [bb,ho]) (by simp [bb,ho])
 ·
  rename_i t m k ok ho
  have hf:bb aE e o=(match e m with | .mp id=>{rh:=[id]} | _=>{}):=by simp only [bb,ho]; rfl
  refine dP _ h ?_ ?_ ?_
  ·rw [hf] at hr
   unfold fI
   cases hx:e m<;>rw [hx] at hr<;>try rfl
   simp only; rw [hr _ (by simp)]
  ·rw [hf]; cases e m<;>rfl
  ·rw [hf]; cases e m<;>rfl
 ·rename_i t m k x ho
  have hf:(bb aE e o).wh=true:=by simp [bb,ho]
  try simp only at h ⊢
  split at h
  ·cases h
  rename_i hd
  rw [if_neg hd]
  have Ff:o.dst=none:=by simpa using hd
  obtain⟨h',hm,rfl⟩:=Option.map_some' h
  simp only [hh hf,hm,Uk,Ff,Uh]
  exact gr s s2 _ none .any _ (by simp [bb,ho]) hf
 ·rename_i t m k x ho
  have hf:(bb aE e o).wh=true:=by simp [bb,ho]
  try simp only at h ⊢
  split at h
  ·cases h
  rename_i hd
  rw [if_neg hd]
  have Ff:o.dst=none:=by simpa using hd
  obtain⟨h',hm,rfl⟩:=Option.map_some' h
  simp only [hh hf,hm,Uk,Ff,Uh]
  exact gr s s2 _ none .any _ (by simp [bb,ho]) hf
 ·rename_i ho; exact dP _ h rfl (by simp [bb,ho]) (by simp [bb,ho])
 ·
  rename_i b args zu ho
  try simp only
  unfold fC at h ⊢
  generalize hargs:args.toList.map e=as at h ⊢
  generalize zu.toList=ts at h ⊢
  split at h
  ·rename_i t x
   try simp only
   have hf:bb aE e o=(match x with | .mp id=>{rh:=[id]} | _=>{}):=by
    simp only [bb,ho,hargs]
    cases x<;>rfl
   refine dP _ h ?_ ?_ ?_
   ·rw [hf] at hr
    unfold q7
    cases x<;>try rfl
    simp only; rw [hr _ (by simp)]
   ·rw [hf]; cases x<;>rfl
   ·rw [hf]; cases x<;>rfl
  ·try simp only
   have hf:(bb aE e o).wh=true∧(bb aE e o).wb=none:=by simp only [bb,ho,hargs]; simp
   exact we _ (fun y:AV × AHeap=>y.1) (fun y=>y.2) h (by simp only [hh hf.1]) hf.2 hf.1
  ·try simp only
   have hf:(bb aE e o).wh=true∧(bb aE e o).wb=none:=by simp only [bb,ho,hargs]; simp
   exact we _ (fun y:AV × AHeap=>y.1) (fun y=>y.2) h (by simp only [hh hf.1]) hf.2 hf.1
  ·try simp only
   have hf:(bb aE e o).wh=true∧(bb aE e o).wb=none:=by simp only [bb,ho,hargs]; simp
   exact we _ (fun _:AHeap=>.tup []) (fun y=>y) h (by simp only [hh hf.1]) hf.2 hf.1
  ·try simp only
   rw [Ud] at h
   obtain⟨v,hv,h⟩:=h
   rw [Ud] at h
   obtain⟨vs,Cj,h⟩:=h
   rw [Ud] at h
   obtain⟨u,hu,h⟩:=h
   simp only [hv,Cj,hu,Ue]
   exact dP _ h rfl (by simp [bb,ho]) (by simp [bb,ho])
  ·try simp only
   rw [Ud] at h
   obtain⟨v,hv,h⟩:=h
   rw [Ud] at h
   obtain⟨vs,Cj,h⟩:=h
   rw [Ud] at h
   obtain⟨u,hu,h⟩:=h
   simp only [hv,Cj,hu,Ue]
   exact dP _ h rfl (by simp [bb,ho]) (by simp [bb,ho])
  ·cases h
 ·
  rename_i fx args zu ho
  have hf:(bb aE e o).wh=true∧(bb aE e o).wb=none:=by simp [bb,ho]
  try simp only
  cases hx:e fx<;>rw [hx] at h<;>simp only at h ⊢<;>try (cases h; done)
  rename_i yl cap
  split at h
  ·rename_i ha
   rw [if_pos ha]
   exact we _ (fun y:AV × AHeap=>y.1) (fun y=>y.2) h (by simp only [hh hf.1]) hf.2 hf.1
  ·cases h
 ·cases h
end
end Go.R
namespace Go.R
open Go
def SteadyF (cf:CallF):Prop:=∀f args h r h',cf f args h=some (r,h')→Steady h h'
section
variable {P:Program}{cf:CallF}{aE ds:List Nat}{o:Oper}{s s':RS}
theorem rG {h h':AHeap}{t t2:TypeId}{x y z:AV}(hh:dy P h t t2 x y=some (z,h')):Steady h h':=by
 unfold dy at hh
 rw [Ud] at hh
 obtain⟨d,_,hh⟩:=hh
 cases d<;>simp only at hh<;>try (cases hh; done)
 rw [Ud] at hh
 obtain⟨i,_,hh⟩:=hh
 rw [Ud] at hh
 obtain⟨⟨new,m⟩,_,hh⟩:=hh
 simp only at hh
 split at hh
 ·cases hh
 split at hh
 ·split at hh
  ·cases hh
  ·split at hh<;>cases hh
   ·exact Steady.refl _
   ·exact Steady.put _ _ _
 ·split at hh
  ·cases hh
  ·split at hh
   ·split at hh<;>cases hh<;>exact Steady.refl _
   ·cases hh; exact Steady.put _ _ _
 ·split at hh
  ·split at hh
   ·cases hh
   ·split at hh<;>cases hh
    ·exact Steady.refl _
    ·exact Steady.put _ _ _
  rw [Ud] at hh
  obtain⟨ob,_,hh⟩:=hh
  cases ob with
  | map es=>cases hh
  | row t cs=>cases hh
  | cells cs=>
   simp only at hh
   split at hh
   ·cases hh
   ·split at hh<;>cases hh
    ·exact Steady.refl _
    ·exact (Steady.kill _ _).trans (Steady.put _ _ _)
 ·cases hh
theorem uB {h h':AHeap}{t t2:TypeId}{x y z:AV}(hh:pJ P h t t2 x y=some (z,h')):Steady h h':=by
 unfold pJ at hh
 rw [Ud] at hh
 obtain⟨d,_,hh⟩:=hh
 cases d<;>simp only at hh<;>try (cases hh; done)
 rw [Ud] at hh
 obtain⟨i,_,hh⟩:=hh
 rw [Ud] at hh
 obtain⟨⟨new,m⟩,_,hh⟩:=hh
 simp only at hh
 split at hh
 ·cases hh
 split at hh
 ·split at hh
  ·split at hh<;>cases hh
   exact Steady.refl _
  rw [Ud] at hh
  obtain⟨ob,_,hh⟩:=hh
  cases ob with
  | map es=>cases hh
  | row t cs=>cases hh
  | cells cs=>
   simp only at hh
   split at hh<;>cases hh
   exact Steady.put _ _ _
 ·split at hh<;>cases hh
  exact Steady.refl _
 ·cases hh
theorem sP {h h':AHeap}{t:TypeId}{x:AV}(hh:kL P h t x=some h'):Steady h h':=by
 unfold kL at hh
 rw [Ud] at hh
 obtain⟨d,_,hh⟩:=hh
 cases x<;>simp only at hh<;>try (cases hh; done)
 ·split at hh
  ·cases hh; exact Steady.refl _
  split at hh
  ·cases hh
  cases d<;>simp only at hh<;>try (cases hh; done)
  simp only [Ud] at hh
  obtain⟨i,_,z,_,ob,_,hh⟩:=hh
  cases ob with
  | map es=>cases hh
  | row t cs=>cases hh
  | cells cs=>
   simp only at hh
   split at hh
   ·cases hh; exact Steady.put _ _ _
   ·cases hh
 ·cases hh; exact Steady.refl _
 ·rw [Ud] at hh
  obtain⟨ob,_,hh⟩:=hh
  cases ob with
  | cells cs=>cases hh
  | row t cs=>cases hh
  | map es=>cases hh; exact Steady.put _ _ _
theorem wg {aE:List Nat}{d:Option Nat}{x y:AV × AHeap}(hz:uf aE d x=some y):Steady x.2 y.2:=by
 unfold uf at hz
 cases hm:JI aE d with
 | true=>rw [hm,cond_true] at hz; exact lQ hz
 | false=>rw [hm,cond_false] at hz; cases hz; exact Steady.refl _
theorem lU {h h':AHeap}{t:TypeId}{x y z:AV}(hh:ik P h t x y z=some h'):Steady h h':=by
 unfold ik at hh
 rw [Ud] at hh
 obtain⟨d,_,hh⟩:=hh
 cases d<;>simp only at hh<;>try (cases hh; done)
 split at hh
 ·cases hh
 cases x<;>simp only at hh<;>try (cases hh; done)
 rw [Ud] at hh
 obtain⟨ob,_,hh⟩:=hh
 cases ob with
 | cells cs=>cases hh
 | row t cs=>cases hh
 | map es=>
  obtain⟨pI,_,rfl⟩:=Option.map_some' hh
  exact Steady.put _ _ _
theorem nX {h h':AHeap}{t:TypeId}{x y z:AV}(hh:gp P h t x y=some (z,h')):Steady h h':=by
 unfold gp at hh
 split at hh
 ·rw [Ud] at hh
  obtain⟨d,_,hh⟩:=hh
  cases d<;>simp only at hh<;>try (cases hh; done)
  rw [Ud] at hh
  obtain⟨i,_,hh⟩:=hh
  rw [Ud] at hh
  obtain⟨z,_,hh⟩:=hh
  split at hh<;>cases hh
  exact Steady.put _ _ _
 ·cases hh
theorem mX {cs:List AV}(h:gX s aE ds o cs=some s'):Steady s.h s'.h:=by
 unfold gX at h
 split at h
 rotate_left
 ·cases h
 split at h
 ·split at h
  ·split at h<;>cases h
   rw [iQ]; exact Steady.refl _
  ·cases h
   rw [iQ]; exact Steady.put _ _ _
 ·cases h
theorem rH (hcf:SteadyF cf){e:Operand→AV}(h:xX P cf aE ds e s o=some s'):Steady s.h s'.h:=by
 have dP:∀{x:Option AV},(x.map fun x=>s.set o.dst x)=some s'→Steady s.h s'.h:=by
  intro x hx
  obtain⟨z,rfl,rfl⟩:=Option.map_some' hx
  rw [iQ]; exact Steady.refl _
 unfold xX at h
 dsimp only at h
 split at h
 ·cases h; rw [iQ]; exact Steady.refl _
 ·cases h; rw [iQ]; exact Steady.refl _
 ·obtain⟨z,_,rfl⟩:=Option.map_some' h; rw [iQ]; exact Steady.refl _
 ·rw [Ud] at h
  obtain⟨z,_,h⟩:=h
  exact mX h
 ·exact mX h
 ·exact dP h
 ·obtain⟨z,hz,rfl⟩:=Option.map_some' h
  unfold oU
  split
  ·rw [iQ]; exact Steady.refl _
  ·rw [iQ]; exact Steady.put _ _ _
 ·exact dP h
 ·split at h
  ·cases h
  split at h
  ·rw [Ud] at h
   obtain⟨cs,_,h⟩:=h
   obtain⟨z,_,rfl⟩:=Option.map_some' h
   exact Steady.refl _
  ·rw [Ud] at h
   obtain⟨ob,_,h⟩:=h
   cases ob with
   | map es=>cases h
   | row t cs=>cases h
   | cells cs=>
    obtain⟨z,_,rfl⟩:=Option.map_some' h
    exact Steady.put _ _ _
  ·cases h
 ·exact dP h
 ·exact dP h
 ·exact dP h
 ·exact dP h
 ·split at h
  ·exact dP h
  ·cases h
 ·cases h; rw [iQ]; exact Steady.put _ _ _
 ·obtain⟨⟨z,h'⟩,hz,rfl⟩:=Option.map_some' h
  rw [iQ]; exact nX hz
 ·exact dP h
 ·exact dP h
 ·exact dP h
 ·exact dP h
 ·exact dP h
 ·exact dP h
 ·split at h
  ·cases h
  obtain⟨h',hz,rfl⟩:=Option.map_some' h
  exact lU hz
 ·split at h
  ·cases h
  obtain⟨h',hz,rfl⟩:=Option.map_some' h
  exact lU hz
 ·exact dP h
 ·unfold fC at h
  split at h
  ·exact dP h
  ·obtain⟨⟨z,h'⟩,hz,rfl⟩:=Option.map_some' h
   rw [iQ]; exact rG hz
  ·obtain⟨⟨z,h'⟩,hz,rfl⟩:=Option.map_some' h
   rw [iQ]; exact uB hz
  ·obtain⟨h',hz,rfl⟩:=Option.map_some' h
   rw [iQ]; exact sP hz
  ·rw [Ud] at h
   obtain⟨v,_,h⟩:=h
   rw [Ud] at h
   obtain⟨vs,_,h⟩:=h
   rw [Ud] at h
   obtain⟨u,_,h⟩:=h
   exact dP h
  ·rw [Ud] at h
   obtain⟨v,_,h⟩:=h
   rw [Ud] at h
   obtain⟨vs,_,h⟩:=h
   rw [Ud] at h
   obtain⟨u,_,h⟩:=h
   exact dP h
  ·cases h
 ·split at h
  ·split at h
   ·obtain⟨⟨z,h'⟩,hz,rfl⟩:=Option.map_some' h
    rw [Ud] at hz
    obtain⟨⟨z0,h0⟩,hz,hm⟩:=hz
    rw [iQ]; exact (hcf _ _ _ _ _ hz).trans (wg hm)
   ·cases h
  ·cases h
 ·cases h
theorem nY (hcf:SteadyF cf){ops:List Oper}(h:lK P cf aE ops s o=some s'):Steady s.h s'.h:=by
 unfold lK at h
 rw [Ud] at h
 obtain⟨w,_,h⟩:=h
 cases w with
 | true=>exact rH hcf (by simpa [ug] using h)
 | false=>
  simp only [Up,if_false,Uh] at h
  subst h
  rw [iQ]; exact Steady.refl _
theorem pU (hcf:SteadyF cf){ops:List Oper}:∀{l:List Oper} {s s':RS},p9 P cf aE ops s l=some s'→Steady s.h s'.h
 | [],s,s',h=>by simp only [p9,Uh] at h; subst h; exact Steady.refl _
 | o::l,s,s',h=>by
  simp only [p9,Ud] at h
  obtain⟨s1,h1,h2⟩:=h
  exact (nY hcf h1).trans (pU hcf h2)
theorem pV (hcf:SteadyF cf){ops:List Oper}:∀{l:List Oper} {s r:RS} {es:List ly},nN P cf aE ops s l=some (es,r)→Steady s.h r.h
 | [],s,r,es,h=>by simp only [nN,Uh,Um] at h; rw [h.2]; exact Steady.refl _
 | o::l,s,r,es,h=>by
  simp only [nN,Ud,Ug] at h
  obtain⟨w,hw,s1,h1,⟨pI,r'⟩,h2,h3⟩:=h
  simp only [Um] at h3
  obtain⟨_,rfl⟩:=h3
  have h4:lK P cf aE ops s o=some s1:=by unfold lK; rw [hw]; exact h1
  exact (nY hcf h4).trans (pV hcf h2)
theorem sQ (hcf:SteadyF cf){ops:Array Oper}(h:jm P cf aE ops s=some s'):Steady s.h s'.h:=by
 unfold jm at h
 dsimp only at h
 split at h
 rotate_left
 ·cases h
 rw [Ud] at h
 obtain⟨⟨es,r⟩,yh,h⟩:=h
 simp only at h
 split at h
 ·cases h; exact pV hcf yh
 ·cases h
theorem fL (hcf:SteadyF cf){A:bY}{m:Nat}:∀(c:Code) (st ja:St) (e:Ex),bH P cf A m c st=some (e,ja)→Steady st.h ja.h
 | .skip,st,ja,e,h=>by simp only [bH,Uh,Um] at h; rw [h.2]; exact Steady.refl _
 | .label _,st,ja,e,h=>by simp only [bH,Uh,Um] at h; rw [h.2]; exact Steady.refl _
 | .ret,st,ja,e,h=>by simp only [bH,Uh,Um] at h; rw [h.2]; exact Steady.refl _
 | .exit _,st,ja,e,h=>by simp only [bH,Uh,Um] at h; rw [h.2]; exact Steady.refl _
 | .seq x y,st,ja,e,h=>by
  simp only [bH,Ud] at h
  obtain⟨⟨e1,s1⟩,h1,h2⟩:=h
  have:=fL hcf x st s1 e1 h1
  cases e1 with
  | norm=>exact this.trans (fL hcf y s1 ja e h2)
  | exit id=>simp only [Uh,Um] at h2; rw [←h2.2]; exact this
  | ret=>simp only [Uh,Um] at h2; rw [←h2.2]; exact this
 | .cond k x y,st,ja,e,h=>by
  simp only [bH,Ud] at h
  obtain⟨t,_,h⟩:=h
  cases t with
  | true=>exact fL hcf x st ja e (by simpa using h)
  | false=>exact fL hcf y st ja e (by simpa using h)
 | .block id x,st,ja,e,h=>by
  simp only [bH,Ug] at h
  obtain⟨⟨e1,s1⟩,h1,h2⟩:=h
  have:=fL hcf x st s1 e1 h1
  cases e1<;>(simp only [Um] at h2; rw [←h2.2]; exact this)
 | .loop x,st,ja,e,h=>by
  simp only [bH] at h
  have key:∀(j:Nat) (st:St),kj (bH P cf A m x) j st=some (e,ja)→Steady st.h ja.h:=by
   intro j
   induction j with
   | zero=>intro st h; simp [kj] at h
   | succ j ih=>
    intro st h
    simp only [kj,Ud] at h
    obtain⟨⟨e1,s1⟩,h1,h2⟩:=h
    have:=fL hcf x st s1 e1 h1
    cases e1 with
    | norm=>exact this.trans (ih s1 h2)
    | exit id=>simp only [Uh,Um] at h2; rw [←h2.2]; exact this
    | ret=>simp only [Uh,Um] at h2; rw [←h2.2]; exact this
  exact key m st h
 | .region id ops draw,st,ja,e,h=>by
  simp only [bH,Ud,Ug,Um] at h
  obtain⟨s0,h0,s',h1,s2,h2,_,rfl⟩:=h
  rw [FG]
  refine ((lR h0).trans ?_).trans (lR h2)
  cases draw with
  | true=>exact sQ (s:=s0) hcf (by simpa using h1)
  | false=>exact pU (s:=s0) hcf (by simpa using h1)
 | .rangeFunc ..,st,ja,e,h=>by simp [bH] at h
 | .scope ..,st,ja,e,h=>by simp [bH] at h
 | .goto ..,st,ja,e,h=>by simp [bH] at h
 | .refuse ..,st,ja,e,h=>by simp [bH] at h
theorem uC (hcf:SteadyF cf){aV:FuncId→bY}{m:Nat}:SteadyF (a6 P aV cf m):=by
 intro f args h r h' hc
 unfold a6 at hc
 rw [Ud] at hc
 obtain⟨fn,hf,hc⟩:=hc
 rw [Ud] at hc
 obtain⟨c,hb,hc⟩:=hc
 split at hc
 rotate_left
 ·cases hc
 rw [Ud] at hc
 obtain⟨⟨e,st⟩,hex,hc⟩:=hc
 have:=fL hcf c _ _ _ hex
 cases e with
 | norm=>obtain⟨r',_,h2⟩:=Option.map_some' hc; cases h2; exact this
 | ret=>obtain⟨r',_,h2⟩:=Option.map_some' hc; cases h2; exact this
 | exit id=>cases hc
end
end Go.R
namespace Go.R
open Go
section
variable {P:Program}{cf:CallF}{aE ds:List Nat}{o:Oper}{s s':RS}
theorem Bu {e e':Operand→AV}(h:∀x∈o.op.operands,e x=e' x):xX P cf aE ds e s o=xX P cf aE ds e' s o:=by
 have J7:∀(l:List Operand),(∀x∈l,e x=e' x)→l.map e=l.map e':=fun l hl=>VM hl
 have HN:∀(q:Option Operand),(∀x,q=some x→e x=e' x)→q.map e=q.map e':=by
  intro q hq; cases q with
  | none=>rfl
  | some x=>simp [hq x rfl]
 unfold xX
 cases zy:o.op<;>rw [zy] at h
 case build t ps=>
  have:(ps.toList.map fun (i,x)=>(i,e x))=(ps.toList.map fun (i,x)=>(i,e' x)):=
   VM fun p hp=>by
    have:=h p.2 (by simp only [Op.operands,List.mem_toArray,US]; exact⟨p,hp,rfl⟩)
    simp [this]
  simp only [this]
 case buildSlice t n ps=>
  have:(ps.toList.map fun (i,x)=>(i,e x))=(ps.toList.map fun (i,x)=>(i,e' x)):=
   VM fun p hp=>by
    have:=h p.2 (by simp only [Op.operands,List.mem_toArray,US]; exact⟨p,hp,rfl⟩)
    simp [this]
  simp only [this]
 case makeFunc f first cap=>
  have:cap.toList.map e=cap.toList.map e':=J7 _ fun x hx=>h x (by simp only [Op.operands,Array.mem_append]; right; exact U5.1 hx)
  cases f<;>first | rfl | simp only [this]
 case makeMap t r=>cases r<;>rfl
 case slice t x lo hi mx=>
  have h1:e x=e' x:=h x (by simp [Op.operands])
  have h2:=HN lo fun y hy=>h y (by simp [Op.operands,hy])
  have h3:=HN hi fun y hy=>h y (by simp [Op.operands,hy])
  have h4:=HN mx fun y hy=>h y (by simp [Op.operands,hy])
  simp only [h1,h2,h3,h4]
 case call c=>
  obtain⟨callee,args,zu⟩:=c
  have h1:args.toList.map e=args.toList.map e':=J7 _ fun x hx=>h x (by
   simp only [Op.operands,Call.operands]
   cases callee<;>simp<;>first | exact U5.1 hx | (right; exact U5.1 hx) | (left; exact U5.1 hx))
  cases callee with
  | builtin b=>simp only [h1]
  | value f=>
   have h2:e f=e' f:=h f (by simp [Op.operands,Call.operands])
   simp only [h1,h2]
  | invoke r nm=>rfl
 all_goals first
  | rfl
  | (simp [Op.operands] at h; simp [h])
end
theorem nZ (acc:List Nat)(i:Nat):∀(l:List Edge) (m:Nat),(l.foldl (fun m e=>bif Region.binds .any e then m ||| (2 ^ e.on ||| acc.getD e.on 0) else m) m).testBit i=true→
  m.testBit i=true∨∃e∈l,Region.binds .any e=true∧(e.on=i∨(acc.getD e.on 0).testBit i=true)
 | [],m,h=>.inl h
 | e::l,m,h=>by
  rcases nZ acc i l _ h with h1 | ⟨e',he,h1⟩
  ·dsimp only at h1
   cases hb:Region.binds .any e with
   | false=>rw [hb] at h1; exact .inl h1
   | true=>
    rw [hb] at h1
    simp only [cond_true,Nat.testBit_or,UY,Nat.testBit_two_pow,decide_eq_true_eq] at h1
    rcases h1 with h1 | h1 | h1
    ·exact .inl h1
    ·exact .inr ⟨e,by simp,hb,.inl h1⟩
    ·exact .inr ⟨e,by simp,hb,.inr h1⟩
  ·exact .inr ⟨e',by simp [he],h1⟩
theorem pW:∀(l:List Oper) (acc:List Nat),(∀j,j<acc.length→(iX acc l).getD j 0=acc.getD j 0)∧
  ∀j i,((iX acc l).getD j 0).testBit i=true→acc.length≤j→∃o,l[j - acc.length]? = some o∧∃e∈o.after.toList,Region.binds .any e=true∧(e.on=i∨((iX acc l).getD e.on 0).testBit i=true)
 | [],acc=>⟨fun j hj=>rfl,fun j i h hj=>by simp [iX,List.getD,UN hj] at h⟩
 | o::l,acc=>by
  simp only [iX]
  generalize hm:(o.after.toList.foldl (fun m e=>bif Region.binds .any e then m ||| (2 ^ e.on ||| acc.getD e.on 0) else m) 0)=m
  obtain⟨h1,h2⟩:=pW l (acc++[m])
  have hold:∀j,j<acc.length→(iX (acc++[m]) l).getD j 0=acc.getD j 0:=fun j hj=>by
   rw [h1 j (by simp; omega)]
   simp [List.getD,Uu hj]
  refine⟨hold,fun j i h hj=>?_⟩
  by_cases RC:j=acc.length
  ·subst RC
   have:(iX (acc++[m]) l).getD acc.length 0=m:=by
    rw [h1 _ (by simp)]; simp [List.getD]
   rw [this,←hm] at h
   rcases nZ acc i _ _ h with h3 | ⟨e,he,hb,h3⟩
   ·simp at h3
   ·refine⟨o,by simp,e,he,hb,h3.imp id fun h4=>?_⟩
    by_cases hl:e.on<acc.length
    ·rw [hold _ hl]; exact h4
    ·simp [List.getD,UN (Nat.not_lt.1 hl)] at h4
  ·obtain⟨o',Jt,h3⟩:=h2 j i h (by simp; omega)
   refine⟨o',?_,h3⟩
   rw [show j - acc.length=(j - (acc++[m]).length)+1 by simp; omega]
   simpa using Jt
theorem jX {α:Type}(p:Nat→α→Nat→α→Bool):∀(l:List α) (k:Nat),nM p k l=true→∀i j x y,i<j→l[i]? = some x→l[j]? = some y→p (k+i) x (k+j) y=true
 | [],k,_,i,j,x,y,_,hx,_=>by simp at hx
 | a::l,k,h,i,j,x,y,xK,hx,hy=>by
  simp only [nM,Ui,Uy] at h
  obtain⟨h1,h2⟩:=h
  cases j with
  | zero=>omega
  | succ j=>
   cases i with
   | zero=>
    simp only [UW,Uh] at hx
    subst hx
    have:=h1 (y,k+1+j) (by rw [List.mk_add_mem_zipIdx_iff_getElem?]; simpa using hy)
    simpa [Va,VH 1 j] using this
   | succ i=>
    have:=jX p l (k+1) h2 i j x y (by omega) (by simpa using hx) (by simpa using hy)
    rw [show k+(i+1)=k+1+i by omega,show k+(j+1)=k+1+j by omega]
    exact this
theorem n5:∀(l:List Oper) (k:Nat),qM k l=true→∀i o,l[i]? = some o→∀e∈o.after.toList,Region.binds .any e=true→e.on<k+i
 | [],k,_,i,o,h,_,_,_=>by simp at h
 | a::l,k,h,i,o,ho,e,he,hb=>by
  simp only [qM,Ui,Uy] at h
  obtain⟨h1,h2⟩:=h
  cases i with
  | zero=>
   simp only [UW,Uh] at ho
   subst ho
   have:=h1 e he
   simp only [hb,Vd,Bool.false_or] at this
   exact Nat.blt_eq.mp this
  | succ i=>
   have:=n5 l (k+1) h2 i o (by simpa using ho) e he hb
   omega
theorem n6 {V:Type}{n i:Nat}(hi:i≤n){W:Nat→Prop}{S:Nat→Bool}{m x:Nat→V}(h0:m 0=x 0)(J8:∀k,k<n→W k→S k=true→m (k+1)=x (k+1))(qd:∀k,k<n→(¬W k∨S k=false)→m (k+1)=m k)
  (hx:∀k,k<n→¬W k→x (k+1)=x k) (hS:∀k,k<n→W k→(S k=true↔k<i)):m n=x i:=by
 have key:∀k,k≤n→m k=x (min k i):=by
  intro k
  induction k with
  | zero=>intro _; simpa using h0
  | succ k ih=>
   intro hk
   have ih:=ih (by omega)
   by_cases hw:W k
   ·have hs:=hS k (by omega) hw
    by_cases wi:k<i
    ·rw [J8 k (by omega) hw (hs.2 wi),VA (by omega)]
    ·have:S k=false:=by
      cases h:S k with
      | false=>rfl
      | true=>exact absurd (hs.1 h) wi
     rw [qd k (by omega) (.inr this),ih,Nat.min_eq_right (by omega),Nat.min_eq_right (by omega)]
   ·rw [qd k (by omega) (.inl hw),ih]
    by_cases wi:k<i
    ·rw [VA (by omega),VA (by omega),hx k (by omega) hw]
    ·rw [Nat.min_eq_right (by omega),Nat.min_eq_right (by omega)]
 rw [key n (Uj n),Nat.min_eq_right hi]
open Classical in
theorem uD {V:Type}{n i:Nat}(hi:i<n){W:Nat→Prop}{S S':Nat→Bool}{m m' x:Nat→V}(h0:m' 0=m 0)(J8:∀k,k<n→W k→S k=true→m (k+1)=x (k+1))(qd:∀k,k<n→(¬W k∨S k=false)→m (k+1)=m k)
  (Py:∀k,k<n→W k→S' k=true→m' (k+1)=x (k+1)) (HO:∀k,k<n→(¬W k∨S' k=false)→m' (k+1)=m' k)
  (Bv:∀k,S' k=if k=i then true else S k) (J9:S i=false) (hl:W i→∀j,j<n→i<j→W j→S j=false):m' n=if W i then x (i+1) else m n:=by
 have key:∀k,k≤n→m' k=if i<k∧W i then x (i+1) else m k:=by
  intro k
  induction k with
  | zero=>intro _; simpa using h0
  | succ k ih=>
   intro hk
   have ih:=ih (by omega)
   by_cases wi:k=i
   ·subst wi
    by_cases hw:W k
    ·rw [Py k (by omega) hw (by rw [Bv]; simp),if_pos ⟨by omega,hw⟩]
    ·rw [HO k (by omega) (.inl hw),ih,if_neg (fun h=>hw h.2),if_neg (fun h=>hw h.2),qd k (by omega) (.inl hw)]
   ·have hs:S' k=S k:=by rw [Bv,if_neg wi]
    by_cases hw:W k
    ·cases rF:S k with
     | true=>
      rw [Py k (by omega) hw (hs.trans rF)]
      by_cases Cp:i<k+1∧W i
      ·have:=hl Cp.2 k (by omega) (by omega) hw
       rw [rF] at this; cases this
      ·rw [if_neg Cp,J8 k (by omega) hw rF]
     | false=>
      rw [HO k (by omega) (.inr (hs.trans rF)),ih,qd k (by omega) (.inr rF)]
      by_cases Cp:i<k∧W i
      ·rw [if_pos Cp,if_pos ⟨by omega,Cp.2⟩]
      ·rw [if_neg Cp,if_neg (fun h=>Cp ⟨by omega,h.2⟩)]
    ·rw [HO k (by omega) (.inl hw),ih,qd k (by omega) (.inl hw)]
     by_cases Cp:i<k∧W i
     ·rw [if_pos Cp,if_pos ⟨by omega,Cp.2⟩]
     ·rw [if_neg Cp,if_neg (fun h=>Cp ⟨by omega,h.2⟩)]
 rw [key n (Uj n)]
 by_cases hw:W i
 ·rw [if_pos ⟨hi,hw⟩,if_pos hw]
 ·rw [if_neg (fun h=>hw h.2),if_neg hw]
structure rI (P:Program)(cf:CallF)(aE:List Nat)(ops:Array Oper)(tx:Nat→RS)(ft:Nat→kh)(ord:Nat→Nat→Prop):Prop where
 op:∀k o,ops[k]? = some o→∃w,gE ops.toList (tx k).ρ o=some w∧(if w then ug P cf aE (ops.toList.filterMap (·.dst)) (tx k) o=some (tx (k+1))∧ft k=bb aE (bI (tx k).ρ) o else tx (k+1)=(tx k).set o.dst (.tup [])∧ft k={})
 HP:∀k i,ord k i→∃o,ops[i]? = some o∧∃e∈o.after,Region.binds .any e=true∧(e.on=k∨ord k e.on)
 back:∀i o,ops[i]? = some o→∀e∈o.after,Region.binds .any e=true→e.on<i
 G1:∀i j x y,i≠j→ops[i]? = some x→ops[j]? = some y→ord i j∨ord j i∨∀d,x.dst=some d→d∉y.looksAt ops∧y.dst≠some d
 boxes:∀i j,i<ops.size→j<ops.size→i≠j→ord i j∨ord j i∨(∀k,(ft i).wb=some k→k∉(ft j).rb∧(ft j).wb≠some k)∧((ft i).wh=true→(ft j).wh=false∧∀id∈(ft j).rh,(tx i).h.get id=(tx (i+1)).h.get id)
 ML:∀i o d,ops[i]? = some o→(ft i).al=true→o.dst=some d→(∀t∈ops.toList.filterMap (·.dst),t≠d→∀off,(tx 0).ρ t≠.lp d off)∧∀j y t,ops[j]? = some y→j≠i→ord i j∨(y.dst=some t→∀off,(tx (j+1)).ρ t≠.lp d off)
section
variable {P:Program}{cf:CallF}{aE:List Nat}{ops:Array Oper}{tx:Nat→RS}{ft:Nat→kh}{ord:Nat→Nat→Prop}
def iR (ops:Array Oper)(k:Nat):Option Nat:=(ops[k]?).bind (·.dst)
def jF (ops:Array Oper)(tx:Nat→RS)(ft:Nat→kh)(S:Nat→Bool):Nat→RS
 | 0=>tx 0
 | k+1=>if S k then (jF ops tx ft S k).shift (ft k) (iR ops k) (tx (k+1)) else jF ops tx ft S k
theorem rI.shift (T:rI P cf aE ops tx ft ord){k:Nat}(hk:k<ops.size):tx (k+1)=(tx k).shift (ft k) (iR ops k) (tx (k+1)):=by
 have ho:ops[k]? = some ops[k]:=by simp [hk]
 obtain⟨w,hw,h⟩:=T.op k _ ho
 have hd:iR ops k=ops[k].dst:=by simp [iR,hk]
 rw [hd]
 cases w with
 | true=>
  simp only [if_true] at h
  obtain⟨h1,h2⟩:=h
  have:=tz (s2:=tx k) (e:=bI (tx k).ρ) h1 (fun _ _=>rfl) (fun _ _=>rfl) (fun _=>rfl) (fun nI d xH=>by
   unfold ug xX at h1
   dsimp only at h1
   have G2:∀(cs:List AV) (s s':RS),gX s aE (ops.toList.filterMap (·.dst)) ops[k] cs=some s'→aE.contains d=true→q8 d s.ρ ((ops.toList.filterMap (·.dst)).filter fun t=>!Nat.beq t d)=true:=by
    intro cs s s' hb hl
    unfold gX at hb
    simp only [xH,hl,if_true] at hb
    by_cases hn:q8 d s.ρ ((ops.toList.filterMap (·.dst)).filter fun t=>!Nat.beq t d)=true
    ·exact hn
    ·simp [hn] at hb
   unfold bb at nI
   split at nI
   ·rename_i t zy
    rw [xH] at nI
    simp only at nI
    split at nI
    ·rename_i hl
     rw [zy] at h1
     simp only [Ud] at h1
     obtain⟨z,_,h1⟩:=h1
     exact G2 _ _ _ h1 hl
    ·cases nI
   ·rename_i t x zy
    rw [xH] at nI
    simp only at nI
    split at nI
    ·rename_i hl
     rw [zy] at h1
     exact G2 _ _ _ h1 hl
    ·cases nI
   all_goals first
    | (split at nI<;>cases nI)
    | (split at nI<;>first | cases nI | (split at nI<;>cases nI))
    | cases nI)
  unfold ug at h1
  rw [h1] at this
  rw [h2]
  exact UZ this
 | false=>
  simp only [Up,if_false] at h
  rw [h.1,h.2]
  exact hX (tx k) (tx k) {} _ _ rfl rfl
theorem qP (s2:RS)(f:kh)(d:Option Nat)(s':RS)(t:Nat):(s2.shift f d s').ρ t=if d=some t then s'.ρ t else s2.ρ t:=by
 cases d with
 | none=>simp [RS.shift]
 | some d=>
  simp only [RS.shift,Uh]
  by_cases h:t=d
  ·subst h; simp
  ·rw [if_neg h,if_neg (Ne.symm h)]
theorem n7 (s2:RS)(f:kh)(d:Option Nat)(s':RS)(b:Nat):(s2.shift f d s').bx b=if f.wb=some b then s'.bx b else s2.bx b:=by
 cases hf:f.wb with
 | none=>simp [RS.shift,hf]
 | some k=>
  simp only [RS.shift,hf,Uh]
  by_cases h:b=k
  ·subst h; simp
  ·rw [if_neg h,if_neg (Ne.symm h)]
theorem rI.lt (T:rI P cf aE ops tx ft ord):∀{j k:Nat},ord k j→k<j:=by
 intro j
 induction j using Nat.strongRecOn with
 | _ j ih=>
  intro k h
  obtain⟨o,ho,e,he,hb,h1⟩:=T.HP k j h
  have h2:=T.back j o ho e he hb
  rcases h1 with h1 | h1
  ·omega
  ·have:=ih e.on h2 h1; omega
def pb (ops:Array Oper)(S:Nat→Bool):Prop:=∀j o,ops[j]? = some o→S j=true→∀e∈o.after,Region.binds .any e=true→S e.on=true
theorem rI.down (T:rI P cf aE ops tx ft ord){S:Nat→Bool}(hc:pb ops S):∀{j k:Nat},ord k j→S j=true→S k=true:=by
 intro j
 induction j using Nat.strongRecOn with
 | _ j ih=>
  intro k h hs
  obtain⟨o,ho,e,he,hb,h1⟩:=T.HP k j h
  have h2:=T.back j o ho e he hb
  have h3:=hc j o ho hs e he hb
  rcases h1 with h1 | h1
  ·rw [←h1]; exact h3
  ·exact ih e.on h2 h1 h3
variable {S:Nat→Bool}{i:Nat}{oi:Oper}
theorem rI.before (T:rI P cf aE ops tx ft ord)(hc:pb ops S)(ho:ops[i]? = some oi)(hr:∀e∈oi.after,Region.binds .any e=true→S e.on=true){k:Nat}(h:ord k i):S k=true:=by
 obtain⟨o,Jt,e,he,hb,h1⟩:=T.HP k i h
 rw [ho] at Jt
 cases Jt
 rcases h1 with h1 | h1
 ·rw [←h1]; exact hr e he hb
 ·exact T.down hc h1 (hr e he hb)
theorem rI.iff (T:rI P cf aE ops tx ft ord)(hc:pb ops S)(ho:ops[i]? = some oi)(hr:∀e∈oi.after,Region.binds .any e=true→S e.on=true)(hi:S i=false){k:Nat}(h:ord i k∨ord k i):S k=true↔k<i:=by
 rcases h with h | h
 ·have:=T.lt h
  refine⟨fun hk=>?_,fun _=>by omega⟩
  have:=T.down hc h hk
  rw [hi] at this; cases this
 ·exact⟨fun _=>T.lt h,fun _=>T.before hc ho hr h⟩
theorem uE (t:Nat)(k:Nat)(hd:iR ops k=some t)(hs:S k=true):(jF ops tx ft S (k+1)).ρ t=(tx (k+1)).ρ t:=by
 simp only [jF,hs,if_true,qP,hd]
theorem uF (t:Nat)(k:Nat)(h:¬iR ops k=some t∨S k=false):(jF ops tx ft S (k+1)).ρ t=(jF ops tx ft S k).ρ t:=by
 simp only [jF]
 split
 ·rename_i hs
  rcases h with h | h
  ·rw [qP,if_neg h]
  ·rw [h] at hs; cases hs
 ·rfl
theorem uG (b:Nat)(k:Nat)(hd:(ft k).wb=some b)(hs:S k=true):(jF ops tx ft S (k+1)).bx b=(tx (k+1)).bx b:=by
 simp only [jF,hs,if_true,n7,hd]
theorem uH (b:Nat)(k:Nat)(h:¬(ft k).wb=some b∨S k=false):(jF ops tx ft S (k+1)).bx b=(jF ops tx ft S k).bx b:=by
 simp only [jF]
 split
 ·rename_i hs
  rcases h with h | h
  ·rw [n7,if_neg h]
  ·rw [h] at hs; cases hs
 ·rfl
theorem uI (k:Nat)(hd:(ft k).wh=true)(hs:S k=true):(jF ops tx ft S (k+1)).h=(tx (k+1)).h:=by
 simp only [jF,hs,if_true,RS.shift,hd]
theorem uJ (k:Nat)(h:¬(ft k).wh=true∨S k=false):(jF ops tx ft S (k+1)).h=(jF ops tx ft S k).h:=by
 simp only [jF]
 split
 ·rename_i hs
  rcases h with h | h
  ·simp only [RS.shift]; rw [if_neg h]
  ·rw [h] at hs; cases hs
 ·rfl
theorem rI.MM (T:rI P cf aE ops tx ft ord)(t:Nat)(k:Nat)(hk:k<ops.size)(h:¬iR ops k=some t):(tx (k+1)).ρ t=(tx k).ρ t:=by
 rw [T.shift hk,qP,if_neg h]
theorem rI.Ka (T:rI P cf aE ops tx ft ord)(b:Nat)(k:Nat)(hk:k<ops.size)(h:¬(ft k).wb=some b):(tx (k+1)).bx b=(tx k).bx b:=by
 rw [T.shift hk,n7,if_neg h]
theorem rI.HQ (T:rI P cf aE ops tx ft ord)(k:Nat)(hk:k<ops.size)(h:¬(ft k).wh=true):(tx (k+1)).h=(tx k).h:=by
 rw [T.shift hk]; simp only [RS.shift]; rw [if_neg h]
theorem rI.reads (T:rI P cf aE ops tx ft ord)(hc:pb ops S)(ho:ops[i]? = some oi)(hr:∀e∈oi.after,Region.binds .any e=true→S e.on=true)(hi:S i=false) :
  (∀t∈oi.looksAt ops,(jF ops tx ft S ops.size).ρ t=(tx i).ρ t)∧(∀b∈(ft i).rb,(jF ops tx ft S ops.size).bx b=(tx i).bx b)∧
  (∀id∈(ft i).rh,(jF ops tx ft S ops.size).h.get id=(tx i).h.get id)∧((ft i).wh=true→(jF ops tx ft S ops.size).h=(tx i).h):=by
 have hin:i<ops.size:=(UL.1 ho).1
 have Bi:∀k,k<ops.size→ops[k]? = some ops[k]!:=fun k hk=>by simp [hk]
 have C0:∀k,k=i→(S k=true↔k<i):=by
  rintro k rfl
  rw [hi]; simp
 refine⟨fun t ht=>?_,fun b hb=>?_,fun id hid=>?_,fun hw=>?_⟩
 ·refine n6 (W:=fun k=>iR ops k=some t) (m:=fun k=>(jF ops tx ft S k).ρ t) (x:=fun k=>(tx k).ρ t) (S:=S) (Nat.le_of_lt hin) rfl (fun k _ h hs=>uE t k h hs) (fun k _ h=>uF t k h) (fun k hk h=>T.MM t k hk h) (fun k hk h=>?_)
  by_cases wi:k=i
  ·exact C0 k wi
  ·obtain⟨y,hy,HR⟩:=Ud.1 h
   rcases T.G1 k i y oi wi hy ho with h1 | h1 | h1
   ·exact T.iff hc ho hr hi (.inr h1)
   ·exact T.iff hc ho hr hi (.inl h1)
   ·exact absurd ht (h1 t HR).1
 ·refine n6 (W:=fun k=>(ft k).wb=some b) (m:=fun k=>(jF ops tx ft S k).bx b) (x:=fun k=>(tx k).bx b) (S:=S) (Nat.le_of_lt hin) rfl (fun k _ h hs=>uG b k h hs) (fun k _ h=>uH b k h) (fun k hk h=>T.Ka b k hk h) (fun k hk h=>?_)
  by_cases wi:k=i
  ·exact C0 k wi
  ·rcases T.boxes k i hk hin wi with h1 | h1 | h1
   ·exact T.iff hc ho hr hi (.inr h1)
   ·exact T.iff hc ho hr hi (.inl h1)
   ·exact absurd hb (h1.1 b h).1
 ·
  obtain⟨p,hp,J1⟩:∃p,p≤ops.size∧∀k,k<ops.size→(ft k).wh=true→(S k=true↔k<p):=by
   have key:∀m,m≤ops.size→(∀k,k<m→(ft k).wh=true→S k=true)∨∃p,p<m∧(ft p).wh=true∧S p=false∧∀k,k<p→(ft k).wh=true→S k=true:=by
    intro m
    induction m with
    | zero=>intro _; exact .inl fun k hk=>by omega
    | succ m ih=>
     intro hm
     rcases ih (by omega) with h | ⟨p,h1,h2⟩
     ·by_cases hw:(ft m).wh=true∧S m=false
      ·exact .inr ⟨m,by omega,hw.1,hw.2,h⟩
      ·refine .inl fun k hk Pz=>?_
       by_cases RD:k=m
       ·subst RD
        cases hs:S k with
        | true=>rfl
        | false=>exact absurd ⟨Pz,hs⟩ hw
       ·exact h k (by omega) Pz
     ·exact .inr ⟨p,by omega,h2⟩
   rcases key ops.size (Uj _) with h | ⟨p,h1,h2,h3,h4⟩
   ·exact⟨ops.size,Uj _,fun k hk hw=>⟨fun _=>hk,fun _=>h k hk hw⟩⟩
   ·refine⟨p,by omega,fun k hk hw=>⟨fun hs=>?_,fun LN=>h4 k LN hw⟩⟩
    rcases Nat.lt_or_ge k p with h5 | h5
    ·exact h5
    ·by_cases LN:k=p
     ·subst LN; rw [h3] at hs; cases hs
     ·rcases T.boxes p k h1 hk (Ne.symm LN) with h6 | h6 | h6
      ·have:=T.down hc h6 hs; rw [h3] at this; cases this
      ·have:=T.lt h6; omega
      ·have:=(h6.2 h2).1; rw [hw] at this; cases this
  have HS:(jF ops tx ft S ops.size).h=(tx p).h:=
   n6 (W:=fun k=>(ft k).wh=true) (m:=fun k=>(jF ops tx ft S k).h) (x:=fun k=>(tx k).h) (S:=S) hp rfl (fun k _ h hs=>uI k h hs) (fun k _ h=>uJ k h) (fun k hk h=>T.HQ k hk h) J1
  rw [HS]
  have G3:∀k,k<ops.size→(p≤k∧k<i)∨(i≤k∧k<p)→(tx (k+1)).h.get id=(tx k).h.get id:=by
   intro k hk hb
   by_cases hw:(ft k).wh=true
   ·have hs:=J1 k hk hw
    have wi:k≠i:=by
     rintro rfl
     rcases hb with hb | hb
     ·omega
     ·have:=hs.2 hb.2; rw [hi] at this; cases this
    rcases T.boxes k i hk hin wi with h1 | h1 | h1
    ·have hlt:=T.lt h1
     have:=hs.1 (T.before hc ho hr h1)
     omega
    ·have hlt:=T.lt h1
     have:=T.down hc h1 (hs.2 (by omega))
     rw [hi] at this; cases this
    ·exact ((h1.2 hw).2 id hid).symm
   ·rw [T.HQ k hk hw]
  have walk:∀a b,a≤b→b≤ops.size→(∀k,a≤k→k<b→(tx (k+1)).h.get id=(tx k).h.get id)→(tx b).h.get id=(tx a).h.get id:=by
   intro a b Kb
   induction b with
   | zero=>
     intro _ _; have:a=0:=by omega
     subst this; rfl
   | succ b ih=>
    intro hb hk
    by_cases MN:a=b+1
    ·subst MN; rfl
    ·rw [hk b (by omega) (by omega)]
     exact ih (by omega) (by omega) fun k h1 h2=>hk k h1 (by omega)
  rcases Nat.le_total p i with h | h
  ·exact (walk p i h (Nat.le_of_lt hin) fun k h1 h2=>G3 k (by omega) (.inl ⟨h1,h2⟩)).symm
  ·exact walk i p h hp fun k h1 h2=>G3 k (by omega) (.inr ⟨h1,h2⟩)
 ·refine n6 (W:=fun k=>(ft k).wh=true) (m:=fun k=>(jF ops tx ft S k).h) (x:=fun k=>(tx k).h) (S:=S) (Nat.le_of_lt hin) rfl (fun k _ h hs=>uI k h hs) (fun k _ h=>uJ k h) (fun k hk h=>T.HQ k hk h) (fun k hk h=>?_)
  by_cases wi:k=i
  ·exact C0 k wi
  ·rcases T.boxes k i hk hin wi with h1 | h1 | h1
   ·exact T.iff hc ho hr hi (.inr h1)
   ·exact T.iff hc ho hr hi (.inl h1)
   ·have:=(h1.2 h).1; rw [hw] at this; cases this
theorem wj (t:Nat):∀k,(jF ops tx ft S k).ρ t=(tx 0).ρ t∨∃j,j<k∧S j=true∧iR ops j=some t∧(jF ops tx ft S k).ρ t=(tx (j+1)).ρ t
 | 0=>.inl rfl
 | k+1=>by
  by_cases h:iR ops k=some t∧S k=true
  ·exact .inr ⟨k,by omega,h.2,h.1,uE t k h.1 h.2⟩
  ·have h':¬iR ops k=some t∨S k=false:=by
    by_cases h1:iR ops k=some t
    ·right; cases hs:S k with
     | true=>exact absurd ⟨h1,hs⟩ h
     | false=>rfl
    ·exact .inl h1
   rw [uF t k h']
   rcases wj t k with h1 | ⟨j,h1,h2⟩
   ·exact .inl h1
   ·exact .inr ⟨j,by omega,h2⟩
theorem rJ {k:Nat}{ρ:Nat→AV}:∀{l:List Nat},(∀t∈l,∀off,ρ t≠.lp k off)→q8 k ρ l=true
 | [],_=>rfl
 | t::l,h=>by
  simp only [q8,Ui]
  refine⟨?_,rJ fun u hu=>h u (by simp [hu])⟩
  have:=h t (by simp)
  split
  ·rename_i j off heq
   simp only [bne_iff_ne,ne_eq]
   rintro rfl
   exact this off heq
  ·rfl
open Classical in
theorem rI.next (T:rI P cf aE ops tx ft ord)(hc:pb ops S)(ho:ops[i]? = some oi)(hr:∀e∈oi.after,Region.binds .any e=true→S e.on=true)(hi:S i=false){S':Nat→Bool}(Bv:∀k,S' k=if k=i then true else S k) :
  lK P cf aE ops.toList (jF ops tx ft S ops.size) oi=some (jF ops tx ft S' ops.size):=by
 have hin:i<ops.size:=(UL.1 ho).1
 obtain⟨h1,h2,h3,h4⟩:=T.reads hc ho hr hi
 obtain⟨w,hw,zy⟩:=T.op i oi ho
 have qe:iR ops i=oi.dst:=by simp [iR,ho]
 have tA:∀j,i<j→j<ops.size→(ord i j∨ord j i)→S j=false:=by
  intro j xK hj h
  cases hs:S j with
  | false=>rfl
  | true=>have:=(T.iff hc ho hr hi h).1 hs; omega
 have HS:jF ops tx ft S' ops.size=(jF ops tx ft S ops.size).shift (ft i) (iR ops i) (tx (i+1)):=by
  refine RS.ext' (fun t=>?_) (fun b=>?_) ?_
  ·rw [qP]
   have:=uD (W:=fun k=>iR ops k=some t) (m:=fun k=>(jF ops tx ft S k).ρ t) (m':=fun k=>(jF ops tx ft S' k).ρ t) (x:=fun k=>(tx k).ρ t) (S:=S) (S':=S') hin rfl
    (fun k _ h hs=>uE t k h hs) (fun k _ h=>uF t k h) (fun k _ h hs=>uE t k h hs) (fun k _ h=>uF t k h) Bv hi (fun Jv j hj xK Kc=>by
     obtain⟨y,hy,HR⟩:=Ud.1 Kc
     rw [qe] at Jv
     rcases T.G1 i j oi y (by omega) ho hy with h | h | h
     ·exact tA j xK hj (.inl h)
     ·exact tA j xK hj (.inr h)
     ·exact absurd HR (h t Jv).2)
   rw [this]
   by_cases hd:iR ops i=some t
   ·rw [if_pos hd,if_pos hd]
   ·rw [if_neg hd,if_neg hd]
  ·rw [n7]
   have:=uD (W:=fun k=>(ft k).wb=some b) (m:=fun k=>(jF ops tx ft S k).bx b) (m':=fun k=>(jF ops tx ft S' k).bx b) (x:=fun k=>(tx k).bx b) (S:=S) (S':=S') hin rfl
    (fun k _ h hs=>uG b k h hs) (fun k _ h=>uH b k h) (fun k _ h hs=>uG b k h hs) (fun k _ h=>uH b k h) Bv hi (fun Jv j hj xK Kc=>by
     rcases T.boxes i j hin hj (by omega) with h | h | h
     ·exact tA j xK hj (.inl h)
     ·exact tA j xK hj (.inr h)
     ·exact absurd Kc (h.1 b Jv).2)
   rw [this]
   by_cases hd:(ft i).wb=some b
   ·rw [if_pos hd,if_pos hd]
   ·rw [if_neg hd,if_neg hd]
  ·have:=uD (W:=fun k=>(ft k).wh=true) (m:=fun k=>(jF ops tx ft S k).h) (m':=fun k=>(jF ops tx ft S' k).h) (x:=fun k=>(tx k).h) (S:=S) (S':=S') hin rfl
    (fun k _ h hs=>uI k h hs) (fun k _ h=>uJ k h) (fun k _ h hs=>uI k h hs) (fun k _ h=>uJ k h) Bv hi (fun Jv j hj xK Kc=>by
     rcases T.boxes i j hin hj (by omega) with h | h | h
     ·exact tA j xK hj (.inl h)
     ·exact tA j xK hj (.inr h)
     ·have:=(h.2 Jv).1; rw [Kc] at this; cases this)
   rw [this]
   simp only [RS.shift]
   by_cases hd:(ft i).wh=true
   ·rw [if_pos hd,if_pos hd]
   ·rw [if_neg hd,if_neg hd]
 have Kd:∀x∈oi.op.operands,bI (jF ops tx ft S ops.size).ρ x=bI (tx i).ρ x:=by
  intro x hx
  cases x with
  | tmp t=>
   refine h1 t ?_
   unfold Oper.looksAt
   rw [UJ]
   left
   rw [List.mem_filterMap]
   exact⟨.tmp t,U5.2 hx,rfl⟩
  | _=>rfl
 have Ke:gE ops.toList (jF ops tx ft S ops.size).ρ oi=gE ops.toList (tx i).ρ oi:=by
  unfold gE
  cases hg:oi.guard with
  | none=>rfl
  | some g=>
   obtain⟨g,want⟩:=g
   simp only
   cases hq:(ops.toList[g]?).bind (·.dst) with
   | none=>rfl
   | some d=>
    simp only [Ue]
    rw [h1 d]
    unfold Oper.looksAt
    rw [UJ]
    right
    rw [hg]
    simp only
    have:(ops[g]?).bind (·.dst)=some d:=by simpa using hq
    rw [this]
    simp
 unfold lK
 rw [Ke,hw]
 simp only [Ue]
 rw [HS,qe]
 cases w with
 | false=>
  simp only [Up,if_false] at zy ⊢
  rw [zy.1,zy.2]
  congr 1
  exact hX (tx i) _ {} _ _ rfl rfl
 | true=>
  simp only [if_true] at zy ⊢
  obtain⟨zy,Jw⟩:=zy
  unfold ug at zy ⊢
  rw [Bu Kd,Jw]
  rw [Jw] at h2 h3 h4
  refine tz zy h2 h3 h4 (fun nI d xH=>rJ fun t ht off he=>?_)
  rw [List.mem_filter] at ht
  obtain⟨RE,RF⟩:=ht
  have GV:t≠d:=by simpa [beq_nat] using RF
  obtain⟨l1,l2⟩:=T.ML i oi d ho (by rw [Jw]; exact nI) xH
  rcases wj (ops:=ops) (tx:=tx) (ft:=ft) (S:=S) t ops.size with h | ⟨j,hj,hs,RG,h⟩
  ·rw [h] at he
   exact l1 t RE GV off he
  ·rw [h] at he
   obtain⟨y,hy,HR⟩:=Ud.1 RG
   have hji:j≠i:=by rintro rfl; rw [hi] at hs; cases hs
   rcases l2 j y t hy hji with h5 | h5
   ·have:=T.down hc h5 hs; rw [hi] at this; cases this
   ·exact h5 HR off he
theorem zz (T:rI P cf aE ops tx ft ord)(kr:∀k,k<ops.size→S k=true):∀k,k≤ops.size→jF ops tx ft S k=tx k
 | 0,_=>rfl
 | k+1,hk=>by
  simp only [jF,kr k (by omega),if_true]
  rw [zz T kr k (by omega)]
  exact (T.shift (by omega)).symm
def left (n:Nat)(S:Nat→Bool):Nat:=(VG n).countP fun j=>!S j
theorem Bw {n:Nat}{S:Nat→Bool}(h:left n S=0):∀k,k<n→S k=true:=by
 intro k hk
 unfold left at h
 rw [List.countP_eq_zero] at h
 simpa using h k (List.mem_range.2 hk)
theorem C1 {n i:Nat}(hi:i<n){S S':Nat→Bool}(J9:S i=false)(Bv:∀k,S' k=if k=i then true else S k):left n S'+1=left n S:=by
 unfold left
 have:∀m,(VG m).countP (fun j=>!S' j)+(if i<m then 1 else 0)=(VG m).countP fun j=>!S j:=by
  intro m
  induction m with
  | zero=>simp
  | succ m ih=>
   rw [List.range_succ,List.countP_append,List.countP_append]
   simp only [List.countP_cons,List.countP_nil]
   by_cases hm:m=i
   ·subst hm
    have h1:S' m=true:=by rw [Bv]; simp
    rw [h1,J9]
    simp at ih ⊢
    omega
   ·have h1:S' m=S m:=by rw [Bv,if_neg hm]
    rw [h1]
    by_cases PA:i<m
    ·have h3:i<m+1:=by omega
     simp only [PA,h3,if_true] at ih ⊢
     omega
    ·have h3:¬i<m+1:=by omega
     simp only [PA,h3,if_false] at ih ⊢
     omega
 have:=this n
 rw [if_pos hi] at this
 exact this
theorem HT (T:rI P cf aE ops tx ft ord)(hcf:CallOK P cf){L0:Nat→Prop}{c0:Cx}{n:Nat}(hb0:c0.base≤c0.w.heap.size)(Fb:tw n ops.toList=true){Q:Exit→Act→World→Prop}
  (hQ:∀a' w',Inv L0 c0 n (ops.toList.filterMap (·.dst)) (tx ops.size) a' w'→Q .normal a' w') :
  ∀(fuel:Nat) (dQ:Array Bool) (a:Act) (w:World),dQ.size=ops.size→pb ops (fun j=>dQ.getD j false)→left ops.size (fun j=>dQ.getD j false)≤fuel→
   Inv L0 c0 n (ops.toList.filterMap (·.dst)) (jF ops tx ft (fun j=>dQ.getD j false) ops.size) a w→wpAny P .any ops Q fuel dQ a w:=by
 intro fuel
 have C2:∀(dQ:Array Bool) a w,dQ.size=ops.size→Region.ready .any ops dQ=[]→Inv L0 c0 n (ops.toList.filterMap (·.dst)) (jF ops tx ft (fun j=>dQ.getD j false) ops.size) a w→Q .normal a w:=by
  intro dQ a w hsz Jx hi
  have kr:∀k,k<ops.size→dQ.getD k false=true:=by
   intro k
   induction k using Nat.strongRecOn with
   | _ k ih=>
    intro hk
    cases hl:dQ.getD k false with
    | true=>rfl
    | false=>
     have:k∈Region.ready .any ops dQ:=mem_ready.2 ⟨getD_in (by omega) hl,ops[k],by simp [hk],fun e he hb=>by
      have:=T.back k ops[k] (by simp [hk]) e he hb
      exact ih e.on this (by omega)⟩
     rw [Jx] at this
     cases this
  rw [zz (S:=fun j=>dQ.getD j false) T kr _ (Uj _)] at hi
  exact hQ a w hi
 induction fuel with
 | zero=>
  intro dQ a w hsz hc hl hi
  have kr:=Bw (Nat.le_zero.1 hl)
  have Jx:Region.ready .any ops dQ=[]:=by
   rw [List.eq_nil_iff_forall_not_mem]
   intro j hj
   obtain⟨h1,o,ho,_⟩:=mem_ready.1 hj
   have MO:j<ops.size:=(UL.1 ho).1
   have h2:=kr j MO
   have Fg:j<dQ.size:=by omega
   simp [Fg] at h1 h2
   rw [h1] at h2; cases h2
  exact⟨Jx,C2 dQ a w hsz Jx hi⟩
 | succ fuel ih=>
  intro dQ a w hsz hc hl hi
  refine⟨fun Jx=>C2 dQ a w hsz Jx hi,fun i FH=>?_⟩
  obtain⟨h1,o,ho,Kf⟩:=mem_ready.1 FH
  have hin:i<ops.size:=(UL.1 ho).1
  have PB:i<dQ.size:=by omega
  have J9:dQ.getD i false=false:=by simp [PB] at h1 ⊢; exact h1
  have Bv:∀k,(dQ.setIfInBounds i true).getD k false=if k=i then true else dQ.getD k false:=by
   intro k
   by_cases hk:k=i
   ·subst hk
    rw [if_pos rfl]
    simp [PB]
   ·rw [if_neg hk,getD_set_ne false (Ne.symm hk)]
  have hst:=T.next (S:=fun j=>dQ.getD j false) (S':=fun k=>(dQ.setIfInBounds i true).getD k false) hc ho Kf J9 Bv
  unfold wpOp
  rw [ho]
  simp only
  have Kg:o∈ops.toList:=U5.2 (Array.mem_of_getElem? ho)
  have:=vY (Q:=Q) (K:=wpAny P .any ops Q fuel (dQ.setIfInBounds i true)) hcf hb0 rfl (vZ Fb Kg) hst hi (fun a' w' jo=>by
   refine ih _ a' w' (by simpa using hsz) ?_ ?_ jo
   ·intro j oj MP hj e he hb
    dsimp only at hj ⊢
    rw [Bv] at hj ⊢
    by_cases hji:j=i
    ·subst hji
     rw [ho] at MP
     cases MP
     have:=Kf e he hb
     rw [this]; simp
    ·rw [if_neg hji] at hj
     have:=hc j oj MP hj e he hb
     simp only at this
     rw [this]; simp
   ·have:=C1 hin (S:=fun j=>dQ.getD j false) J9 Bv
    omega)
  split
  ·rename_i hw; rw [if_pos hw] at this; exact .inl this
  ·rename_i hw; rw [if_neg hw] at this; exact this
theorem tB {opsL:List Oper}:∀(l:List Oper) (s r:RS) (es:List ly),nN P cf aE opsL s l=some (es,r)→∃tx:Nat→RS,tx 0=s∧tx l.length=r∧
  ∀k o,l[k]? = some o→∃w,gE opsL (tx k).ρ o=some w∧(if w then ug P cf aE (opsL.filterMap (·.dst)) (tx k) o=some (tx (k+1)) else tx (k+1)=(tx k).set o.dst (.tup []))∧
   es[k]? = some {o,f:=if w then bb aE (bI (tx k).ρ) o else {},s:=tx k,s':=tx (k+1)}
 | [],s,r,es,h=>by
  simp only [nN,Uh,Um] at h
  obtain⟨rfl,rfl⟩:=h
  exact⟨fun _=>s,rfl,rfl,fun k o ho=>by simp at ho⟩
 | o::l,s,r,es,h=>by
  simp only [nN,Ud,Ug] at h
  obtain⟨w,hw,s1,h1,⟨pI,r'⟩,h2,h3⟩:=h
  simp only [Um] at h3
  obtain⟨rfl,rfl⟩:=h3
  obtain⟨tx,t0,tn,ht⟩:=tB l s1 r' pI h2
  refine⟨fun | 0=>s | k+1=>tx k,rfl,tn,fun k o' ho=>?_⟩
  cases k with
  | zero=>
   simp only [UW,Uh] at ho
   subst ho
   refine⟨w,hw,?_,?_⟩
   ·cases w with
    | true=>simpa [t0] using h1
    | false=>
     simp only [Up,if_false,Uh] at h1 ⊢
     rw [t0]; exact h1.symm
   ·simp [t0]
  | succ k=>
   obtain⟨w',h4,h5,h6⟩:=ht k o' (by simpa using ho)
   exact⟨w',h4,h5,by simpa using h6⟩
theorem C3 {e:Operand→AV}{o:Oper}(h:(bb aE e o).al=true):(bb aE e o).wb.isSome=true:=by
 unfold bb at h ⊢
 split at h<;>try (cases h; done)
 all_goals (split at h<;>try (cases h; done))
 all_goals (split at h<;>try (cases h; done))
 all_goals simp_all
theorem Bx {k:Nat}{x:AV}(h:Hw k x=false):∀off,x≠.lp k off:=by
 rintro off rfl
 simp [Hw] at h
theorem wk (hm:P.follows .mixedOrders=true)(hcf:CallOK P cf)(RH:SteadyF cf):yo P cf:=by
 intro L0 c0 n aE id ops s s' h hb0 Fb a w Q hi hQ
 unfold jm at h
 dsimp only at h
 split at h
 rotate_left
 ·cases h
 rename_i uK
 rw [Ud] at h
 obtain⟨⟨es,r⟩,yh,h⟩:=h
 simp only at h
 split at h
 rotate_left
 ·cases h
 rename_i wo
 cases h
 obtain⟨tx,t0,tn,ht⟩:=tB ops.toList s s' es yh
 generalize JL:iX [] ops.toList=ms at uK wo
 have MQ:∀k i,(ms.getD i 0).testBit k=true→∃o,ops[i]? = some o∧∃e∈o.after,Region.binds .any e=true∧(e.on=k∨(ms.getD e.on 0).testBit k=true):=by
  intro k i hk
  obtain⟨o,ho,e,he,hb,h1⟩:=(pW ops.toList []).2 i k (by rw [JL]; exact hk) (by simp)
  refine⟨o,by simpa using ho,e,U5.1 he,hb,?_⟩
  rw [JL] at h1
  exact h1
 unfold mz at uK
 simp only [Ui] at uK
 obtain⟨HU,C4⟩:=uK
 let ft:Nat→kh:=fun k=>((es[k]?).map (·.f)).getD {}
 have rq:∀k o,ops[k]? = some o→∃w,gE ops.toList (tx k).ρ o=some w∧(if w then ug P cf aE (ops.toList.filterMap (·.dst)) (tx k) o=some (tx (k+1)) else tx (k+1)=(tx k).set o.dst (.tup []))∧
   es[k]? = some {o,f:=ft k,s:=tx k,s':=tx (k+1)}∧ft k=if w then bb aE (bI (tx k).ρ) o else {}:=by
  intro k o ho
  obtain⟨w,h1,h2,h3⟩:=ht k o (by simpa using ho)
  have Jw:ft k=if w then bb aE (bI (tx k).ρ) o else {}:=by simp only [ft,h3,Uk,U7]
  exact⟨w,h1,h2,by rw [Jw]; exact h3,Jw⟩
 have FH:∀k o,ops[k]? = some o→((⟨o,ft k,tx k,tx (k+1)⟩:ly),k)∈es.zipIdx:=by
  intro k o ho
  obtain⟨w,_,_,h3,_⟩:=rq k o ho
  exact List.mk_mem_zipIdx_iff_getElem?.2 h3
 simp only [Uy,List.mem_filter,Ui] at wo
 have pK:∀k o,ops[k]? = some o→(ft k).quiet=false→(((⟨o,ft k,tx k,tx (k+1)⟩:ly),k)∈es.zipIdx∧(!(ft k).quiet)=true):=fun k o ho hq=>⟨FH k o ho,by rw [hq]; rfl⟩
 have Bi:∀k,k<ops.size→ops[k]? = some ops[k]!:=fun k hk=>by simp [hk]
 have HV:∀i j x y,ops[i]? = some x→ops[j]? = some y→i≠j→(ft i).quiet=false→(ft j).quiet=false→(ms.getD j 0).testBit i=true∨(ms.getD i 0).testBit j=true∨
   ly.iW ⟨x,ft i,tx i,tx (i+1)⟩ ⟨y,ft j,tx j,tx (j+1)⟩=true:=by
  intro i j x y hx hy xK G4 Fh
  rcases Nat.lt_or_ge i j with hlt | hge
  ·have:=(wo _ (pK i x hx G4)).2 _ (pK j y hy Fh)
   simp only [UY,Ui] at this
   rcases this with (h1 | h1) | h1
   ·have:=Nat.le_of_ble_eq_true h1; omega
   ·exact .inl h1
   ·exact .inr (.inr h1.1)
  ·have:=(wo _ (pK j y hy Fh)).2 _ (pK i x hx G4)
   simp only [UY,Ui] at this
   rcases this with (h1 | h1) | h1
   ·have:=Nat.le_of_ble_eq_true h1; omega
   ·exact .inr (.inl h1)
   ·exact .inr (.inr h1.2)
 have MR:∀id,(tx 0).h.ver id<(tx 0).h.next:=by
  obtain⟨_,c,Lo,lam,_,f,_⟩:=hi
  rw [t0,←f.h]; exact f.rel.ver
 have hst:∀k,k<ops.size→Steady (tx k).h (tx (k+1)).h:=by
  intro k hk
  obtain⟨w,h1,h2,_⟩:=rq k _ (Bi k hk)
  cases w with
  | true=>exact rH RH (by simpa [ug] using h2)
  | false=>
   simp only [Up,if_false] at h2
   rw [h2,iQ]; exact Steady.refl _
 have LO:∀k,k≤ops.size→∀id,(tx k).h.ver id<(tx k).h.next:=by
  intro k
  induction k with
  | zero=>intro _; exact MR
  | succ k ih=>intro hk; exact (hst k (by omega)).wf (ih (by omega))
 have T:rI P cf aE ops tx ft (fun k i=>(ms.getD i 0).testBit k=true):=by
  refine⟨fun k o ho=>?_,MQ,fun i o ho e he hb=>?_,fun i j x y xK hx hy=>?_,fun i j hin MO xK=>?_,fun i o d ho nI hd=>?_⟩
  ·obtain⟨w,h1,h2,h3,h4⟩:=rq k o ho
   refine⟨w,h1,?_⟩
   cases w with
   | true=>exact⟨h2,h4⟩
   | false=>exact⟨h2,h4⟩
  ·have:=n5 _ 0 HU i o (by simpa using ho) e (U5.2 he) hb
   omega
  ·have Jy:∀x y:Oper,uh ops x y=true→∀d,x.dst=some d→d∉y.looksAt ops∧y.dst≠some d:=by
    intro x y h d hd
    unfold uh at h
    rw [hd] at h
    simpa using h
   rcases Nat.lt_or_ge i j with hlt | hge
   ·have:=jX _ _ 0 C4 i j x y hlt (by simpa using hx) (by simpa using hy)
    simp only [UC,UY,Ui] at this
    rcases this with h1 | h1
    ·exact .inl h1
    ·exact .inr (.inr (Jy _ _ h1.1))
   ·have:=jX _ _ 0 C4 j i y x (by omega) (by simpa using hy) (by simpa using hx)
    simp only [UC,UY,Ui] at this
    rcases this with h1 | h1
    ·exact .inr (.inl h1)
    ·exact .inr (.inr (Jy _ _ h1.2))
  ·cases G4:(ft i).quiet with
   | true=>
    unfold kh.quiet at G4
    simp only [Ui,Option.isNone_iff_eq_none,Vl] at G4
    exact .inr (.inr ⟨fun k hk=>(by rw [G4.1.1.2] at hk; cases hk),fun hk=>(by rw [G4.2] at hk; cases hk)⟩)
   | false=>
    cases Fh:(ft j).quiet with
    | true=>
     unfold kh.quiet at Fh
     simp only [Ui,Option.isNone_iff_eq_none,Vl,List.isEmpty_iff] at Fh
     obtain⟨⟨⟨q1,q2⟩,q3⟩,q4⟩:=Fh
     exact .inr (.inr ⟨fun k hk=>⟨by rw [q1]; simp,by rw [q2]; simp⟩,fun hk=>⟨q4,by rw [q3]; simp⟩⟩)
    | false=>
     rcases HV i j _ _ (Bi i hin) (Bi j MO) xK G4 Fh with h1 | h1 | h1
     ·exact .inl h1
     ·exact .inr (.inl h1)
     ·refine .inr (.inr ?_)
      unfold ly.iW at h1
      simp only [Ui,UY,Vl,Uy] at h1
      obtain⟨h2,h3⟩:=h1
      refine⟨fun k hk=>?_,fun hk=>?_⟩
      ·rw [hk] at h2
       simpa using h2
      ·rcases h3 with h3 | h3
       ·rw [hk] at h3; cases h3
       ·refine⟨h3.1,fun id hid=>?_⟩
        have hv:=Vf (h3.2 id hid)
        rcases (hst i hin).keep id with⟨_,h5⟩| h5
        ·exact h5.symm
        ·have:=LO i (by omega) id; omega
  ·obtain⟨w,h1,h2,h3,h4⟩:=rq i o ho
   have hq:(ft i).quiet=false:=by
    cases w with
    | false=>rw [h4] at nI; cases nI
    | true=>
     rw [h4] at nI ⊢
     have:=C3 nI
     unfold kh.quiet
     simp only [if_true] at this ⊢
     cases hwb:(bb aE (bI (tx i).ρ) o).wb with
     | none=>rw [hwb] at this; cases this
     | some k=>simp
   have:=(wo _ (pK i o ho hq)).1
   unfold qN at this
   simp only [nI,hd] at this
   simp only [Ui,Uy,UY] at this
   obtain⟨k1,k2⟩:=this
   refine⟨fun t ht GV off=>?_,fun j y t hy hji=>?_⟩
   ·rw [t0]
    exact oW k1 t (by rw [List.mem_filter]; exact⟨ht,by simpa [beq_nat] using GV⟩) off
   ·have:=k2 _ (FH j y hy)
    rcases this with (h5 | h5) | h5
    ·have:=Vf h5; omega
    ·exact .inl h5
    ·right
     intro HR off
     simp only [ly.out,HR,Vl] at h5
     exact Bx h5 off
 have hlen:tx ops.size=s':=by simpa using tn
 refine wp_region_any hm ?_
 refine HT T hcf hb0 Fb (fun a' w' jo=>hQ a' w' (by rw [hlen] at jo; exact jo)) ops.size _ _ _ (by simp) ?_ ?_ ?_
 ·intro j o _ hj
  simp only [getD_replicate_false] at hj
  cases hj
 ·unfold left
  exact U1 (List.countP_le_length) (by simp)
 ·have CP:∀k,jF ops tx ft (fun j=>(Array.replicate ops.size false).getD j false) k=tx 0:=by
   intro k
   induction k with
   | zero=>rfl
   | succ k ih=>
    rw [jF,getD_replicate_false,if_neg (by simp)]
    exact ih
  rw [CP,t0]
  exact hi.drew
end
end Go.R
namespace Go.R
open Go
section
variable {c d:Cx}{L L':Nat→Prop}
mutual
theorem zA (hw:d.w=c.w)(hbs:d.base≤c.base)(kH:∀b,RO c L b→RO d L' b):∀(x:AV) (v:Value),x.dT=true→VR c L x v→VR d L' x v
 | .any,_,h,_=>by simp [AV.dT] at h
 | .bool _,_,_,h=>h
 | .int _ _,_,_,h=>h
 | .str _,_,_,h=>h
 | .nh,_,_,h=>h
 | .ptr _ _,_,h,_=>by simp [AV.dT] at h
 | .lp _ _,_,h,_=>by simp [AV.dT] at h
 | .fp cs off,v,h,hv=>by
  simp only [AV.dT] at h
  simp only [VR] at hv ⊢
  obtain⟨b,o,rfl,hc⟩:=hv
  exact⟨b,o,rfl,hc.imp id fun ⟨hr,hc⟩=>⟨kH b hr,nr hw hbs kH cs b o h hc⟩⟩
 | .nils,_,_,h=>h
 | .fz cs n ex,v,h,hv=>by
  simp only [AV.dT] at h
  simp only [VR] at hv ⊢
  obtain⟨a,cap,rfl,h1,h2,hs,hc⟩:=hv
  exact⟨a,cap,rfl,h1,h2,hs,hc.imp id fun ⟨b,o,ha,hr,hex,hc⟩=>⟨b,o,ha,kH b hr,fun h=>U1 hbs (hex h),nr hw hbs kH cs b o h hc⟩⟩
 | .rs _ _ _ _,_,h,_=>by simp [AV.dT] at h
 | .lu,_,_,h=>h
 | .mp _,_,h,_=>by simp [AV.dT] at h
 | .fn f cap,v,h,hv=>by
  simp only [AV.dT] at h
  simp only [VR] at hv ⊢
  obtain⟨vs,rfl,h1⟩:=hv
  exact⟨vs,rfl,n9 hw hbs kH cap vs.toList h h1⟩
 | .nK,_,_,h=>h
 | .agg cs,v,h,hv=>by
  simp only [AV.dT] at h
  simp only [VR] at hv ⊢
  obtain⟨vs,rfl,h1⟩:=hv
  exact⟨vs,rfl,n9 hw hbs kH cs vs.toList h h1⟩
 | .tup cs,v,h,hv=>by
  simp only [AV.dT] at h
  simp only [VR] at hv ⊢
  obtain⟨vs,rfl,h1⟩:=hv
  exact⟨vs,rfl,n9 hw hbs kH cs vs.toList h h1⟩
theorem n9 (hw:d.w=c.w)(hbs:d.base≤c.base)(kH:∀b,RO c L b→RO d L' b):∀(xs:List AV) (vs:List Value),cy xs=true→VRs c L xs vs→VRs d L' xs vs
 | [],[],_,_=>trivial
 | x::xs,v::vs,h,hv=>by
  simp only [cy,Ui] at h
  exact⟨zA hw hbs kH x v h.1 hv.1,n9 hw hbs kH xs vs h.2 hv.2⟩
 | [],_::_,_,h=>h.elim
 | _::_,[],_,h=>h.elim
theorem nr (hw:d.w=c.w)(hbs:d.base≤c.base)(kH:∀b,RO c L b→RO d L' b):∀(xs:List AV) (b o:Nat),cy xs=true→Cells c L xs b o→Cells d L' xs b o
 | [],_,_,_,_=>trivial
 | x::xs,b,o,h,hv=>by
  simp only [cy,Ui] at h
  obtain⟨⟨v,h1,h2,h3⟩,h4⟩:=hv
  exact⟨⟨v,by rw [hw]; exact h1,h2,zA hw hbs kH x v h.1 h3⟩,nr hw hbs kH xs b (o+1) h.2 h4⟩
end
mutual
theorem uL (hw:d.w=c.w)(kH:∀b,RO c L b→RO d L' b):∀(x:AV) (v:Value),x.dT=true→VR c L x v→VR d L' x.iV v
 | .any,_,h,_=>by simp [AV.dT] at h
 | .bool _,_,_,h=>h
 | .int _ _,_,_,h=>h
 | .str _,_,_,h=>h
 | .nh,_,_,h=>h
 | .ptr _ _,_,h,_=>by simp [AV.dT] at h
 | .lp _ _,_,h,_=>by simp [AV.dT] at h
 | .fp cs off,v,h,hv=>by
  simp only [AV.dT] at h
  simp only [VR,AV.iV] at hv ⊢
  obtain⟨b,o,rfl,hc⟩:=hv
  refine⟨b,o,rfl,?_⟩
  rcases hc with rfl | ⟨hr,hc⟩
  ·exact .inl rfl
  ·exact .inr ⟨kH b hr,pc hw kH cs b o h hc⟩
 | .nils,v,_,h=>by
  simp only [VR] at h
  simp only [AV.iV,VR]
  exact⟨none,0,h,Uj _,by simp,.inr ⟨trivial,rfl⟩,.inl trivial⟩
 | .fz cs n ex,v,h,hv=>by
  simp only [AV.dT] at h
  simp only [VR,AV.iV] at hv ⊢
  obtain⟨a,cap,rfl,h1,h2,hs,hc⟩:=hv
  refine⟨a,cap,rfl,h1,by simp,hs.imp id fun h=>⟨by rw [h.1]; rfl,h.2⟩,?_⟩
  rcases hc with rfl | ⟨b,o,ha,hr,hex,hc⟩
  ·exact .inl rfl
  ·exact .inr ⟨b,o,ha,kH b hr,by simp,pc hw kH cs b o h hc⟩
 | .rs _ _ _ _,_,h,_=>by simp [AV.dT] at h
 | .lu,_,_,h=>h
 | .mp _,_,h,_=>by simp [AV.dT] at h
 | .fn f cap,v,h,hv=>by
  simp only [AV.dT] at h
  simp only [VR,AV.iV] at hv ⊢
  obtain⟨vs,rfl,h1⟩:=hv
  exact⟨vs,rfl,oa hw kH cap vs.toList h h1⟩
 | .nK,_,_,h=>h
 | .agg cs,v,h,hv=>by
  simp only [AV.dT] at h
  simp only [VR,AV.iV] at hv ⊢
  obtain⟨vs,rfl,h1⟩:=hv
  exact⟨vs,rfl,oa hw kH cs vs.toList h h1⟩
 | .tup cs,v,h,hv=>by
  simp only [AV.dT] at h
  simp only [VR,AV.iV] at hv ⊢
  obtain⟨vs,rfl,h1⟩:=hv
  exact⟨vs,rfl,oa hw kH cs vs.toList h h1⟩
theorem oa (hw:d.w=c.w)(kH:∀b,RO c L b→RO d L' b):∀(xs:List AV) (vs:List Value),cy xs=true→VRs c L xs vs→VRs d L' (dm xs) vs
 | [],[],_,_=>trivial
 | x::xs,v::vs,h,hv=>by
  simp only [cy,Ui] at h
  exact⟨uL hw kH x v h.1 hv.1,oa hw kH xs vs h.2 hv.2⟩
 | [],_::_,_,h=>h.elim
 | _::_,[],_,h=>h.elim
theorem pc (hw:d.w=c.w)(kH:∀b,RO c L b→RO d L' b):∀(xs:List AV) (b o:Nat),cy xs=true→Cells c L xs b o→Cells d L' (dm xs) b o
 | [],_,_,_,_=>trivial
 | x::xs,b,o,h,hv=>by
  simp only [cy,Ui] at h
  obtain⟨⟨v,h1,h2,h3⟩,h4⟩:=hv
  exact⟨⟨v,by rw [hw]; exact h1,h2,uL hw kH x v h.1 h3⟩,pc hw kH xs b (o+1) h.2 h4⟩
end
mutual
theorem pd (hw:d.w=c.w)(kH:∀b,RO c L b→RO d L' b)(hrel:HRel c L)(hid:∀id,Live c.h id→RO d L' (c.β id).1):∀(n:Nat) (x y:AV) (v:Value),b7 c.h n x=some y→VR c L x v→VR d L' y v
 | 0,x,y,v,h,_=>by simp [b7] at h
 | n+1,x,y,v,h,hv=>by
  have MS:(if x.dT then some x.iV else none)=some y→VR d L' y v:=by
   intro h
   split at h
   ·rename_i hn; cases h; exact uL hw kH x v hn hv
   ·cases h
  cases x with
  | ptr id off=>
   simp only [b7,Ud] at h
   obtain⟨ob,ho,h⟩:=h
   cases ob with
   | map es=>cases h
   | row t cs=>cases h
   | cells cs=>
    simp only [Ug] at h
    obtain⟨eS,hcs,rfl⟩:=h
    have hl:Live c.h id:=⟨hrel.lt _ _ ho,by simp [ho]⟩
    obtain⟨m,_,_,hc⟩:=hrel.obj _ _ ho
    simp only [VR] at hv ⊢
    obtain⟨_,a,rfl,ha⟩:=hv
    rw [ha hl]
    exact⟨_,_,rfl,.inr ⟨hid id hl,jy hw kH hrel hid n cs eS _ _ hcs hc⟩⟩
  | rs id off len hH=>
   simp only [b7] at h
   split at h
   ·rename_i hid
    split at h
    rotate_left
    ·cases h
    rename_i hl0
    cases h
    simp only [VR] at hv ⊢
    rcases hv with⟨_,_,_,a,rfl⟩| hv
    ·exact⟨a,0,rfl,Uj _,by simp,.inr ⟨trivial,rfl⟩,.inl trivial⟩
    ·exact absurd hid hv.1
   rename_i jG
   rw [Ud] at h
   obtain⟨ob,ho,h⟩:=h
   cases ob with
   | map es=>cases h
   | row t cs=>cases h
   | cells cs=>
    simp only at h
    split at h
    rotate_left
    ·cases h
    rename_i hle
    simp only [Ug] at h
    obtain⟨eS,hcs,rfl⟩:=h
    have hl:Live c.h id:=⟨hrel.lt _ _ ho,by simp [ho]⟩
    obtain⟨m,_,_,hc⟩:=hrel.obj _ _ ho
    simp only [VR] at hv ⊢
    rcases hv with hv | ⟨_,_,a,cap,rfl,h1,h2,h3⟩
    ·exact absurd hv.1 jG
    refine⟨a,cap,rfl,h1,by simp,.inl h2,?_⟩
    rcases h3 hl with⟨h4,_⟩| h4
    ·exact .inr ⟨_,_,h4,hid id hl,by simp,jy hw kH hrel hid n _ eS _ _ hcs ((hc.drop off).take (len*hH))⟩
    ·left
     have hz:len=0:=by omega
     subst hz
     rw [Nat.zero_mul,List.take_zero] at hcs
     cases n with
     | zero=>simp [bq] at hcs
     | succ n=>simp only [bq,Uh] at hcs; exact hcs.symm
  | agg cs=>
   simp only [b7,Ug] at h
   obtain⟨eS,hcs,rfl⟩:=h
   simp only [VR] at hv ⊢
   obtain⟨vs,rfl,h1⟩:=hv
   exact⟨vs,rfl,hY hw kH hrel hid n cs eS vs.toList hcs h1⟩
  | tup cs=>
   simp only [b7,Ug] at h
   obtain⟨eS,hcs,rfl⟩:=h
   simp only [VR] at hv ⊢
   obtain⟨vs,rfl,h1⟩:=hv
   exact⟨vs,rfl,hY hw kH hrel hid n cs eS vs.toList hcs h1⟩
  | fn f cs=>
   simp only [b7,Ug] at h
   obtain⟨eS,hcs,rfl⟩:=h
   simp only [VR] at hv ⊢
   obtain⟨vs,rfl,h1⟩:=hv
   exact⟨vs,rfl,hY hw kH hrel hid n cs eS vs.toList hcs h1⟩
  | _=>exact MS (by simpa only [b7] using h)
theorem hY (hw:d.w=c.w)(kH:∀b,RO c L b→RO d L' b)(hrel:HRel c L)(hid:∀id,Live c.h id→RO d L' (c.β id).1):∀(n:Nat) (xs ys:List AV) (vs:List Value),bq c.h n xs=some ys→VRs c L xs vs→VRs d L' ys vs
 | 0,xs,ys,vs,h,_=>by simp [bq] at h
 | n+1,[],ys,vs,h,hv=>by
  simp only [bq,Uh] at h
  subst h
  cases vs with
  | nil=>trivial
  | cons v vs=>exact hv.elim
 | n+1,x::xs,ys,vs,h,hv=>by
  simp only [bq,Ud,Ug] at h
  obtain⟨y,hy,zs,hz,rfl⟩:=h
  cases vs with
  | nil=>exact hv.elim
  | cons v vs=>exact⟨pd hw kH hrel hid n x y v hy hv.1,hY hw kH hrel hid n xs zs vs hz hv.2⟩
theorem jy (hw:d.w=c.w)(kH:∀b,RO c L b→RO d L' b)(hrel:HRel c L)(hid:∀id,Live c.h id→RO d L' (c.β id).1):∀(n:Nat) (xs ys:List AV) (b o:Nat),bq c.h n xs=some ys→Cells c L xs b o→Cells d L' ys b o
 | 0,xs,ys,b,o,h,_=>by simp [bq] at h
 | n+1,[],ys,b,o,h,hv=>by
  simp only [bq,Uh] at h
  subst h
  trivial
 | n+1,x::xs,ys,b,o,h,hv=>by
  simp only [bq,Ud,Ug] at h
  obtain⟨y,hy,zs,hz,rfl⟩:=h
  obtain⟨⟨v,h1,h2,h3⟩,h4⟩:=hv
  exact⟨⟨v,by rw [hw]; exact h1,h2,pd hw kH hrel hid n x y v hy h3⟩,jy hw kH hrel hid n xs zs b (o+1) hz h4⟩
end
mutual
theorem nt (hw:d.w=c.w)(hrel:HRel c L)(hid:∀id,Live c.h id→RO d L' (c.β id).1):∀(n:Nat) (x y:AV) (v:Value),fK c.h n x=some y→VR c L x v→VR d L' y v
 | 0,x,y,v,h,_=>by simp [fK] at h
 | n+1,x,y,v,h,hv=>by
  unfold fK at h
  split at h
  ·cases h; exact hv
  ·cases h; exact hv
  ·cases h; exact hv
  ·cases h; exact hv
  ·cases h; exact hv
  ·cases h; exact hv
  ·cases h
   simp only [VR] at hv ⊢
   exact⟨none,0,hv,Uj _,by simp,.inr ⟨trivial,rfl⟩,.inl trivial⟩
  ·cases h
   simp only [VR] at hv ⊢
   obtain⟨a,cap,rfl,h1,h2,hs,_⟩:=hv
   exact⟨a,cap,rfl,h1,by simp,hs,.inl trivial⟩
  ·rename_i id off len hH
   split at h
   ·rename_i jG
    split at h
    rotate_left
    ·cases h
    rename_i hl0
    cases h
    simp only [VR] at hv ⊢
    rcases hv with⟨_,_,_,a,rfl⟩| hv
    ·exact⟨a,0,rfl,Uj _,by simp,.inr ⟨trivial,rfl⟩,.inl trivial⟩
    ·exact absurd jG hv.1
   rename_i jG
   rw [Ud] at h
   obtain⟨ob,ho,h⟩:=h
   cases ob with
   | map es=>cases h
   | row t cs=>cases h
   | cells cs=>
    simp only at h
    split at h
    rotate_left
    ·cases h
    rename_i hle
    simp only [Ug] at h
    obtain⟨eS,hcs,rfl⟩:=h
    have hl:Live c.h id:=⟨hrel.lt _ _ ho,by simp [ho]⟩
    obtain⟨m,_,_,hc⟩:=hrel.obj _ _ ho
    simp only [VR] at hv ⊢
    rcases hv with hv | ⟨_,_,a,cap,rfl,h1,h2,h3⟩
    ·exact absurd hv.1 jG
    refine⟨a,cap,rfl,h1,by simp,.inl h2,?_⟩
    rcases h3 hl with⟨h4,_⟩| h4
    ·exact .inr ⟨_,_,h4,hid id hl,by simp,ln hw hrel hid n _ eS _ _ hcs ((hc.drop off).take (len*hH))⟩
    ·left
     have hz:len=0:=by omega
     subst hz
     rw [Nat.zero_mul,List.take_zero] at hcs
     cases n with
     | zero=>simp [dc] at hcs
     | succ n=>simp only [dc,Uh] at hcs; exact hcs.symm
  ·rename_i cs
   simp only [Ug] at h
   obtain⟨eS,hcs,rfl⟩:=h
   simp only [VR] at hv ⊢
   obtain⟨vs,rfl,h1⟩:=hv
   exact⟨vs,rfl,lV hw hrel hid n cs eS vs.toList hcs h1⟩
  ·rename_i cs
   simp only [Ug] at h
   obtain⟨eS,hcs,rfl⟩:=h
   simp only [VR] at hv ⊢
   obtain⟨vs,rfl,h1⟩:=hv
   exact⟨vs,rfl,lV hw hrel hid n cs eS vs.toList hcs h1⟩
  ·cases h
theorem lV (hw:d.w=c.w)(hrel:HRel c L)(hid:∀id,Live c.h id→RO d L' (c.β id).1):∀(n:Nat) (xs ys:List AV) (vs:List Value),dc c.h n xs=some ys→VRs c L xs vs→VRs d L' ys vs
 | 0,xs,ys,vs,h,_=>by simp [dc] at h
 | n+1,[],ys,vs,h,hv=>by
  simp only [dc,Uh] at h
  subst h
  cases vs with
  | nil=>trivial
  | cons v vs=>exact hv.elim
 | n+1,x::xs,ys,vs,h,hv=>by
  simp only [dc,Ud,Ug] at h
  obtain⟨y,hy,zs,hz,rfl⟩:=h
  cases vs with
  | nil=>exact hv.elim
  | cons v vs=>exact⟨nt hw hrel hid n x y v hy hv.1,lV hw hrel hid n xs zs vs hz hv.2⟩
theorem ln (hw:d.w=c.w)(hrel:HRel c L)(hid:∀id,Live c.h id→RO d L' (c.β id).1):∀(n:Nat) (xs ys:List AV) (b o:Nat),dc c.h n xs=some ys→Cells c L xs b o→Cells d L' ys b o
 | 0,xs,ys,b,o,h,_=>by simp [dc] at h
 | n+1,[],ys,b,o,h,hv=>by
  simp only [dc,Uh] at h
  subst h
  trivial
 | n+1,x::xs,ys,b,o,h,hv=>by
  simp only [dc,Ud,Ug] at h
  obtain⟨y,hy,zs,hz,rfl⟩:=h
  obtain⟨⟨v,h1,h2,h3⟩,h4⟩:=hv
  exact⟨⟨v,by rw [hw]; exact h1,h2,nt hw hrel hid n x y v hy h3⟩,ln hw hrel hid n xs zs b (o+1) hz h4⟩
end
end
section
variable {P:Program}
theorem FI {cf:CallF}(hcf:CallOK P cf)(deep:Nat):CallOK P fun f args h=>if cy args then (cf f (dm args) bz).bind fun x=>(b7 x.2 deep x.1).map fun r=>(r,h) else cf f args h:=by
 intro f args h r h' hc
 dsimp only at hc
 split at hc
 rotate_left
 ·exact hcf f args h r h' hc
 rename_i vA
 rw [Ud] at hc
 obtain⟨⟨x,h1⟩,hx,hc⟩:=hc
 rw [Ug] at hc
 obtain⟨r',hr,he⟩:=hc
 simp only [Um] at he
 obtain⟨rfl,rfl⟩:=he
 obtain⟨hin,hcall⟩:=hcf f (dm args) bz x h1 hx
 refine⟨hin,fun L0 c vs hh hb0 hrel hargs=>?_⟩
 let L1:Nat→Prop:=fun b=>L0 b∨∃id,Live c.h id∧(c.β id).1=b
 let c0:Cx:=⟨fun _=>(0,0),bz,c.w,c.w.heap.size⟩
 have hnl:∀id,¬Live c0.h id:=fun id hl=>by have:=hl.2; cases this
 have C5:∀b,RO c L0 b→RO c0 L1 b:=fun b hb=>⟨fun id hl=>absurd hl (hnl id),fun h=>by
  rcases h with h | ⟨id,h1,h2⟩
  ·exact hb.2 h
  ·exact hb.1 id h1 h2⟩
 have rK:HRel c0 L1:=⟨fun id o ho=>(by cases ho),fun id o ho=>(by cases ho),fun id _ hl _ _=>absurd hl (hnl id),fun id hl=>absurd hl (hnl id),fun b hb=>by
  rcases hb with h | ⟨id,h1,h2⟩
  ·exact hrel.bd b h
  ·rw [←h2]; exact hrel.block h1,fun id hl=>absurd hl (hnl id),fun _=>VB⟩
 refine (hcall L1 c0 vs rfl (Uj _) rK (oa (c:=c) (d:=c0) rfl C5 _ _ vA hargs)).mono ?_
 rintro e w' ⟨c1,v,rfl,rfl,Jz,hv,hrel1,e1⟩
 let d:Cx:=⟨c.β,c.h,c1.w,c.base⟩
 have hk:∀b,b<c.w.heap.size→c1.w.heap[b]? = c.w.heap[b]?:=fun b hb=>e1.exact b hb
 have ed:Ext c none0 d none0:=⟨Uj _,fun id _ hl=>⟨hl,rfl,gM.len (c:=c) (c':=d) (.inl (hk _ (hrel.block hl)))⟩,e1.size,fun b hb _ _=>.inl (hk b hb),fun b hb=>hk b (UD hb hb0),rfl,fun id hl=>.inr ⟨id,hl,rfl⟩,fun _ h=>h,fun _ h=>.inl h,e1.os,e1.tape,e1.output⟩
 have hb1:d.base≤c1.base:=by rw [e1.base]; exact hb0
 have MT:∀b,RO c1 L1 b→RO d L0 b:=fun b hb=>⟨fun id hl he=>hb.2 (.inr ⟨id,hl,he⟩),fun h=>hb.2 (.inl h)⟩
 refine⟨d,v,rfl,rfl,hh,?_,⟨hrel.lt,fun id o ho=>?_,hrel.inj,hrel.out,fun b hb=>UD (hrel.bd b hb) e1.size,hrel.low,hrel.ver⟩,ed⟩
 ·refine pd (c:=c1) (d:=d) (L:=L1) rfl MT hrel1 (fun id hl=>⟨fun jV nF he=>hrel1.out id hl (.inr ⟨jV,nF,he⟩),fun h=>hrel1.out id hl (.inl h)⟩) deep x r' v ?_ hv
  rw [Jz]; exact hr
 ·have hl:Live c.h id:=⟨hrel.lt _ _ ho,by rw [ho]; rfl⟩
  have:=(hrel.obj id o ho)
  have h2:=nO.ext (L0:=L0) ed (b:=(c.β id).1) (base:=(c.β id).2) (o:=o) (by rw [gP]; exact this) (hk _ (hrel.block hl))
  rw [gP] at h2
  exact h2
theorem oc {c:Cx}{L:Nat→Prop}:∀{xs:List AV} {vs:List Value},VRs c L xs vs→VRs c L (xs.map aL) vs
 | [],[],_=>trivial
 | x::_,_::_,h=>⟨by
   unfold aL
   cases hn:x.dT with
   | false=>exact h.1
   | true=>exact uL rfl (fun _ h=>h) x _ hn h.1,oc h.2⟩
 | [],_::_,h=>h.elim
 | _::_,[],h=>h.elim
theorem wq {cf:CallF}(hcf:CallOK P cf):CallOK P fun f args h=>cf f (args.map aL) h:=by
 intro f args h r h' hc
 obtain⟨h1,h2⟩:=hcf f _ h r h' hc
 exact⟨h1,fun L0 c vs hh hb0 hrel hargs=>h2 L0 c vs hh hb0 hrel (oc hargs)⟩
theorem FJ {cf:CallF}(hcf:CallOK P cf)(deep:Nat):CallOK P fun f args h=>(bq h deep args).bind fun as=>(cf f as bz).bind fun x=>(fK x.2 deep x.1).map fun r=>(r,h):=by
 intro f args h r h' hc
 dsimp only at hc
 simp only [Ud,Ug,Um] at hc
 obtain⟨as,has,⟨x,h1⟩,hx,r',hr,rfl,rfl⟩:=hc
 obtain⟨hin,hcall⟩:=hcf f as bz x h1 hx
 refine⟨hin,fun L0 c vs hh hb0 hrel hargs=>?_⟩
 let c0:Cx:=⟨fun _=>(0,0),bz,c.w,c.w.heap.size⟩
 have hnl:∀id,¬Live c0.h id:=fun id hl=>by have:=hl.2; cases this
 have C5:∀b,RO c L0 b→RO c0 L0 b:=fun b hb=>⟨fun id hl=>absurd hl (hnl id),hb.2⟩
 have rK:HRel c0 L0:=⟨fun id o ho=>(by cases ho),fun id o ho=>(by cases ho),fun id _ hl _ _=>absurd hl (hnl id),fun id hl=>absurd hl (hnl id),hrel.bd,fun id hl=>absurd hl (hnl id),fun _=>VB⟩
 have rL:VRs c0 L0 as vs:=hY (c:=c) (d:=c0) rfl C5 hrel (fun id hl=>⟨fun jV nF=>absurd nF (hnl jV),hrel.out id hl⟩) deep args as vs (by rw [hh]; exact has) hargs
 refine (hcall L0 c0 vs rfl (Uj _) rK rL).mono ?_
 rintro e w' ⟨c1,v,rfl,rfl,Jz,hv,hrel1,e1⟩
 let d:Cx:=⟨c.β,c.h,c1.w,c.base⟩
 have hk:∀b,b<c.w.heap.size→c1.w.heap[b]? = c.w.heap[b]?:=fun b hb=>e1.exact b hb
 have ed:Ext c none0 d none0:=⟨Uj _,fun id _ hl=>⟨hl,rfl,gM.len (c:=c) (c':=d) (.inl (hk _ (hrel.block hl)))⟩,e1.size,fun b hb _ _=>.inl (hk b hb),fun b hb=>hk b (UD hb hb0),rfl,fun id hl=>.inr ⟨id,hl,rfl⟩,fun _ h=>h,fun _ h=>.inl h,e1.os,e1.tape,e1.output⟩
 refine⟨d,v,rfl,rfl,hh,?_,⟨hrel.lt,fun id o ho=>?_,hrel.inj,hrel.out,fun b hb=>UD (hrel.bd b hb) e1.size,hrel.low,hrel.ver⟩,ed⟩
 ·refine nt (c:=c1) (d:=d) (L:=L0) rfl hrel1 (fun id hl=>⟨fun jV nF he=>?_,hrel1.out id hl⟩) deep x r' v ?_ hv
  ·rcases e1.Fq id hl with h2 | ⟨oQ,h2,_⟩
   ·have:=hrel.block nF
    have h3:(c.β jV).1=(c1.β id).1:=he
    have h4:c.w.heap.size≤(c1.β id).1:=h2
    omega
   ·exact absurd h2 (hnl oQ)
  ·rw [Jz]; exact hr
 ·have hl:Live c.h id:=⟨hrel.lt _ _ ho,by rw [ho]; rfl⟩
  have:=(hrel.obj id o ho)
  have h2:=nO.ext (L0:=L0) ed (b:=(c.β id).1) (base:=(c.β id).2) (o:=o) (by rw [gP]; exact this) (hk _ (hrel.block hl))
  rw [gP] at h2
  exact h2
section
variable {c1 d:Cx}{L1:Nat→Prop}{k:Nat}
mutual
theorem rM (hw:d.w=c1.w)(hn:∀id,id<c1.h.next→id+k<d.h.next)(hl:∀id,Live d.h (id+k)→Live c1.h id∧d.β (id+k)=c1.β id):∀(x y:AV) (v:Value),cP k x=some y→VR c1 L1 x v→VR d L1 y v
 | .any,_,_,h,_=>by simp [cP] at h
 | .bool _,_,_,h,hv=>by simp only [cP,Uh] at h; subst h; exact hv
 | .int _ _,_,_,h,hv=>by simp only [cP,Uh] at h; subst h; exact hv
 | .str _,_,_,h,hv=>by simp only [cP,Uh] at h; subst h; exact hv
 | .nh,_,_,h,hv=>by simp only [cP,Uh] at h; subst h; exact hv
 | .lu,_,_,h,hv=>by simp only [cP,Uh] at h; subst h; exact hv
 | .nK,_,_,h,hv=>by simp only [cP,Uh] at h; subst h; exact hv
 | .nils,_,_,h,hv=>by simp only [cP,Uh] at h; subst h; exact hv
 | .ptr id off,_,_,h,hv=>by
  simp only [cP,Uh] at h
  subst h
  simp only [VR] at hv ⊢
  obtain⟨h1,a,rfl,h2⟩:=hv
  refine⟨hn _ h1,a,rfl,fun ll=>?_⟩
  obtain⟨g1,g2⟩:=hl _ ll
  rw [g2]; exact h2 g1
 | .lp _ _,_,_,h,_=>by simp [cP] at h
 | .fp _ _,_,_,h,_=>by simp [cP] at h
 | .fz _ _ _,_,_,h,_=>by simp [cP] at h
 | .rs id off len z,y,v,h,hv=>by
  simp only [cP] at h
  split at h
  ·rename_i h0
   cases h
   subst h0
   simp only [VR] at hv ⊢
   rcases hv with⟨_,h2,h3,h4⟩| h1
   ·exact .inl ⟨trivial,h2,h3,h4⟩
   ·exact absurd rfl h1.1
  ·rename_i h0
   cases h
   simp only [VR] at hv ⊢
   rcases hv with h1 | ⟨_,h1,a,cap,rfl,h2,h3,h4⟩
   ·exact absurd h1.1 h0
   refine .inr ⟨by omega,hn _ h1,a,cap,rfl,h2,h3,fun ll=>?_⟩
   obtain⟨g1,g2⟩:=hl _ ll
   have:=h4 g1
   rw [g2]
   unfold Cx.len at this ⊢
   rw [hw]; exact this
 | .mp _,_,_,h,_=>by simp [cP] at h
 | .fn _ _,_,_,h,_=>by simp [cP] at h
 | .agg cs,_,v,h,hv=>by
  simp only [cP,Ug] at h
  obtain⟨ys,h1,rfl⟩:=h
  simp only [VR] at hv ⊢
  obtain⟨vs,rfl,h2⟩:=hv
  exact⟨vs,rfl,pe hw hn hl cs ys vs.toList h1 h2⟩
 | .tup cs,_,v,h,hv=>by
  simp only [cP,Ug] at h
  obtain⟨ys,h1,rfl⟩:=h
  simp only [VR] at hv ⊢
  obtain⟨vs,rfl,h2⟩:=hv
  exact⟨vs,rfl,pe hw hn hl cs ys vs.toList h1 h2⟩
theorem pe (hw:d.w=c1.w)(hn:∀id,id<c1.h.next→id+k<d.h.next)(hl:∀id,Live d.h (id+k)→Live c1.h id∧d.β (id+k)=c1.β id):∀(xs ys:List AV) (vs:List Value),cb k xs=some ys→VRs c1 L1 xs vs→VRs d L1 ys vs
 | [],ys,[],h,_=>by simp only [cb,Uh] at h; subst h; trivial
 | x::xs,ys,v::vs,h,hv=>by
  simp only [cb,Ud,Ug] at h
  obtain⟨y,h1,RI,h2,rfl⟩:=h
  exact⟨rM hw hn hl x y v h1 hv.1,pe hw hn hl xs RI vs h2 hv.2⟩
 | [],_,_::_,_,h=>h.elim
 | _::_,_,[],_,h=>h.elim
end
theorem pX (hw:d.w=c1.w)(hn:∀id,id<c1.h.next→id+k<d.h.next)(hl:∀id,Live d.h (id+k)→Live c1.h id∧d.β (id+k)=c1.β id):∀(xs:List AV) (b o:Nat),Cells c1 L1 xs b o→Cells d L1 (fi k xs) b o
 | [],_,_,_=>trivial
 | x::xs,b,o,h=>by
  obtain⟨⟨v,h1,h2,h3⟩,h4⟩:=h
  unfold fi
  cases hx:cP k x with
  | none=>trivial
  | some y=>exact⟨⟨v,by rw [hw]; exact h1,h2,rM hw hn hl x y v hx h3⟩,pX hw hn hl xs b (o+1) h4⟩
end
theorem rN (k:Nat):∀xs:List AV,(fi k xs).length≤xs.length
 | []=>Uj _
 | x::xs=>by
  unfold fi
  cases cP k x with
  | none=>exact U8 _
  | some y=>exact Nat.succ_le_succ (rN k xs)
theorem iS {h h1:AHeap}{i:Nat}(hi:i<h.next):(h.eB h1).get i=h.get i∧(h.eB h1).ver i=h.ver i:=by
 have:Nat.blt i h.next=true:=by rw [Nat.blt_eq]; exact hi
 simp only [AHeap.eB,this,cond_true,and_self]
theorem jz {h h1:AHeap}{i:Nat}(hi:h.next≤i):(h.eB h1).get i=(h1.get (i - h.next)).bind (ya h.next)∧(h.eB h1).ver i=h.next+h1.ver (i - h.next):=by
 have:Nat.blt i h.next=false:=by
  cases hb:Nat.blt i h.next with
  | false=>rfl
  | true=>rw [Nat.blt_eq] at hb; omega
 simp only [AHeap.eB,this,cond_false,and_self]
theorem Steady.eB {h h1:AHeap}(hw:∀id,h1.ver id<h1.next):Steady h (h.eB h1):=by
 refine⟨Nat.le_add_right _ _,fun i=>?_,fun hv i=>?_⟩
 ·by_cases hi:i<h.next
  ·exact .inl ⟨(iS hi).2,(iS hi).1⟩
  ·right; rw [(jz (UI hi)).2]; exact Nat.le_add_right _ _
 ·show _<h.next+h1.next
  by_cases hi:i<h.next
  ·rw [(iS hi).2]; have:=hv i; omega
  ·rw [(jz (UI hi)).2]; have:=hw (i - h.next); omega
theorem C6 {cf:CallF}(hcf:CallOK P cf)(deep:Nat):CallOK P fun f args h=>(bq h deep args).bind fun us=>(cf f us bz).bind fun x=>(cP h.next x.1).map fun r=>(r,h.eB x.2):=by
 intro f args h r h' hc
 dsimp only at hc
 simp only [Ud,Ug,Um] at hc
 obtain⟨us,has,⟨x,h1⟩,hx,r',hr,rfl,rfl⟩:=hc
 obtain⟨hin,hcall⟩:=hcf f us bz x h1 hx
 refine⟨hin,fun L0 c vs hh hb0 hrel hargs=>?_⟩
 let c0:Cx:=⟨fun _=>(0,0),bz,c.w,c.w.heap.size⟩
 have hnl:∀id,¬Live c0.h id:=fun id hl=>by have:=hl.2; cases this
 have C5:∀b,RO c L0 b→RO c0 L0 b:=fun b hb=>⟨fun id hl=>absurd hl (hnl id),hb.2⟩
 have rK:HRel c0 L0:=⟨fun id o ho=>(by cases ho),fun id o ho=>(by cases ho),fun id _ hl _ _=>absurd hl (hnl id),fun id hl=>absurd hl (hnl id),hrel.bd,fun id hl=>absurd hl (hnl id),fun _=>VB⟩
 have rL:VRs c0 L0 us vs:=hY (c:=c) (d:=c0) rfl C5 hrel (fun id hl=>⟨fun jV nF=>absurd nF (hnl jV),hrel.out id hl⟩) deep args us vs (by rw [hh]; exact has) hargs
 refine (hcall L0 c0 vs rfl (Uj _) rK rL).mono ?_
 rintro e w' ⟨c1,v,rfl,rfl,Jz,hv,hrel1,e1⟩
 let d:Cx:=⟨fun i=>if i<c.h.next then c.β i else c1.β (i - c.h.next),c.h.eB c1.h,c1.w,c.base⟩
 have hk:∀b,b<c.w.heap.size→c1.w.heap[b]? = c.w.heap[b]?:=fun b hb=>e1.exact b hb
 have pK:∀i,i<c.h.next→Live d.h i→Live c.h i:=fun i hi hl=>⟨hi,by have:=hl.2; rw [show d.h.get i=_ from (iS hi).1] at this; exact this⟩
 have G5:∀i,c.h.next≤i→Live d.h i→Live c1.h (i - c.h.next):=fun i hi hl=>by
  have h2:=hl.2
  rw [show d.h.get i=_ from (jz hi).1] at h2
  cases hg:c1.h.get (i - c.h.next) with
  | none=>rw [hg] at h2; cases h2
  | some o=>exact⟨hrel1.lt _ _ hg,by rw [hg]; rfl⟩
 have FK:∀i,i<c.h.next→d.β i=c.β i:=fun i hi=>if_pos hi
 have C7:∀i,c.h.next≤i→d.β i=c1.β (i - c.h.next):=fun i hi=>if_neg (by omega)
 have FL:∀i,Live c1.h i→c.w.heap.size≤(c1.β i).1:=fun i hl=>by
  rcases e1.Fq i hl with h2 | ⟨oQ,h2,_⟩
  ·exact h2
  ·exact absurd h2 (hnl oQ)
 have ed:Ext c none0 d none0:=⟨Nat.le_add_right _ _,fun id hi hl=>⟨pK id hi hl,FK id hi,gM.len (c:=c) (c':=d) (.inl (hk _ (hrel.block (pK id hi hl))))⟩,e1.size,fun b hb _ _=>.inl (hk b hb),fun b hb=>hk b (UD hb hb0),rfl,fun id hl=>by
  by_cases hi:id<c.h.next
  ·exact .inr ⟨id,pK id hi hl,by rw [FK id hi]⟩
  ·rw [C7 id (UI hi)]
   exact .inl (FL _ (G5 id (UI hi) hl)),fun _ h=>h,fun _ h=>.inl h,e1.os,e1.tape,e1.output⟩
 have gn:∀id,id<c1.h.next→id+c.h.next<d.h.next:=fun id hi=>by show _<c.h.next+c1.h.next; omega
 have gl:∀id,Live d.h (id+c.h.next)→Live c1.h id∧d.β (id+c.h.next)=c1.β id:=fun id hl=>by
  have a:=G5 (id+c.h.next) (Nat.le_add_left _ _) hl
  have b:=C7 (id+c.h.next) (Nat.le_add_left _ _)
  rw [Nat.add_sub_cancel] at a b
  exact⟨a,b⟩
 refine⟨d,v,rfl,rfl,?_,?_,⟨fun id o ho=>?_,fun id o ho=>?_,fun id jV hl nF he=>?_,fun id hl=>?_,fun b hb=>UD (hrel.bd b hb) e1.size,fun id hl=>?_,fun id=>?_⟩,ed⟩
 ·show c.h.eB c1.h=h.eB h1
  rw [hh,Jz]
 ·refine rM (c1:=c1) (d:=d) (k:=c.h.next) rfl gn gl x r' v ?_ hv
  rw [hh]; exact hr
 ·show id<c.h.next+c1.h.next
  by_cases hi:id<c.h.next
  ·omega
  ·rw [show d.h.get id=_ from (jz (UI hi)).1,Ud] at ho
   obtain⟨o1,GX,_⟩:=ho
   have:=hrel1.lt _ _ GX
   omega
 ·by_cases hi:id<c.h.next
  ·rw [show d.h.get id=_ from (iS hi).1] at ho
   have hl:Live c.h id:=⟨hi,by rw [ho]; rfl⟩
   have:=(hrel.obj id o ho)
   have h2:=nO.ext (L0:=L0) ed (b:=(c.β id).1) (base:=(c.β id).2) (o:=o) (by rw [gP]; exact this) (hk _ (hrel.block hl))
   rw [gP] at h2
   rw [FK id hi]
   exact h2
  ·rw [show d.h.get id=_ from (jz (UI hi)).1,Ud] at ho
   obtain⟨o1,GX,ho⟩:=ho
   rw [C7 id (UI hi)]
   cases o1 with
   | map es=>cases ho
   | row t cs=>cases ho
   | cells cs=>
    simp only [ya,Uh] at ho
    subst ho
    obtain⟨n,g1,g2,g3⟩:=hrel1.obj _ _ GX
    exact⟨n,g1,U1 (Nat.add_le_add_left (rN _ _) _) g2,pX (c1:=c1) (d:=d) rfl gn gl cs _ _ g3⟩
 ·by_cases hi:id<c.h.next<;>by_cases jo:jV<c.h.next
  ·rw [FK id hi,FK jV jo] at he
   exact hrel.inj id jV (pK id hi hl) (pK jV jo nF) he
  ·rw [FK id hi,C7 jV (UI jo)] at he
   have a:=hrel.block (pK id hi hl)
   have b:=FL _ (G5 jV (UI jo) nF)
   omega
  ·rw [C7 id (UI hi),FK jV jo] at he
   have a:=hrel.block (pK jV jo nF)
   have b:=FL _ (G5 id (UI hi) hl)
   omega
  ·rw [C7 id (UI hi),C7 jV (UI jo)] at he
   have:=hrel1.inj _ _ (G5 id (UI hi) hl) (G5 jV (UI jo) nF) he
   omega
 ·by_cases hi:id<c.h.next
  ·rw [FK id hi]; exact hrel.out id (pK id hi hl)
  ·rw [C7 id (UI hi)]; exact hrel1.out _ (G5 id (UI hi) hl)
 ·show c.base≤_
  by_cases hi:id<c.h.next
  ·rw [FK id hi]; exact hrel.low id (pK id hi hl)
  ·rw [C7 id (UI hi)]; exact U1 hb0 (FL _ (G5 id (UI hi) hl))
 ·show _<c.h.next+c1.h.next
  by_cases hi:id<c.h.next
  ·rw [show d.h.ver id=_ from (iS hi).2]; have:=hrel.ver id; omega
  ·rw [show d.h.ver id=_ from (jz (UI hi)).2]; have:=hrel1.ver (id - c.h.next); omega
theorem kS {T:mS}(pY:IntrOK P T.intr)(m:Nat):∀k,SteadyF (eC P T m k)
 | 0=>fun f args h r h' hc=>by simp [eC] at hc
 | k+1=>fun f args h r h' hc=>by
  have hb:=uC (P:=P) (aV:=T.aV) (m:=m) (kS pY m k)
  simp only [eC] at hc
  split at hc
  ·rename_i g hg
   exact (pY f g hg).2 _ _ _ _ hc
  ·split at hc
   ·split at hc
    ·simp only [Ud] at hc
     obtain⟨us,_,x,hx,hc⟩:=hc
     obtain⟨r',_,h2⟩:=Option.map_some' hc
     cases h2
     exact Steady.eB ((hb _ _ _ _ _ hx).wf fun _=>VB)
    split at hc
    ·rw [Ud] at hc
     obtain⟨x,_,hc⟩:=hc
     obtain⟨r',_,h2⟩:=Option.map_some' hc
     cases h2
     exact Steady.refl _
    ·split at hc
     ·rw [Ud] at hc
      obtain⟨x,_,hc⟩:=hc
      obtain⟨r',_,h2⟩:=Option.map_some' hc
      cases h2
      exact Steady.refl _
     ·exact hb _ _ _ _ _ hc
   ·exact hb _ _ _ _ _ hc
theorem od (hP:Fit P){T:mS}(pY:IntrOK P T.intr)(m:Nat):∀k,CallOK P (eC P T m k)
 | 0=>fun f args h r h' hc=>by simp [eC] at hc
 | k+1=>fun f args h r h' hc=>by
  have ih:=od hP pY m k
  have hb:=wc hP (aV:=T.aV) ih (wk hP.mixed ih (kS pY m k)) m
  simp only [eC] at hc
  split at hc
  ·rename_i g hg
   exact (pY f g hg).1 f args h r h' (by simpa using hc)
  ·split at hc
   ·rename_i deep _
    split at hc
    ·exact C6 hb deep f args h r h' hc
    by_cases vA:cy args=true
    ·exact FI hb deep f args h r h' (by dsimp only; rw [if_pos vA] at hc ⊢; exact hc)
    ·rw [if_neg vA] at hc
     split at hc
     ·rename_i as has
      refine FJ hb deep f args h r h' ?_
      dsimp only
      rw [has]
      exact hc
     ·exact wq hb f args h r h' hc
   ·exact wq hb f args h r h' hc
def Kh (P : Program) : Bool := P.funcs.toList.all fun fn => fn.name != "runtime.NumGoroutine" && match fn.body with | some c => jP fn.ntmps c | none => true
theorem HW (h1:P.follows .mixedOrders=true)(h2:Kh P=true):Fit P:=by
 refine⟨h1,fun f fn c hf hb=>?_⟩
 unfold Kh at h2
 rw [Uy] at h2
 have:=h2 fn (U5.2 (Array.mem_of_getElem? hf))
 rw [hb] at this
 simp only [Ui,bne_iff_ne,ne_eq] at this
 exact⟨this.2,this.1⟩
theorem mD:IntrOK P fun _=>none:=fun f g h=>by cases h
end
end Go.R
