/- What an operation reads: its result from a like state. -/
import Derived.Test.YtmekcfdllhphlaaDoorRCode
set_option linter.unusedVariables false
set_option linter.unusedSimpArgs false
namespace Go.R
open Go

/-- s2, with what s' has where the operation writes. -/
def RS.shift (s2 : RS) (f : Foot) (d : Option Nat) (s' : RS) : RS :=
  { ρ := match d with | none => s2.ρ | some d => fun t => if t = d then s'.ρ d else s2.ρ t
    bx := match f.wb with | none => s2.bx | some k => fun t => if t = k then s'.bx k else s2.bx t
    h := if f.wh then s'.h else s2.h }

theorem RS.ext' {s t : RS} (h1 : ∀ i, s.ρ i = t.ρ i) (h2 : ∀ i, s.bx i = t.bx i) (h3 : s.h = t.h) : s = t := by
  cases s; cases t
  congr
  · exact funext h1
  · exact funext h2

theorem shift_val (s s2 : RS) (f : Foot) (d : Option Nat) (z : AV) (hw : f.wb = none) (hh : f.wh = false) : s2.set d z = s2.shift f d (s.set d z) := by
  refine RS.ext' (fun i => ?_) (fun i => ?_) ?_
  · cases d with
    | none => rfl
    | some d => simp only [set_ρ, RS.shift, if_true]
  · simp only [RS.shift, hw]; cases d <;> rfl
  · simp only [RS.shift, hh]; cases d <;> rfl

theorem set_h (s : RS) (d : Option Nat) (z : AV) : (s.set d z).h = s.h := by cases d <;> rfl
theorem set_bx (s : RS) (d : Option Nat) (z : AV) : (s.set d z).bx = s.bx := by cases d <;> rfl
theorem box_bx (s : RS) (k i : Nat) (cs : List AV) : (s.box k cs).bx i = if i = k then some cs else s.bx i := by
  simp only [RS.box, beq_nat]
  by_cases h : i = k <;> simp [h]

theorem shift_heap (s s2 : RS) (f : Foot) (d : Option Nat) (z : AV) (h' : AHeap) (hw : f.wb = none) (hh : f.wh = true) : ({ s2 with h := h' } : RS).set d z = s2.shift f d (({ s with h := h' } : RS).set d z) := by
  refine RS.ext' (fun i => ?_) (fun i => ?_) ?_
  · cases d with
    | none => rfl
    | some d => simp only [set_ρ, RS.shift, if_true]
  · simp only [RS.shift, hw]; cases d <;> rfl
  · simp only [RS.shift, hh]; cases d <;> rfl

theorem shift_box (s s2 : RS) (f : Foot) (k : Nat) (cs : List AV) (hw : f.wb = some k) (hh : f.wh = false) : s2.box k cs = s2.shift f none (s.box k cs) := by
  refine RS.ext' (fun i => rfl) (fun i => ?_) ?_
  · simp only [box_bx, RS.shift, hw, if_true]
  · simp only [RS.shift, hh]; rfl

section
variable {P : Program} {cf : CallF} {locs ds : List Nat} {o : Oper} {s s' s2 : RS}

theorem newBox_local {cs : List AV} {f : Foot} (h : newBox s locs ds o cs = some s') (hf : f = (match o.dst with
    | some d => if locs.contains d then { wb := some d, al := true } else { wh := true }
    | none => {})) (hh : f.wh = true → s2.h = s.h) (hal : f.al = true → ∀ d, o.dst = some d → noLp d s2.ρ (ds.filter fun t => !Nat.beq t d) = true) :
    newBox s2 locs ds o cs = some (s2.shift f o.dst s') := by
  unfold newBox at h ⊢
  split at h
  rotate_left
  · cases h
  rename_i hok
  rw [if_pos hok]
  cases hd : o.dst with
  | none => rw [hd] at h; cases h
  | some d =>
    rw [hd] at h hf
    simp only at h hf ⊢
    by_cases hl : locs.contains d = true
    · rw [if_pos hl] at h hf ⊢
      subst hf
      split at h
      rotate_left
      · cases h
      cases h
      rw [if_pos (hal rfl d hd)]
      congr 1
      refine RS.ext' (fun i => ?_) (fun i => ?_) ?_
      · simp only [set_ρ, RS.shift, if_true]; rfl
      · simp only [set_bx, box_bx, RS.shift, if_true]
      · simp only [set_h, RS.shift]; rfl
    · rw [if_neg hl] at h hf ⊢
      subst hf
      cases h
      rw [hh rfl]
      congr 1
      exact shift_heap s s2 { wh := true } (some d) _ _ rfl rfl

theorem opE_local {e : Operand → AV} (h : opE P cf locs ds e s o = some s') (hb : ∀ k ∈ (footE locs e o).rb, s2.bx k = s.bx k) (hr : ∀ id ∈ (footE locs e o).rh, s2.h.get id = s.h.get id)
    (hh : (footE locs e o).wh = true → s2.h = s.h) (hal : (footE locs e o).al = true → ∀ d, o.dst = some d → noLp d s2.ρ (ds.filter fun t => !Nat.beq t d) = true) :
    opE P cf locs ds e s2 o = some (s2.shift (footE locs e o) o.dst s') := by
  have hval : ∀ {x x2 : Option AV} (f : Foot), (x.map fun x => s.set o.dst x) = some s' → (x2 = x) → f.wb = none → f.wh = false → (x2.map fun x => s2.set o.dst x) = some (s2.shift f o.dst s') := by
    intro x x2 f hx h2 h3 h4
    obtain ⟨z, rfl, rfl⟩ := Option.map_some' hx
    subst h2
    simp only [Option.map_some]
    rw [← shift_val s s2 f o.dst z h3 h4]
  have hheap : ∀ {α : Type} {x x2 : Option α} (f : Foot) (g : α → AV) (k : α → AHeap), (x.map fun y => ({ s with h := k y } : RS).set o.dst (g y)) = some s' → (x2 = x) → f.wb = none → f.wh = true →
      (x2.map fun y => ({ s2 with h := k y } : RS).set o.dst (g y)) = some (s2.shift f o.dst s') := by
    intro α x x2 f g k hx h2 h3 h4
    obtain ⟨z, rfl, rfl⟩ := Option.map_some' hx
    subst h2
    simp only [Option.map_some]
    rw [← shift_heap s s2 f o.dst (g z) (k z) h3 h4]
  unfold opE at h ⊢
  dsimp only at h ⊢
  split at h
  · rename_i x ho; cases h; simp only [Option.some.injEq]; exact shift_val s s2 _ _ _ (by simp [footE, ho]) (by simp [footE, ho])
  · rename_i x ho; cases h; simp only [Option.some.injEq]; exact shift_val s s2 _ _ _ (by simp [footE, ho]) (by simp [footE, ho])
  · rename_i k x y ho
    obtain ⟨t, ht, rfl⟩ := Option.map_some' h
    simp only [ht, Option.map_some, Option.some.injEq]
    exact shift_val s s2 _ _ _ (by simp [footE, ho]) (by simp [footE, ho])
  · rename_i t ho
    rw [Option.bind_eq_some_iff] at h
    obtain ⟨z, hz, h⟩ := h
    simp only [hz, Option.bind_some]
    exact newBox_local h (by simp only [footE, ho]; rfl) hh hal
  · rename_i t x ho
    exact newBox_local h (by simp only [footE, ho]; rfl) hh hal
  · rename_i t ps ho; exact hval _ h rfl (by simp [footE, ho]) (by simp [footE, ho])
  · rename_i t k ps ho; exact hval _ h rfl (by simp [footE, ho]) (by simp [footE, ho])
  · -- load
    rename_i t x ho
    have hf : footE locs e o = (match e x with | .lp k _ => { rb := [k] } | .ptr id _ => { rh := [id] } | _ => {}) := by simp only [footE, ho]; rfl
    refine hval _ h ?_ ?_ ?_
    · rw [hf] at hb hr
      unfold loadA
      cases hx : e x <;> rw [hx] at hb hr <;> try rfl
      · simp only; rw [hr _ (by simp)]
      · simp only; rw [hb _ (by simp)]
    · rw [hf]; cases e x <;> rfl
    · rw [hf]; cases e x <;> rfl
  · -- store
    rename_i t x y ho
    have hf : footE locs e o = (match e x with | .lp k _ => { rb := [k], wb := some k } | _ => { wh := true }) := by simp only [footE, ho]; rfl
    try simp only at h ⊢
    split at h
    · cases h
    rename_i hd
    rw [if_neg hd]
    have hd' : o.dst = none := by simpa using hd
    cases hx : e x <;> rw [hx] at h hf <;> simp only at h hf ⊢ <;> try (cases h; done)
    · rename_i id off
      rw [hf] at hh ⊢
      rw [Option.bind_eq_some_iff] at h
      obtain ⟨ob, hob, h⟩ := h
      rw [hh rfl, hob]
      cases ob with
      | map es => cases h
      | row t cs => cases h
      | cells cs =>
        obtain ⟨cs', hcs, rfl⟩ := Option.map_some' h
        simp only [Option.bind_some, hcs, Option.map_some, hd', Option.some.injEq]
        exact shift_heap s s2 { wh := true } none .any _ rfl rfl
    · rename_i k off
      rw [hf] at hb ⊢
      rw [Option.bind_eq_some_iff] at h
      obtain ⟨cs, hcs, h⟩ := h
      rw [hb k (by simp), hcs]
      obtain ⟨cs', hcs', rfl⟩ := Option.map_some' h
      simp only [Option.bind_some, hcs', Option.map_some, hd', Option.some.injEq]
      exact shift_box s s2 _ k cs' rfl rfl
  · rename_i ho; exact hval _ h rfl (by simp [footE, ho]) (by simp [footE, ho])
  · rename_i ho; exact hval _ h rfl (by simp [footE, ho]) (by simp [footE, ho])
  · rename_i ho; exact hval _ h rfl (by simp [footE, ho]) (by simp [footE, ho])
  · -- convert
    rename_i a b x ho
    have hf : footE locs e o = (match e x with | .rs id _ _ _ => { rh := [id] } | _ => {}) := by simp only [footE, ho]; rfl
    refine hval _ h ?_ ?_ ?_
    · have hc : cellsOfA s2.h 1 (e x) = cellsOfA s.h 1 (e x) := by
        rw [hf] at hr
        unfold cellsOfA
        cases hx : e x <;> rw [hx] at hr <;> try rfl
        simp only; rw [hr _ (by simp)]
      unfold convertA
      rw [hc]
    · rw [hf]; cases e x <;> rfl
    · rw [hf]; cases e x <;> rfl
  · rename_i fid first cap ho
    try simp only
    split at h
    · rename_i hc
      rw [if_pos hc]
      exact hval _ h rfl (by simp [footE, ho]) (by simp [footE, ho])
    · cases h
  · rename_i ho
    have hf : (footE locs e o).wh = true := by simp [footE, ho]
    cases h
    simp only [hh hf, Option.some.injEq]
    exact shift_heap s s2 _ _ _ _ (by simp [footE, ho]) hf
  · rename_i t l c ho
    have hf : (footE locs e o).wh = true := by simp [footE, ho]
    exact hheap _ (fun y : AV × AHeap => y.1) (fun y => y.2) h (by simp only [hh hf]) (by simp [footE, ho]) hf
  · rename_i ho; exact hval _ h rfl (by simp [footE, ho]) (by simp [footE, ho])
  · rename_i ho; exact hval _ h rfl (by simp [footE, ho]) (by simp [footE, ho])
  · rename_i ho; exact hval _ h rfl (by simp [footE, ho]) (by simp [footE, ho])
  · rename_i ho; exact hval _ h rfl (by simp [footE, ho]) (by simp [footE, ho])
  · rename_i ho; exact hval _ h rfl (by simp [footE, ho]) (by simp [footE, ho])
  · -- lookup
    rename_i t m k ok ho
    have hf : footE locs e o = (match e m with | .mp id => { rh := [id] } | _ => {}) := by simp only [footE, ho]; rfl
    refine hval _ h ?_ ?_ ?_
    · rw [hf] at hr
      unfold lookupA
      cases hx : e m <;> rw [hx] at hr <;> try rfl
      simp only; rw [hr _ (by simp)]
    · rw [hf]; cases e m <;> rfl
    · rw [hf]; cases e m <;> rfl
  · rename_i t m k x ho
    have hf : (footE locs e o).wh = true := by simp [footE, ho]
    try simp only at h ⊢
    split at h
    · cases h
    rename_i hd
    rw [if_neg hd]
    have hd' : o.dst = none := by simpa using hd
    obtain ⟨h', hm, rfl⟩ := Option.map_some' h
    simp only [hh hf, hm, Option.map_some, hd', Option.some.injEq]
    exact shift_heap s s2 _ none .any _ (by simp [footE, ho]) hf
  · rename_i t m k x ho
    have hf : (footE locs e o).wh = true := by simp [footE, ho]
    try simp only at h ⊢
    split at h
    · cases h
    rename_i hd
    rw [if_neg hd]
    have hd' : o.dst = none := by simpa using hd
    obtain ⟨h', hm, rfl⟩ := Option.map_some' h
    simp only [hh hf, hm, Option.map_some, hd', Option.some.injEq]
    exact shift_heap s s2 _ none .any _ (by simp [footE, ho]) hf
  · rename_i ho; exact hval _ h rfl (by simp [footE, ho]) (by simp [footE, ho])
  · -- a builtin
    rename_i b args ats ho
    try simp only
    unfold callBuiltin at h ⊢
    generalize hargs : args.toList.map e = as at h ⊢
    generalize ats.toList = ts at h ⊢
    split at h
    · rename_i t x
      try simp only
      have hf : footE locs e o = (match x with | .mp id => { rh := [id] } | _ => {}) := by
        simp only [footE, ho, hargs]
        cases x <;> rfl
      refine hval _ h ?_ ?_ ?_
      · rw [hf] at hr
        unfold lenA
        cases x <;> try rfl
        simp only; rw [hr _ (by simp)]
      · rw [hf]; cases x <;> rfl
      · rw [hf]; cases x <;> rfl
    · try simp only
      have hf : (footE locs e o).wh = true ∧ (footE locs e o).wb = none := by simp only [footE, ho, hargs]; simp
      exact hheap _ (fun y : AV × AHeap => y.1) (fun y => y.2) h (by simp only [hh hf.1]) hf.2 hf.1
    · try simp only
      have hf : (footE locs e o).wh = true ∧ (footE locs e o).wb = none := by simp only [footE, ho, hargs]; simp
      exact hheap _ (fun y : AV × AHeap => y.1) (fun y => y.2) h (by simp only [hh hf.1]) hf.2 hf.1
    · try simp only
      have hf : (footE locs e o).wh = true ∧ (footE locs e o).wb = none := by simp only [footE, ho, hargs]; simp
      exact hheap _ (fun _ : AHeap => .tup []) (fun y => y) h (by simp only [hh hf.1]) hf.2 hf.1
    · try simp only
      rw [Option.bind_eq_some_iff] at h
      obtain ⟨v, hv, h⟩ := h
      rw [Option.bind_eq_some_iff] at h
      obtain ⟨vs, hvs, h⟩ := h
      rw [Option.bind_eq_some_iff] at h
      obtain ⟨u, hu, h⟩ := h
      simp only [hv, hvs, hu, Option.bind_some]
      exact hval _ h rfl (by simp [footE, ho]) (by simp [footE, ho])
    · try simp only
      rw [Option.bind_eq_some_iff] at h
      obtain ⟨v, hv, h⟩ := h
      rw [Option.bind_eq_some_iff] at h
      obtain ⟨vs, hvs, h⟩ := h
      rw [Option.bind_eq_some_iff] at h
      obtain ⟨u, hu, h⟩ := h
      simp only [hv, hvs, hu, Option.bind_some]
      exact hval _ h rfl (by simp [footE, ho]) (by simp [footE, ho])
    · cases h
  · -- a call
    rename_i fx args ats ho
    have hf : (footE locs e o).wh = true ∧ (footE locs e o).wb = none := by simp [footE, ho]
    try simp only
    cases hx : e fx <;> rw [hx] at h <;> simp only at h ⊢ <;> try (cases h; done)
    rename_i fid cap
    split at h
    · rename_i ha
      rw [if_pos ha]
      exact hheap _ (fun y : AV × AHeap => y.1) (fun y => y.2) h (by simp only [hh hf.1]) hf.2 hf.1
    · cases h
  · cases h
end
end Go.R
