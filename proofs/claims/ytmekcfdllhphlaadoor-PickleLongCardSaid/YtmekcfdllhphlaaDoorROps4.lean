/- Stores and new memory. -/
import Derived.Test.YtmekcfdllhphlaaDoorRMem
set_option linter.unusedVariables false
set_option linter.unusedSimpArgs false
namespace Go.R
open Go

theorem Cells.iff {c : Cx} {L : Nat → Prop} : ∀ {xs : List AV} {b o : Nat}, Cells c L xs b o ↔ ∀ (i : Nat) (x : AV), xs[i]? = some x → ∃ v, c.w.cell? ⟨b, o + i, none⟩ = some v ∧ v.oneCell' = true ∧ VR c L x v
  | [], b, o => by simp [Cells]
  | x :: xs, b, o => by
    refine ⟨fun h i y hy => h.get' i y hy, fun h => ⟨?_, (Cells.iff (xs := xs)).2 fun i y hy => ?_⟩⟩
    · exact h 0 x rfl
    · have := h (i + 1) y (by simpa using hy)
      rwa [Nat.add_right_comm, Nat.add_assoc]

theorem splice_length : ∀ (vs cs : List AV) (i : Nat), (splice cs i vs).length = cs.length
  | [], cs, i => by cases cs <;> rfl
  | v :: vs, cs, i => by
    rw [splice, splice_length vs]
    simp
theorem splice_get : ∀ (vs cs : List AV) (i j : Nat), i + vs.length ≤ cs.length → (splice cs i vs)[j]? = if i ≤ j ∧ j < i + vs.length then vs[j - i]? else cs[j]?
  | [], cs, i, j, _ => by
    have : splice cs i [] = cs := by cases cs <;> rfl
    rw [this, if_neg (by simp)]
  | v :: vs, cs, i, j, h => by
    simp only [List.length_cons] at h
    rw [splice, splice_get vs _ (i + 1) j (by simp; omega)]
    by_cases h1 : i + 1 ≤ j ∧ j < i + 1 + vs.length
    · rw [if_pos h1, if_pos (by simp; omega), show j - i = (j - (i + 1)) + 1 by omega]
      simp
    · rw [if_neg h1]
      by_cases h2 : j = i
      · subst h2
        rw [if_pos (by simp), List.getElem?_set_self (by omega)]
        simp
      · rw [List.getElem?_set_ne (by omega), if_neg (by simp; omega)]

theorem setCell_heap (w : World) (b o : Nat) (v : Value) {C : Array Value} {e : TypeId} {fr : Nat × Nat} (hb : w.heap[b]? = some (.cells C e fr)) : (w.setCell ⟨b, o, none⟩ v).heap[b]? = some (.cells (C.setIfInBounds o v) e fr) := by
  have hlt : b < w.heap.size := (Array.getElem?_eq_some_iff.1 hb).1
  simp [World.setCell, Array.getElem?_modify, hb]
theorem setCell_far (w : World) (b o b' : Nat) (v : Value) (hne : b' ≠ b) : (w.setCell ⟨b, o, none⟩ v).heap[b']? = w.heap[b']? := by
  simp [World.setCell, Array.getElem?_modify, Ne.symm hne]

theorem setCells_far : ∀ (vs : List Value) (b o b' : Nat) (w : World), b' ≠ b → (w.setCells b o vs).heap[b']? = w.heap[b']?
  | [], _, _, _, _, _ => rfl
  | v :: vs, b, o, b', w, h => by rw [World.setCells, setCells_far vs b (o + 1) b' _ h, setCell_far _ _ _ _ _ h]
theorem setCells_same : ∀ (vs : List Value) (b o : Nat) (w : World), (w.setCells b o vs).heap.size = w.heap.size ∧ (w.setCells b o vs).os = w.os ∧ (w.setCells b o vs).tape = w.tape ∧ (w.setCells b o vs).output = w.output
  | [], _, _, _ => ⟨rfl, rfl, rfl, rfl⟩
  | v :: vs, b, o, w => by
    obtain ⟨h1, h2, h3, h4⟩ := setCells_same vs b (o + 1) (w.setCell ⟨b, o, none⟩ v)
    rw [World.setCells]
    exact ⟨h1.trans (by simp), h2.trans rfl, h3.trans rfl, h4.trans rfl⟩
theorem setCells_row : ∀ (vs : List Value) (b o : Nat) (w : World) (C : Array Value) (e : TypeId) (fr : Nat × Nat), w.heap[b]? = some (.cells C e fr) → o + vs.length ≤ C.size →
    ∃ C', (w.setCells b o vs).heap[b]? = some (.cells C' e fr) ∧ C'.size = C.size ∧ ∀ j, C'[j]? = if o ≤ j ∧ j < o + vs.length then vs[j - o]? else C[j]?
  | [], b, o, w, C, e, fr, hb, _ => ⟨C, hb, rfl, fun j => by rw [if_neg (by simp)]⟩
  | v :: vs, b, o, w, C, e, fr, hb, hl => by
    simp only [List.length_cons] at hl
    obtain ⟨C', h1, h2, h3⟩ := setCells_row vs b (o + 1) (w.setCell ⟨b, o, none⟩ v) (C.setIfInBounds o v) e fr (setCell_heap w b o v hb) (by simp; omega)
    refine ⟨C', h1, by simpa using h2, fun j => ?_⟩
    rw [h3 j]
    by_cases h4 : o + 1 ≤ j ∧ j < o + 1 + vs.length
    · rw [if_pos h4, if_pos (by simp; omega), show j - o = (j - (o + 1)) + 1 by omega]
      simp
    · rw [if_neg h4]
      by_cases h5 : j = o
      · subst h5
        rw [if_pos (by simp)]
        simp [Array.getElem?_setIfInBounds, show j < C.size by omega]
      · rw [if_neg (by simp; omega)]
        simp [Array.getElem?_setIfInBounds, Ne.symm h5]

theorem cell_of_block {w : World} {b : Nat} {C : Array Value} {e : TypeId} {fr : Nat × Nat} (h : w.heap[b]? = some (.cells C e fr)) (i : Nat) : w.cell? ⟨b, i, none⟩ = C[i]? := by
  simp [World.cell?, h]

section
variable {P : Program} {L0 : Nat → Prop} {c0 : Cx} {n : Nat} {ds : List Nat} {o : Oper} {s : RS}

theorem cellOK_one {c : Cx} {L : Nat → Prop} {x : AV} {v : Value} (h : x.cellOK = true) (hv : VR c L x v) : v.oneCell' = true ∧ v.cells = #[v] := by
  cases x <;> simp only [AV.cellOK] at h <;> first | (cases h; done) | skip
  all_goals simp only [VR] at hv
  · subst hv; exact ⟨rfl, rfl⟩
  · subst hv; exact ⟨rfl, rfl⟩
  · subst hv; exact ⟨rfl, rfl⟩
  · subst hv; exact ⟨rfl, rfl⟩
  · obtain ⟨_, a, rfl, _⟩ := hv; exact ⟨rfl, rfl⟩
  · obtain ⟨b, o, rfl, _⟩ := hv; exact ⟨rfl, rfl⟩
  · obtain ⟨a, rfl⟩ := hv; exact ⟨rfl, rfl⟩
  · obtain ⟨a, cap, rfl, _⟩ := hv; exact ⟨rfl, rfl⟩
  · obtain ⟨_, a, cap, rfl, _⟩ := hv; exact ⟨rfl, rfl⟩
  · subst hv; exact ⟨rfl, rfl⟩
  · obtain ⟨_, r, rfl, _⟩ := hv; exact ⟨rfl, rfl⟩
  · obtain ⟨vs, rfl, _⟩ := hv; exact ⟨rfl, rfl⟩
  · subst hv; exact ⟨rfl, rfl⟩

theorem cellsOK_one {c : Cx} {L : Nat → Prop} : ∀ {xs : List AV} {vs : List Value}, xs.all AV.cellOK = true → VRs c L xs vs → ∀ v ∈ vs, v.oneCell' = true
  | [], [], _, _, v, hv => by simp at hv
  | x :: xs, u :: us, h, hr, v, hv => by
    simp only [List.all_cons, Bool.and_eq_true] at h
    rcases List.mem_cons.1 hv with rfl | hv
    · exact (cellOK_one h.1 hr.1).1
    · exact cellsOK_one h.2 hr.2 v hv
  | [], _ :: _, _, h, _, _ => h.elim
  | _ :: _, [], _, h, _, _ => h.elim

theorem cells_VR {c : Cx} {L : Nat → Prop} {x : AV} {v : Value} (h : x.cells.all AV.cellOK = true) (hv : VR c L x v) : VRs c L x.cells v.cells.toList ∧ ∀ u ∈ v.cells.toList, u.oneCell' = true := by
  cases x with
  | agg cs =>
    simp only [VR] at hv
    obtain ⟨vs, rfl, hvs⟩ := hv
    exact ⟨hvs, cellsOK_one h hvs⟩
  | _ =>
    simp only [AV.cells, List.all_cons, List.all_nil, Bool.and_true] at h
    obtain ⟨h1, h2⟩ := cellOK_one h hv
    rw [h2]
    exact ⟨⟨hv, trivial⟩, by simpa using h1⟩

theorem SR.cellsVR {c : Cx} {Lo : Nat → Prop} {lam : Nat → Nat} {bx : Nat → Option (List AV)} {x : AV} {v : Value} (hx : SR c L0 Lo lam bx x v) (h : x.cells.all AV.cellOK = true) : VR c (un L0 Lo) x v :=
  hx.vr (by rintro k off rfl; simp [AV.cells, AV.cellOK] at h)

/-- A store of whole cells into a plain block. -/
theorem run_storePlain {c : Cx} {b m base off : Nat} {vs : List Value} (hp : Plain c b m) (hl : base + off + vs.length ≤ m) (h1 : ∀ v ∈ vs, v.oneCell' = true) :
    (storeCells ⟨b, base + off, none⟩ vs).run P c.w = .ok () (c.w.setCells b (base + off) vs) := by
  obtain ⟨C, e, lo, hi, hb, hf, hm⟩ := hp
  have := run_storeCells_cells (P := P) b (base + off) vs 0 c.w (fun j hj => by
    rw [cell_of_block hb]
    have : base + off + 0 + j < C.size := by omega
    simpa using this) (fun j hj => by
    simp only [World.frozen?, hb]
    rcases hf with hf | hf
    · subst hf; simp
    · simp; omega) h1
  simpa using this

theorem Keeps.setCells (w : World) (b o : Nat) (vs : List Value) (b' : Nat) (h : b' ≠ b) : Keeps w (w.setCells b o vs) b' := .inl (setCells_far vs b o b' w h)

theorem Plain.setCells {c : Cx} {b m o : Nat} {vs : List Value} (hp : Plain c b m) (hl : o + vs.length ≤ m) (β' : Nat → Nat × Nat) (h' : AHeap) (bs : Nat) : Plain ⟨β', h', c.w.setCells b o vs, bs⟩ b m := by
  obtain ⟨C, e, lo, hi, hb, hf, hm⟩ := hp
  obtain ⟨C', h1, h2, _⟩ := setCells_row vs b o c.w C e (lo, hi) hb (by omega)
  exact ⟨C', e, lo, hi, h1, by rw [h2]; exact hf, by rw [h2]; exact hm⟩

theorem PlainS.setCells {c : Cx} {b m o : Nat} {vs : List Value} (hp : PlainS c b m) (hl : o + vs.length ≤ m) (β' : Nat → Nat × Nat) (h' : AHeap) (bs : Nat) : PlainS ⟨β', h', c.w.setCells b o vs, bs⟩ b m := by
  obtain ⟨C, e, hb, hm⟩ := hp
  obtain ⟨C', h1, h2, _⟩ := setCells_row vs b o c.w C e (0, 0) hb (by omega)
  exact ⟨C', e, h1, by rw [h2]; exact hm⟩

/-- The cells behind a store. -/
theorem cells_setCells {c c' : Cx} {L0 Lo Lo' : Nat → Prop} {b m base off : Nat} {cs xs : List AV} {vs : List Value} (hp : Plain c b m) (hc : Cells c (un L0 Lo) cs b base) (hv : VRs c (un L0 Lo) xs vs) (h1c : ∀ v ∈ vs, v.oneCell' = true) (hl : off + xs.length ≤ cs.length) (hm : base + cs.length ≤ m)
    (e : Ext c Lo c' Lo') (hw : c'.w = c.w.setCells b (base + off) vs) : Cells c' (un L0 Lo') (splice cs off xs) b base := by
  obtain ⟨C, e', lo, hi, hb, hf, hm2⟩ := hp
  have hlen := hv.length
  obtain ⟨C', h1, h2, h3⟩ := setCells_row vs b (base + off) c.w C e' (lo, hi) hb (by omega)
  rw [Cells.iff]
  intro i x hx
  rw [hw, cell_of_block h1, h3]
  rw [splice_get xs cs off i hl] at hx
  by_cases h4 : off ≤ i ∧ i < off + xs.length
  · rw [if_pos h4] at hx
    obtain ⟨v, hv1, hv2⟩ := hv.get _ x hx
    refine ⟨v, ?_, h1c v (List.mem_of_getElem? hv1), VR.ext e x v hv2⟩
    rw [if_pos (by omega), show base + i - (base + off) = i - off by omega]
    exact hv1
  · rw [if_neg h4] at hx
    obtain ⟨v, hv1, hv0, hv2⟩ := hc.get' i x hx
    refine ⟨v, ?_, hv0, VR.ext e x v hv2⟩
    rw [if_neg (by omega), ← cell_of_block hb]
    exact hv1

theorem run_storeVarA {c : Cx} {L : Nat → Prop} {t : TypeId} {cs cs' : List AV} {b m base off : Nat} {x : AV} {v : Value} (hp : Plain c b m) (hm : base + cs.length ≤ m) (hv : VR c L x v) (h : writeCs P t cs off x = some cs') :
    (storeVar t ⟨b, base + off, none⟩ v).run P c.w = .ok () (c.w.setCells b (base + off) v.cells.toList) ∧ VRs c L x.cells v.cells.toList ∧ off + x.cells.length ≤ cs.length ∧ cs' = splice cs off x.cells ∧ (∀ u ∈ v.cells.toList, u.oneCell' = true) := by
  unfold writeCs at h
  rw [Option.bind_eq_some_iff] at h
  obtain ⟨k, hk, h⟩ := h
  split at h
  · rename_i hh
    obtain ⟨h1, h2, h3⟩ := hh
    cases h
    obtain ⟨h4, h5⟩ := cells_VR h2 hv
    have h6 := h4.length
    refine ⟨?_, h4, by omega, rfl, h5⟩
    have h7 : v.cells.size = k := by rw [← Array.length_toList, ← h6]; exact h1
    simp only [storeVar, Sem.run_bind, run_szOf hk, Result.andThen_ok, h7]
    simp only [ne_eq, not_true_eq_false, if_false]
    rw [← run_storePlain (P := P) hp (vs := v.cells.toList) (base := base) (off := off) (by omega) h5]
  · cases h

theorem base_le {c c0 : Cx} {Lo : Nat → Prop} (e : Ext c0 none0 c Lo) (h : c0.base ≤ c0.w.heap.size) : c.base ≤ c.w.heap.size := by
  rw [e.base]; exact Nat.le_trans h e.size

/-- 'store' -/
theorem op_store (hb0 : c0.base ≤ c0.w.heap.size) (hd : DstOK n ds o) {t : TypeId} {x y : Operand} (ho : o.op = .store t x y) (hdst : o.dst = none) {s' : RS}
    (h : (match opnd s.ρ x with
      | .lp k off => (s.bx k).bind fun cs => (writeCs P t cs off (opnd s.ρ y)).map fun cs' => s.box k cs'
      | .ptr id off => (s.h.get id).bind fun | .cells cs => (writeCs P t cs off (opnd s.ρ y)).map fun cs' => { s with h := s.h.put id (.cells cs') } | _ => none
      | _ => none) = some s') : OpOK P L0 c0 n ds o s s' := by
  rintro a w K Q ⟨hn, c, Lo, lam, rfl, f, e⟩ hK
  have hbs := base_le e hb0
  have hx := opnd_SR f x
  have hy := opnd_SR f y
  unfold Oper.wp
  have hput : a.put o.dst undef = a := by rw [hdst]; rfl
  have fin : ∀ c' Lo' lam', ((Instr.storeAt t (a.eval x) (a.eval y)).run P c.w = .ok () c'.w) → Fr L0 c' Lo' lam' ds s' a → Ext c Lo c' Lo' → Oper.upon P o a K Q ((execOp a.eval o).run P c.w) := by
    intro c' Lo' lam' hr f' e'
    have : (execOp a.eval o).run P c.w = .ok .skip c'.w := by simp [execOp, ho, hr]
    rw [this, Oper.upon_skip, hput]
    exact hK _ _ ⟨hn, c', Lo', lam', rfl, f', e.trans e'⟩
  cases hxx : opnd s.ρ x <;> rw [hxx] at h <;> simp only at h <;> try (cases h; done)
  · rename_i id off
    rw [Option.bind_eq_some_iff] at h
    obtain ⟨ob, hob, h⟩ := h
    cases ob with
    | map es => cases h
    | row t cs => cases h
    | cells cs =>
    rw [Option.map_eq_some_iff] at h
    obtain ⟨cs', hw, rfl⟩ := h
    rw [hxx] at hx
    simp only [SR, VR] at hx
    obtain ⟨hi, ad, hev, ha⟩ := hx
    rw [← f.h] at hob
    have hl : Live c.h id := ⟨f.rel.lt _ _ hob, by simp [hob]⟩
    obtain ⟨m, hp, hm, hc⟩ := f.rel.obj _ _ hob
    have hcell : (opnd s.ρ y).cells.all AV.cellOK = true := by
      unfold writeCs at hw
      rw [Option.bind_eq_some_iff] at hw
      obtain ⟨k, _, hw⟩ := hw
      split at hw
      · rename_i hh; exact hh.2.1
      · cases hw
    have hvy := hy.cellsVR hcell
    obtain ⟨hr, hv, hle, rfl, h1c⟩ := run_storeVarA (P := P) hp.toPlain hm hvy hw
    have hvl := hv.length
    obtain ⟨q1, q2, q3, q4⟩ := setCells_same (a.eval y).cells.toList (c.β id).1 ((c.β id).2 + off) c.w
    have := f.upd (w' := c.w.setCells (c.β id).1 ((c.β id).2 + off) (a.eval y).cells.toList) (β' := c.β) (h' := c.h.put id (.cells (splice cs off (opnd s.ρ y).cells))) id (.cells (splice cs off (opnd s.ρ y).cells))
      (Steady.put _ _ _) (by simp only [AHeap.put]; omega) (by simp [AHeap.put, beq_nat]) (fun id' hne => .inr ⟨by simp [AHeap.put, beq_nat, hne], rfl⟩) (fun _ => ⟨hl, rfl⟩) (.inr ⟨id, hl, rfl, .inl rfl⟩)
      (fun _ => by
        obtain ⟨C, e', lo, hi', hb, hf, hm2⟩ := hp.toPlain
        obtain ⟨C', h1, h2, _⟩ := setCells_row (a.eval y).cells.toList (c.β id).1 ((c.β id).2 + off) c.w C e' (lo, hi') hb (by omega)
        simp [World.shape?, h1, Cx.len, hb, h2])
      (fun b _ hne => setCells_far _ _ _ _ _ hne) (fun b _ hne => setCells_far _ _ _ _ _ hne) (by rw [q1]; exact Nat.le_refl _) hbs q2 q3 q4
      (fun e' => ⟨m, hp.setCells (by omega) _ _ _, by rw [splice_length]; exact hm, cells_setCells hp.toPlain hc hv h1c hle hm e' rfl⟩)
    rw [f.h] at this
    obtain ⟨e', f'⟩ := this
    refine fin _ _ _ ?_ f' e'
    rw [hev, ha hl]
    simp [Instr.storeAt, Instr.sureAddr, hr]
  · rename_i k off
    rw [Option.bind_eq_some_iff] at h
    obtain ⟨cs, hbx, h⟩ := h
    rw [Option.map_eq_some_iff] at h
    obtain ⟨cs', hw, rfl⟩ := h
    rw [hxx] at hx
    simp only [SR] at hx
    obtain ⟨hev, _⟩ := hx
    have ob := f.box k cs hbx
    have hcell : (opnd s.ρ y).cells.all AV.cellOK = true := by
      unfold writeCs at hw
      rw [Option.bind_eq_some_iff] at hw
      obtain ⟨k, _, hw⟩ := hw
      split at hw
      · rename_i hh; exact hh.2.1
      · cases hw
    have hvy := hy.cellsVR hcell
    obtain ⟨hr, hv, hle, rfl, h1c⟩ := run_storeVarA (P := P) (base := 0) ob.plain (by omega) hvy hw
    have hvl := hv.length
    obtain ⟨q1, q2, q3, q4⟩ := setCells_same (a.eval y).cells.toList (lam k) (0 + off) c.w
    obtain ⟨Lo', lam', e', f', _⟩ := f.updBox (w' := c.w.setCells (lam k) (0 + off) (a.eval y).cells.toList) k (splice cs off (opnd s.ρ y).cells) (lam k) (.inr ⟨rfl, by rw [hbx]; rfl⟩)
      (fun _ _ _ => rfl) (fun b _ hne => setCells_far _ _ _ _ _ hne) (fun b _ hne => setCells_far _ _ _ _ _ hne) (by rw [q1]; exact Nat.le_refl _) (by rw [q1]; exact ob.plain.lt) hbs q2 q3 q4
      (by rw [splice_length]; exact ob.plain.setCells (by omega) _ _ _) (fun e' => cells_setCells ob.plain ob.cells hv h1c hle (by omega) e' rfl)
    refine fin _ _ _ ?_ f' e'
    rw [hev]
    rw [Nat.zero_add] at hr
    simp [Instr.storeAt, Instr.sureAddr, hr]
end
end Go.R
