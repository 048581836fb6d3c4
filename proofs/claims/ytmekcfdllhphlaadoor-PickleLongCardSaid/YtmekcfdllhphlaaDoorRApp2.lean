/- Slice literals, strings to bytes, appends, copies. -/
import Derived.Test.YtmekcfdllhphlaaDoorRApp
set_option linter.unusedVariables false
set_option linter.unusedSimpArgs false
namespace Go.R
open Go

section
variable {P : Program} {L0 : Nat → Prop} {c0 : Cx} {n : Nat} {ds : List Nat} {o : Oper} {s : RS}

/-- An operation that lays what nobody tracks. -/
theorem op_world (hb0 : c0.base ≤ c0.w.heap.size) (hd : DstOK n ds o) {x : AV}
    (h : ∀ a c Lo lam, Fr L0 c Lo lam ds s a → a.tmps.size = n → c.base ≤ c.w.heap.size → ∃ (w' : World) (v : Value), (execOp a.eval o).run P c.w = .ok (.value v) w' ∧ (∀ b, b < c.w.heap.size → Keeps c.w w' b) ∧ (∀ id, Live c.h id → w'.heap[(c.β id).1]? = c.w.heap[(c.β id).1]?) ∧ (∀ b, b < c.base → w'.heap[b]? = c.w.heap[b]?) ∧ c.w.heap.size ≤ w'.heap.size ∧
      w'.os = c.w.os ∧ w'.tape = c.w.tape ∧ w'.output = c.w.output ∧ (Ext c Lo { c with w := w' } Lo → VR { c with w := w' } (un L0 Lo) x v)) (hx : ∀ k off, x ≠ .lp k off) :
    OpOK P L0 c0 n ds o s (s.set o.dst x) := by
  rintro a w K Q ⟨hn, c, Lo, lam, rfl, f, e⟩ hK
  obtain ⟨w', v, hr, h1, h1l, h2, h3, h4, h5, h6, hv⟩ := h a c Lo lam f hn (base_le e hb0)
  obtain ⟨e', f'⟩ := f.world h1 h1l h2 h3 h4 h5 h6
  unfold Oper.wp
  rw [hr, Oper.upon_value]
  exact hK _ _ ⟨(put_size _ _ _).trans hn, _, Lo, lam, rfl, f'.set (SR.of (hv e')) (fun t ht => by rw [hn]; exact hd t ht), e.trans e'⟩

theorem RO_new {c c' : Cx} {Lo : Nat → Prop} (r : HRel c (un L0 Lo)) (hβ : c'.β = c.β) (hh : c'.h = c.h) : RO c' (un L0 Lo) c.w.heap.size := by
  refine ⟨fun id hl he => ?_, fun hL => ?_⟩
  · rw [hh] at hl
    rw [hβ] at he
    have := r.block hl; omega
  · have := r.bd _ hL; omega

theorem run_buildSlice {c : Cx} {L : Nat → Prop} {t : TypeId} {len : Nat} {ps : List (Nat × AV)} {vs : List (Nat × Value)} {y : AV} (hp : PartsR c L ps vs) (h : buildSliceA P t len ps = some y) :
    (y = .fz [] 0 true ∧ ∃ e, (Instr.buildSlice t len vs.toArray).run P c.w = .ok (.slice (some ⟨c.w.heap.size, 0, none⟩) 0 0) (c.w.alloc (.cells #[] e))) ∨
    ∃ cs C e, y = .fz cs len true ∧ (Instr.buildSlice t len vs.toArray).run P c.w = .ok (.slice (some ⟨c.w.heap.size, 0, none⟩) len len) (c.w.alloc (.cells C e)) ∧ VRs c L cs C.toList ∧ ∀ v ∈ C.toList, v.oneCell' = true := by
  unfold buildSliceA at h
  rw [Option.bind_eq_some_iff] at h
  obtain ⟨d, hd, h⟩ := h
  cases d <;> simp only at h <;> try (cases h; done)
  rename_i e
  rw [Option.bind_eq_some_iff] at h
  obtain ⟨m, hm, h⟩ := h
  split at h
  · cases h
  rename_i hbig
  have hm0 : m ≠ 0 := fun h => hbig (.inl h)
  have hbig2 : ¬ (len * m > 2 ^ 24) := fun h => hbig (.inr (by omega))
  split at h
  · rename_i hl0
    subst hl0
    split at h
    · rename_i hpe
      cases h
      have hps : ps = [] := by simpa using hpe
      subst hps
      cases vs with
      | cons _ _ => exact hp.elim
      | nil =>
      refine .inl ⟨rfl, e, ?_⟩
      unfold Instr.buildSlice
      simp only [Sem.run_bind, run_und hd, run_szOf hm, Result.andThen_ok, Nat.zero_mul, if_true, Sem.run_pure]
      have hr0 : ∀ f : Nat → Value, Array.map f (Array.range 0) = #[] := fun f => by simp
      simp only [Instr.fill, newRow, hr0, Sem.run_bind, run_newObj, Result.andThen_ok, Sem.run_pure, World.alloc_eq]
      rfl
    · cases h
  · rename_i hl0
    rw [Option.bind_eq_some_iff] at h
    obtain ⟨z, hz, h⟩ := h
    split at h
    rotate_left
    · cases h
    rename_i hzl
    rw [Option.map_eq_some_iff] at h
    obtain ⟨cs, hf, rfl⟩ := h
    obtain ⟨zv, hzr, hzo⟩ := run_zeroA hz c.w
    obtain ⟨hzv, hz1⟩ := cells_VR (ofV_cellOK hzo) (ofV_VR (c := c) (L := L) hzo)
    have hz0 := VRs_zeros hzv len (len * m) (by rw [hzl]; exact Nat.le_refl _) (by omega)
    rw [List.take_of_length_le (by simp [hzl])] at hz0
    have hz2 : ∀ u ∈ ((Array.range (len * m)).map (zv.cells[· % zv.cells.size]!)).toList, u.oneCell' = true := by
      intro u hu
      simp only [Array.toList_map, List.mem_map] at hu
      obtain ⟨j, hj, rfl⟩ := hu
      have hmod : j % zv.cells.size < zv.cells.size := Nat.mod_lt _ (by rw [← Array.length_toList, ← hzv.length]; omega)
      rw [getElem!_pos zv.cells _ hmod]
      exact hz1 _ (by simp)
    obtain ⟨C', h1, h2, h3⟩ := fill_fillA _ hp hz0 hz2 hf
    refine .inr ⟨cs, C', e, rfl, ?_, h2, h3⟩
    have hne : len * m ≠ 0 := Nat.mul_ne_zero hl0 hm0
    unfold Instr.buildSlice
    simp only [Sem.run_bind, run_und hd, run_szOf hm, Result.andThen_ok, hbig2, hne, if_false, Sem.run_pure, hzr]
    rw [h1]
    simp [newRow]

theorem op_buildSlice (hb0 : c0.base ≤ c0.w.heap.size) (hd : DstOK n ds o) {t : TypeId} {len : Nat} {ps : Array (Nat × Operand)} (ho : o.op = .buildSlice t len ps) {y : AV}
    (h : buildSliceA P t len (ps.toList.map fun (i, x) => (i, opnd s.ρ x)) = some y) : OpOK P L0 c0 n ds o s (s.set o.dst y) := by
  refine op_world hb0 hd (fun a c Lo lam f hn hbs => ?_) ?_
  · have hp := parts_SR f ps.toList
    have hex : ∀ v w', (Instr.buildSlice t len (ps.toList.map fun (i, x) => (i, a.eval x)).toArray).run P c.w = .ok v w' → (execOp a.eval o).run P c.w = .ok (.value v) w' := by
      intro v w' hr
      have he : ps.map (fun (i, x) => (i, a.eval x)) = (ps.toList.map fun (i, x) => (i, a.eval x)).toArray := by
        apply Array.ext'; simp
      simp only [execOp, ho, Sem.run_bind]
      rw [he, hr]
      rfl
    rcases run_buildSlice hp h with ⟨rfl, e, hr⟩ | ⟨cs, C, e, rfl, hr, hv, h1⟩
    · refine ⟨_, _, hex _ _ hr, fun b hb => .inl (alloc_old _ _ hb), fun id hl => alloc_old _ _ (f.rel.block hl), fun b hb => alloc_old _ _ (by omega), by simp, rfl, rfl, rfl, fun _ => by simp only [VR]; exact ⟨_, _, rfl, Nat.le_refl _, fun _ => rfl, rfl, .inl trivial⟩⟩
    · refine ⟨_, _, hex _ _ hr, fun b hb => .inl (alloc_old _ _ hb), fun id hl => alloc_old _ _ (f.rel.block hl), fun b hb => alloc_old _ _ (by omega), by simp, rfl, rfl, rfl, fun e' => ?_⟩
      simp only [VR]
      exact ⟨_, _, rfl, Nat.le_refl _, fun _ => rfl, rfl, .inr ⟨c.w.heap.size, 0, rfl, RO_new f.rel rfl rfl, fun _ => hbs, cells_new (w1 := c.w) rfl (VRs.ext e' _ _ hv) (fun i _ => by simp) h1⟩⟩
  · rintro k off rfl
    unfold buildSliceA at h
    rw [Option.bind_eq_some_iff] at h
    obtain ⟨d, _, h⟩ := h
    cases d <;> simp only at h <;> try (cases h; done)
    rw [Option.bind_eq_some_iff] at h
    obtain ⟨m, _, h⟩ := h
    split at h
    · cases h
    · split at h
      · split at h <;> cases h
      · rw [Option.bind_eq_some_iff] at h
        obtain ⟨z, _, h⟩ := h
        split at h
        · rw [Option.map_eq_some_iff] at h
          obtain ⟨_, _, h⟩ := h
          cases h
        · cases h

/-! ### What an append, a copy takes -/
theorem src_cells {c : Cx} {Lo : Nat → Prop} {lam : Nat → Nat} {a : Act} (f : Fr L0 c Lo lam ds s a) {tx : TypeId} {size m : Nat} {x : AV} {v : Value} {new : List AV} (hx : SR c L0 Lo lam s.bx x v)
    (hk : (∃ e', P.underlying tx = some (.slice e')) ∨ P.underlying tx = some .string) (hks : ∀ st, x = .str st → P.underlying tx = some .string) (hkn : (∀ st, x ≠ .str st) → ∃ e', P.underlying tx = some (.slice e')) (h : cellsOfA s.h size x = some (new, m)) :
    ∃ news, Src P size tx v m news c.w ∧ VRs c (un L0 Lo) new news := by
  unfold cellsOfA at h
  cases x <;> simp only at h <;> try (cases h; done)
  · rename_i st
    split at h
    · rename_i h1
      subst h1
      cases h
      simp only [SR, VR] at hx
      subst hx
      refine ⟨_, Src.ofString c.w (hks st rfl) st, ?_⟩
      unfold byteCells
      generalize st.data.toList = l
      induction l with
      | nil => trivial
      | cons b l ih => exact ⟨by simp [VR], ih⟩
    · cases h
  · cases h
    obtain ⟨e', he⟩ := hkn (by rintro st h; cases h)
    simp only [SR, VR] at hx
    subst hx
    exact ⟨[], Src.ofNil c.w he 0, trivial⟩
  · rename_i cs k ex
    split at h
    · rename_i hl
      cases h
      obtain ⟨e', he⟩ := hkn (by rintro st h; cases h)
      simp only [SR, VR] at hx
      obtain ⟨ad, cap, rfl, h1, h2, _, hc⟩ := hx
      rcases hc with rfl | ⟨b, o', rfl, hr, hex, hc⟩
      · have hl0 : m * size = 0 := by simpa using hl.symm
        cases ad with
        | none =>
          refine ⟨[], ⟨.inl ⟨e', he⟩, fun _ => rfl, run_firstCells_none c.w size m m cap, run_firstCells_none c.w.drew size m m cap, by simpa using hl, fun _ h => by cases h⟩, trivial⟩
        | some ad => exact ⟨[], Src.ofSlice c.w he ad m cap [] (by simpa using hl) (fun j u hu => by simp at hu) (fun u hu => by cases hu), trivial⟩
      · obtain ⟨vs, q1, q2, q3⟩ := hc.vals
        refine ⟨vs, Src.ofSlice c.w he _ m cap vs (by rw [← q1.length]; exact hl) (fun j u hu => ?_) q3, q1⟩
        rw [addr_add, q2 j (by rw [q1.length]; exact (List.getElem?_eq_some_iff.1 hu).1)]
        exact hu
    · cases h
  · rename_i id off k esz
    rw [Option.bind_eq_some_iff] at h
    obtain ⟨ob, hob, h⟩ := h
    cases ob with
    | map es => cases h
    | row t cs => cases h
    | cells cs =>
    simp only at h
    split at h
    · rename_i hh
      obtain ⟨rfl, hle⟩ := hh
      cases h
      obtain ⟨e', he⟩ := hkn (by rintro st h; cases h)
      simp only [SR, VR] at hx
      obtain ⟨hid, ad, cap, rfl, h1, h2, h3⟩ := hx
      rw [← f.h] at hob
      have hl : Live c.h id := ⟨f.rel.lt _ _ hob, by simp [hob]⟩
      obtain ⟨q, hp, hm, hc⟩ := f.rel.obj _ _ hob
      have hc2 := (hc.drop off).take (m * esz)
      have hlen : ((cs.drop off).take (m * esz)).length = m * esz := by simp; omega
      obtain ⟨vs, q1, q2, q3⟩ := hc2.vals
      rcases h3 hl with ⟨h5, h4⟩ | hcap
      · subst h5
        refine ⟨vs, Src.ofSlice c.w he _ m cap vs (by rw [← q1.length]; exact hlen) (fun j u hu => ?_) q3, q1⟩
        rw [addr_add, q2 j (by rw [q1.length]; exact (List.getElem?_eq_some_iff.1 hu).1)]
        exact hu
      · have hm0 : m = 0 := by omega
        subst hm0
        simp only [Nat.zero_mul, List.take_zero] at q1 ⊢
        cases ad with
        | none => simp at h2
        | some ad => exact ⟨[], Src.ofSlice c.w he ad 0 cap [] (by simp) (fun j u hu => by simp at hu) (fun u hu => by cases hu), trivial⟩
    · cases h
end
end Go.R
