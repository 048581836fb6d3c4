/- Keys of maps, and equality of arrays and structs of ints. -/
import Derived.Test.YtmekcfdllhphlaaDoorROps2
import Derived.ChangeKeysEq
import Derived.WideKeyRuns
set_option linter.unusedVariables false
set_option linter.unusedSimpArgs false
namespace Go.R
open Go

section
variable {P : Program}

def ints (ns : List Int) : List Value := ns.map fun n => .int .i64 n
theorem intCells : ∀ {cs : List AV}, cs.all intCell = true → ∃ ns : List Int, cs = ns.map fun n => AV.int .i64 n
  | [], _ => ⟨[], rfl⟩
  | x :: xs, h => by
    simp only [List.all_cons, Bool.and_eq_true] at h
    obtain ⟨ns, rfl⟩ := intCells h.2
    cases x <;> simp [intCell] at h
    rename_i k m
    cases k <;> simp at h
    exact ⟨m :: ns, rfl⟩
theorem VRs_ints {c : Cx} {L : Nat → Prop} : ∀ {ns : List Int} {vs : List Value}, VRs c L (ns.map fun n => AV.int .i64 n) vs → vs = ints ns
  | [], [], _ => rfl
  | m :: ns, v :: vs, h => by
    have h1 : v = .int .i64 m := by simpa [VR] using h.1
    rw [h1, VRs_ints h.2]; rfl
  | [], _ :: _, h => h.elim
  | _ :: _, [], h => h.elim
theorem keyEqs_ints : ∀ ns ms : List Int, keyEqs (ns.map fun n => AV.int .i64 n) (ms.map fun n => AV.int .i64 n) = decide (ns = ms)
  | [], [] => rfl
  | [], _ :: _ => rfl
  | _ :: _, [] => rfl
  | n :: ns, m :: ms => by
    simp only [List.map_cons, keyEqs, keyEq1, keyEqs_ints ns ms]
    by_cases h1 : n = m <;> by_cases h2 : ns = ms <;> simp [h1, h2]

theorem run_part_int {t : TypeId} (w : World) (ht : P.underlying t = some (.int .i64)) {ns : List Int} {vs : Array Value} (hv : vs.toList = ints ns) {i : Nat} {m : Int} (hi : ns[i]? = some m) : (part t vs i).run P w = .ok (.int .i64 m) w := by
  have h2 : vs[i]? = some (.int .i64 m) := by rw [← Array.getElem?_toList, hv]; simp [ints, hi]
  simp [part, isAgg, run_und ht, h2]

theorem run_eqItems_ints {e : TypeId} (d : Nat) (w : World) (he : P.underlying e = some (.int .i64)) {xs ys : Array Value} {ns ms : List Int} (hx : xs.toList = ints ns) (hy : ys.toList = ints ms) (hl : ns.length = ms.length) :
    ∀ m i, i + m = ns.length → (Op.eqItems (d + 1) e 1 xs ys (List.range' i m)).run P w = .ok (decide (ns.drop i = ms.drop i)) w
  | 0, i, h => by
    have h1 : ns.drop i = [] := by simp; omega
    have h2 : ms.drop i = [] := by simp; omega
    simp [Op.eqItems, h1, h2]
  | m + 1, i, h => by
    have ih := run_eqItems_ints d w he hx hy hl m (i + 1) (by omega)
    rw [List.range'_succ]
    simp only [Op.eqItems, Nat.mul_one, Sem.run_bind, run_part_int w he hx (List.getElem?_eq_getElem (show i < ns.length by omega)), run_part_int w he hy (List.getElem?_eq_getElem (show i < ms.length by omega)), Result.andThen_ok, run_equalIn_int w d e .i64 .i64 _ _ he]
    have e1 : ns.drop i = ns[i] :: ns.drop (i + 1) := List.drop_eq_getElem_cons (by omega)
    have e2 : ms.drop i = ms[i] :: ms.drop (i + 1) := List.drop_eq_getElem_cons (by omega)
    rw [e1, e2]
    clear e1 e2
    generalize ns[i] = a
    generalize ms[i] = b
    by_cases h3 : a = b
    · simp [h3, ih]
    · simp [h3]

def intField (P : Program) (f : Field) (i : Nat) : Bool := f.name != "_" && f.offset == i && (P.underlying f.type matches some (.int .i64)) && szOf P f.type == some 1

theorem run_eqFields_ints (d : Nat) (w : World) {xs ys : Array Value} {ns ms : List Int} (hx : xs.toList = ints ns) (hy : ys.toList = ints ms) (hl : ns.length = ms.length) :
    ∀ (fs : List Field) (i : Nat), i + fs.length = ns.length → (fs.zipIdx i).all (fun (f, j) => intField P f j) = true → (Op.eqFields (d + 1) xs ys fs).run P w = .ok (decide (ns.drop i = ms.drop i)) w
  | [], i, h, _ => by
    have h1 : ns.drop i = [] := by simp at h ⊢; omega
    have h2 : ms.drop i = [] := by simp at h ⊢; omega
    simp [Op.eqFields, h1, h2]
  | f :: fs, i, h, ha => by
    simp only [List.zipIdx_cons, List.all_cons, Bool.and_eq_true] at ha
    obtain ⟨hf, ha⟩ := ha
    simp only [List.length_cons] at h
    have ih := run_eqFields_ints d w hx hy hl fs (i + 1) (by omega) ha
    simp only [intField, Bool.and_eq_true, bne_iff_ne, ne_eq, beq_iff_eq] at hf
    obtain ⟨⟨⟨f1, f2⟩, f3⟩, f4⟩ := hf
    have f3' : P.underlying f.type = some (.int .i64) := by
      revert f3
      split <;> simp_all
    simp only [Op.eqFields, f1, ne_eq, not_false_eq_true, if_true, Sem.run_bind, f2, run_part_int w f3' hx (List.getElem?_eq_getElem (show i < ns.length by omega)), run_part_int w f3' hy (List.getElem?_eq_getElem (show i < ms.length by omega)), Result.andThen_ok, run_equalIn_int w d f.type .i64 .i64 _ _ f3']
    have e1 : ns.drop i = ns[i] :: ns.drop (i + 1) := List.drop_eq_getElem_cons (by omega)
    have e2 : ms.drop i = ms[i] :: ms.drop (i + 1) := List.drop_eq_getElem_cons (by omega)
    rw [e1, e2]
    clear e1 e2
    generalize ns[i] = a
    generalize ms[i] = b
    by_cases h3 : a = b
    · simp [h3, ih]
    · simp [h3]

theorem und_match {t : TypeId} (h : (P.underlying t matches some (.int .i64)) = true) : P.underlying t = some (.int .i64) := by
  revert h
  split <;> simp_all

theorem szOf_info {t : TypeId} {m : Nat} (h : szOf P t = some m) : ∃ i, P.info? t = some i ∧ P.cellsOf t = m := by
  unfold szOf at h
  rw [Option.map_eq_some_iff] at h
  obtain ⟨i, hi, rfl⟩ := h
  exact ⟨i, hi, by simp [Program.cellsOf, hi]⟩

theorem bytes_beq (a b : ByteArray) : (a.toList == b.toList) = (a.data.toList == b.data.toList) := by
  rw [ByteArray.toList_eq, ByteArray.toList_eq]

theorem run_keyEq {c : Cx} {L : Nat → Prop} {t : TypeId} {x y : AV} {v u : Value} (d : Nat) (hx : keyOK P t x = true) (hs : sameShape x y = true) (hv : VR c L x v) (hu : VR c L y u) (w : World) :
    (Op.equalIn (d + 2) t v u).run P w = .ok (keyEq x y) w := by
  cases hd : P.underlying t with
  | none => simp [keyOK, hd] at hx
  | some td =>
  cases td <;> simp only [keyOK, hd] at hx <;> try (cases hx; done)
  · rename_i q
    cases x <;> simp only at hx <;> try (cases hx; done)
    rename_i k a
    cases y <;> simp only [sameShape] at hs <;> try (cases hs; done)
    rename_i l b
    simp only [VR] at hv hu
    subst hv; subst hu
    simp only [beq_iff_eq] at hs hx
    subst hs; subst hx
    rw [run_equalIn_int w (d + 1) t _ _ a b hd]
    simp [keyEq, keyEq1]
  · cases x <;> simp only at hx <;> try (cases hx; done)
    rename_i a
    cases y <;> simp only [sameShape] at hs <;> try (cases hs; done)
    rename_i b
    simp only [VR] at hv hu
    subst hv; subst hu
    rw [run_equalIn_string w (d + 1) t a b hd, bytes_beq]
    simp [keyEq, keyEq1]
  · rename_i n e
    cases x <;> simp only at hx <;> try (cases hx; done)
    rename_i cs
    cases y <;> simp only [sameShape] at hs <;> try (cases hs; done)
    rename_i cs'
    simp only [Bool.and_eq_true, beq_iff_eq] at hx hs
    obtain ⟨⟨⟨h1, h2⟩, h3⟩, h4⟩ := hx
    obtain ⟨ns, rfl⟩ := intCells hs.1.2
    obtain ⟨ms, rfl⟩ := intCells hs.2
    simp only [VR] at hv hu
    obtain ⟨xs, rfl, hxs⟩ := hv
    obtain ⟨ys, rfl, hys⟩ := hu
    obtain ⟨i, hi, hce⟩ := szOf_info h4
    have hl : ns.length = ms.length := by simpa using hs.1.1
    rw [run_equalIn_array w (d + 1) xs ys hd hi, hce]
    have := run_eqItems_ints (P := P) d w (und_match h3) (VRs_ints hxs) (VRs_ints hys) hl n 0 (by simpa using h1.symm)
    rw [List.range_eq_range', this, keyEq, keyEqs_ints]
    simp
  · rename_i fs
    cases x <;> simp only at hx <;> try (cases hx; done)
    rename_i cs
    cases y <;> simp only [sameShape] at hs <;> try (cases hs; done)
    rename_i cs'
    simp only [Bool.and_eq_true, beq_iff_eq, Bool.not_eq_true'] at hx hs
    obtain ⟨⟨⟨h1, h2⟩, h3⟩, h4⟩ := hx
    obtain ⟨ns, rfl⟩ := intCells hs.1.2
    obtain ⟨ms, rfl⟩ := intCells hs.2
    simp only [VR] at hv hu
    obtain ⟨xs, rfl, hxs⟩ := hv
    obtain ⟨ys, rfl, hys⟩ := hu
    have hl : ns.length = ms.length := by simpa using hs.1.1
    have hf : P.fieldsOf t = fs := by simp [Program.fieldsOf, hd]
    rw [run_equalIn_struct w (d + 1) t xs ys (by rw [hf]; exact hd) h4, hf]
    have := run_eqFields_ints (P := P) d w (VRs_ints hxs) (VRs_ints hys) hl fs.toList 0 (by simpa using h1.symm) h3
    rw [this, keyEq, keyEqs_ints]
    simp

theorem forIn_quiet {α : Type} (w : World) (f : α → PUnit → Sem (ForInStep PUnit)) : ∀ l : List α, (∀ x ∈ l, (f x PUnit.unit).run P w = .ok (.yield PUnit.unit) w) → (forIn l PUnit.unit f).run P w = .ok PUnit.unit w
  | [], _ => by simp
  | x :: xs, h => by
    have ih := forIn_quiet w f xs (fun y hy => h y (by simp [hy]))
    simp only [List.forIn_cons, Sem.run_bind, h x (by simp), Result.andThen_ok]
    exact ih

theorem run_checkKeyA {c : Cx} {L : Nat → Prop} {t : TypeId} {x : AV} {v : Value} (em : Bool) (d : Nat) (hx : keyOK P t x = true) (hv : VR c L x v) (w : World) :
    (Instr.checkKey em (d + 2) t v).run P w = .ok () w := by
  have one : ∀ (e : TypeId) (m : Int), P.underlying e = some (.int .i64) → (Instr.checkKey em (d + 1) e (.int .i64 m)).run P w = .ok () w := by
    intro e m he
    simp [Instr.checkKey, run_und he]
  cases hd : P.underlying t with
  | none => simp [keyOK, hd] at hx
  | some td =>
  cases td <;> simp only [keyOK, hd] at hx <;> try (cases hx; done)
  · cases x <;> simp only at hx <;> try (cases hx; done)
    simp only [VR] at hv
    subst hv
    simp [Instr.checkKey, run_und hd]
  · cases x <;> simp only at hx <;> try (cases hx; done)
    simp only [VR] at hv
    subst hv
    simp [Instr.checkKey, run_und hd]
  · rename_i n e
    cases x <;> simp only at hx <;> try (cases hx; done)
    rename_i cs
    simp only [Bool.and_eq_true, beq_iff_eq] at hx
    obtain ⟨⟨⟨h1, h2⟩, h3⟩, h4⟩ := hx
    obtain ⟨ns, rfl⟩ := intCells h2
    simp only [VR] at hv
    obtain ⟨xs, rfl, hxs⟩ := hv
    rw [Instr.checkKey]
    simp only [Sem.run_bind, run_und hd, Result.andThen_ok]
    simp only [Std.Legacy.Range.forIn_eq_forIn_range', Std.Legacy.Range.size, Nat.sub_zero, Nat.add_one_sub_one, Nat.div_one]
    rw [forIn_quiet w _ (List.range' 0 n) (fun i hi => ?_)]
    · rfl
    · have hi2 : i < ns.length := by simp at hi h1; omega
      simp only [Sem.run_bind, run_szOf h4, Result.andThen_ok, Nat.mul_one]
      rw [run_part_int w (und_match h3) (VRs_ints hxs) (List.getElem?_eq_getElem hi2)]
      simp only [Result.andThen_ok, one e _ (und_match h3)]
      rfl
  · rename_i fs
    cases x <;> simp only at hx <;> try (cases hx; done)
    rename_i cs
    simp only [Bool.and_eq_true, beq_iff_eq, Bool.not_eq_true'] at hx
    obtain ⟨⟨⟨h1, h2⟩, h3⟩, h4⟩ := hx
    obtain ⟨ns, rfl⟩ := intCells h2
    simp only [VR] at hv
    obtain ⟨xs, rfl, hxs⟩ := hv
    rw [Instr.checkKey]
    simp only [Sem.run_bind, run_und hd, Result.andThen_ok]
    rw [← Array.forIn_toList]
    rw [forIn_quiet w _ fs.toList (fun f hf => ?_)]
    · rfl
    · obtain ⟨i, hi, rfl⟩ := List.mem_iff_getElem.1 hf
      have hm : (fs.toList[i], i) ∈ fs.toList.zipIdx := by rw [List.mem_zipIdx_iff_getElem?]; simp [hi]
      have hh := List.all_eq_true.1 h3 _ hm
      generalize fs.toList[i] = f at hh
      simp only [Bool.and_eq_true, bne_iff_ne, ne_eq, beq_iff_eq] at hh
      obtain ⟨⟨⟨f1, f2⟩, f3⟩, f4⟩ := hh
      have hi2 : i < ns.length := by simp at hi h1; omega
      rw [if_pos f1, f2]
      simp only [Sem.run_bind]
      rw [run_part_int w (und_match f3) (VRs_ints hxs) (List.getElem?_eq_getElem hi2)]
      simp only [Result.andThen_ok, one _ _ (und_match f3)]
      rfl
end
end Go.R
