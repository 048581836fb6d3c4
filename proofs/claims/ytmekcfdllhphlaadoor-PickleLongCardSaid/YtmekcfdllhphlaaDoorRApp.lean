/- Literals, appends, copies, maps that are written. -/
import Derived.Test.YtmekcfdllhphlaaDoorRNew
set_option linter.unusedVariables false
set_option linter.unusedSimpArgs false
namespace Go.R
open Go

def spliceV : List Value → Nat → List Value → List Value
  | cs, _, [] => cs
  | cs, i, v :: vs => spliceV (cs.set i v) (i + 1) vs

theorem VRs.splice {c : Cx} {L : Nat → Prop} : ∀ {xs : List AV} {us : List Value} (i : Nat) {cs : List AV} {vs : List Value}, VRs c L xs us → VRs c L cs vs → VRs c L (splice cs i xs) (spliceV vs i us)
  | [], [], i, cs, vs, _, h => by
    have : R.splice cs i [] = cs := by cases cs <;> rfl
    rw [this]; cases vs <;> exact h
  | x :: xs, u :: us, i, cs, vs, h, k => VRs.splice (i + 1) h.2 (VRs.set h.1 i k)
  | [], _ :: _, _, _, _, h, _ => h.elim
  | _ :: _, [], _, _, _, h, _ => h.elim

theorem spliceV_one : ∀ (us : List Value) (i : Nat) (vs : List Value), (∀ v ∈ vs, v.oneCell' = true) → (∀ u ∈ us, u.oneCell' = true) → ∀ v ∈ spliceV vs i us, v.oneCell' = true
  | [], i, vs, h, _, v, hv => h v (by cases vs <;> exact hv)
  | u :: us, i, vs, h, k, v, hv => spliceV_one us (i + 1) (vs.set i u) (fun w hw => by
      rcases List.mem_or_eq_of_mem_set hw with h1 | h1
      · exact h w h1
      · subst h1; exact k _ (by simp)) (fun w hw => k w (by simp [hw])) v hv

theorem foldl_splice (off : Nat) : ∀ (us : List Value) (j : Nat) (cells : Array Value), ((us.zipIdx j).foldl (fun cs (p : Value × Nat) => cs.setIfInBounds (off + p.2) p.1) cells).toList = spliceV cells.toList (off + j) us
  | [], j, cells => by simp [spliceV]
  | u :: us, j, cells => by
    simp only [List.zipIdx_cons, List.foldl_cons]
    rw [foldl_splice off us (j + 1)]
    simp [spliceV, Nat.add_assoc]

section
variable {P : Program} {L0 : Nat → Prop} {c0 : Cx} {n : Nat} {ds : List Nat} {o : Oper} {s : RS}

def PartsR (c : Cx) (L : Nat → Prop) : List (Nat × AV) → List (Nat × Value) → Prop
  | [], [] => True
  | (i, x) :: xs, (j, v) :: vs => (i = j ∧ (x.cells.all AV.cellOK = true → VR c L x v)) ∧ PartsR c L xs vs
  | _, _ => False

theorem fill_fillA {c : Cx} {L : Nat → Prop} (pl : Nat → Option (Nat × Nat)) : ∀ {ps : List (Nat × AV)} {vs : List (Nat × Value)} {cs cs' : List AV} {C : Array Value}, PartsR c L ps vs → VRs c L cs C.toList → (∀ v ∈ C.toList, v.oneCell' = true) → fillA pl cs ps = some cs' →
    ∃ C' : Array Value, Instr.fill pl C vs = some C' ∧ VRs c L cs' C'.toList ∧ ∀ v ∈ C'.toList, v.oneCell' = true
  | [], [], cs, cs', C, _, hc, h1, h => by
    simp only [fillA, Option.some.injEq] at h
    subst h
    exact ⟨C, rfl, hc, h1⟩
  | (i, x) :: ps, (j, v) :: vs, cs, cs', C, hp, hc, h1, h => by
    obtain ⟨⟨rfl, hx⟩, hps⟩ := hp
    simp only [fillA, Option.bind_eq_some_iff] at h
    obtain ⟨⟨off, size⟩, hpl, h⟩ := h
    simp only at h
    split at h
    · rename_i hcond
      obtain ⟨h2, h3, h4⟩ := hcond
      obtain ⟨h5, h6⟩ := cells_VR h3 (hx h3)
      have h7 : v.cells.size = size := by rw [← Array.length_toList, ← h5.length]; exact h2
      have h8 : cs.length = C.size := by rw [hc.length]; simp
      have hf : (v.cells.zipIdx.foldl (fun cs (p : Value × Nat) => cs.setIfInBounds (off + p.2) p.1) C).toList = spliceV C.toList off v.cells.toList := by
        rw [← Array.foldl_toList, Array.toList_zipIdx]
        exact foldl_splice off v.cells.toList 0 C
      obtain ⟨C', h9, h10, h11⟩ := fill_fillA pl (C := v.cells.zipIdx.foldl (fun cs (p : Value × Nat) => cs.setIfInBounds (off + p.2) p.1) C) hps (by rw [hf]; exact VRs.splice off h5 hc) (by rw [hf]; exact spliceV_one _ _ _ h1 h6) h
      refine ⟨C', ?_, h10, h11⟩
      simp only [Instr.fill, hpl]
      rw [if_neg (by simp only [Bool.or_eq_true, decide_eq_true_eq, not_or, ne_eq, Decidable.not_not]; exact ⟨h7, by omega⟩)]
      exact h9
    · cases h
  | [], _ :: _, _, _, _, h, _, _, _ => h.elim
  | _ :: _, [], _, _, _, h, _, _, _ => h.elim

theorem parts_SR {c : Cx} {Lo : Nat → Prop} {lam : Nat → Nat} {a : Act} (f : Fr L0 c Lo lam ds s a) : ∀ ps : List (Nat × Operand), PartsR c (un L0 Lo) (ps.map fun (i, x) => (i, opnd s.ρ x)) (ps.map fun (i, x) => (i, a.eval x))
  | [] => trivial
  | (i, x) :: ps => ⟨⟨rfl, fun h => (opnd_SR f x).cellsVR h⟩, parts_SR f ps⟩

theorem ofV1_cellOK {v : Value} {x : AV} (h : ofV1 v = some x) : x.cellOK = true := by
  unfold ofV1 at h
  split at h <;> first | (cases h; done) | (cases h; rfl)
theorem ofV1s_cellOK : ∀ {vs : List Value} {xs : List AV}, ofV1s vs = some xs → xs.all AV.cellOK = true
  | [], xs, h => by simp [ofV1s] at h; subst h; rfl
  | v :: vs, xs, h => by
    simp only [ofV1s, Option.bind_eq_some_iff] at h
    obtain ⟨x, hx, ys, hy, he⟩ := h
    cases he
    simp [ofV1_cellOK hx, ofV1s_cellOK hy]
theorem ofV_cellOK {v : Value} {x : AV} (h : ofV v = some x) : x.cells.all AV.cellOK = true := by
  unfold ofV at h
  split at h
  · rw [Option.map_eq_some_iff] at h
    obtain ⟨xs, hx, rfl⟩ := h
    exact ofV1s_cellOK hx
  · have h1 := ofV1_cellOK h
    cases x <;> simp_all [AV.cells, AV.cellOK]

theorem places_run {c : Cx} (w : World) : ∀ fs : List Field, (∀ f ∈ fs, ∃ m, szOf P f.type = some m) → (fs.mapM (m := Sem) fun f => do pure (f.offset, ← sizeOf f.type)).run P w = .ok (fs.map fun f => (f.offset, (szOf P f.type).getD 0)) w
  | [], _ => by simp
  | f :: fs, h => by
    obtain ⟨m, hm⟩ := h f (by simp)
    have ih := places_run (c := c) w fs (fun g hg => h g (by simp [hg]))
    simp only [List.mapM_cons, Sem.run_bind, run_szOf hm, ih, hm, Sem.run_pure, Result.andThen_ok, List.map_cons, Option.getD_some]

theorem run_build {c : Cx} {L : Nat → Prop} {t : TypeId} {ps : List (Nat × AV)} {vs : List (Nat × Value)} {y : AV} (hp : PartsR c L ps vs) (h : buildA P t ps = some y) :
    ∃ v, (Instr.build t vs.toArray).run P c.w = .ok v c.w ∧ VR c L y v := by
  unfold buildA at h
  simp only [Option.bind_eq_some_iff] at h
  obtain ⟨z, hz, d, hd, h⟩ := h
  obtain ⟨zv, hzr, hzo⟩ := run_zeroA hz c.w
  obtain ⟨hzv, hz1⟩ := cells_VR (ofV_cellOK hzo) (ofV_VR (c := c) (L := L) hzo)
  cases d <;> simp only at h <;> try (cases h; done)
  · rename_i len e
    simp only [Option.bind_eq_some_iff, Option.map_eq_some_iff] at h
    obtain ⟨m, hm, cs, hf, rfl⟩ := h
    obtain ⟨C', h1, h2, _⟩ := fill_fillA _ hp hzv hz1 hf
    refine ⟨.agg C', ?_, by simp only [VR]; exact ⟨C', rfl, h2⟩⟩
    unfold Instr.build
    simp [hzr, run_und hd, run_szOf hm, h1]
  · rename_i fs
    split at h
    rotate_left
    · cases h
    rename_i hall0
    have hall : ∀ f ∈ fs.toList, ∃ m, szOf P f.type = some m := fun f hf => Option.isSome_iff_exists.1 (List.all_eq_true.1 hall0 f hf)
    rw [Option.map_eq_some_iff] at h
    obtain ⟨cs, hf, rfl⟩ := h
    obtain ⟨C', h1, h2, _⟩ := fill_fillA _ hp hzv hz1 hf
    refine ⟨.agg C', ?_, by simp only [VR]; exact ⟨C', rfl, h2⟩⟩
    have hpr := places_run (P := P) (c := c) c.w fs.toList hall
    have hpl : (fun i => (fs.toList.map fun f => (f.offset, (szOf P f.type).getD 0)).toArray[i]?) = places P fs.toList := by
      funext i
      simp only [places, List.getElem?_toArray, List.getElem?_map]
      cases hi : fs.toList[i]? with
      | none => rfl
      | some f =>
        obtain ⟨m, hm⟩ := hall f (List.mem_of_getElem? hi)
        simp [hm]
    unfold Instr.build
    simp only [Sem.run_bind, hzr, run_und hd, Result.andThen_ok]
    rw [← Array.toArray_toList (xs := fs), List.mapM_toArray]
    simp only [Sem.run_map, hpr, Result.andThen_ok]
    rw [hpl, h1]
    rfl
end
end Go.R
