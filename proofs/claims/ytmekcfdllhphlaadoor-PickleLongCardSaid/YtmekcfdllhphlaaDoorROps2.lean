/- Slices, fields, extracts, arithmetic. -/
import Derived.Test.YtmekcfdllhphlaaDoorROps1
set_option linter.unusedVariables false
set_option linter.unusedSimpArgs false
namespace Go.R
open Go

section
variable {P : Program} {L0 : Nat → Prop} {c0 : Cx} {n : Nat} {ds : List Nat} {o : Oper} {s : RS}

theorem run_partA {c : Cx} {L : Nat → Prop} {t : TypeId} {cs : List AV} {vs : Array Value} {off : Nat} {x : AV} (hv : VRs c L cs vs.toList) (h : partA P t cs off = some x) :
    ∃ v, (part t vs off).run P c.w = .ok v c.w ∧ VR c L x v := by
  unfold partA readCs at h
  rw [Option.bind_eq_some_iff] at h
  obtain ⟨ag, hag, h⟩ := h
  simp only [part, Sem.run_bind, run_agg hag, Result.andThen_ok]
  cases ag with
  | true =>
    simp only [if_true, Option.bind_eq_some_iff] at h
    obtain ⟨m, hm, h⟩ := h
    split at h
    · rename_i hle
      cases h
      refine ⟨.agg (vs.extract off (off + m)), by simp [run_szOf hm], ?_⟩
      simp only [VR]
      refine ⟨_, rfl, ?_⟩
      rw [Array.toList_extract, List.extract_eq_take_drop, Nat.add_sub_cancel_left]
      exact (hv.drop off).take m
    · cases h
  | false =>
    simp only [Bool.false_eq_true, if_false] at h
    obtain ⟨v, hv2, hx⟩ := hv.get off x h
    have hv3 : vs[off]? = some v := by rw [← Array.getElem?_toList]; exact hv2
    exact ⟨v, by simp [hv3], hx⟩

theorem run_fieldA {c : Cx} {Lo : Nat → Prop} {lam : Nat → Nat} {bx : Nat → Option (List AV)} {t : TypeId} {x y : AV} {v : Value} {i : Nat} (hx : SR c L0 Lo lam bx x v) (h : fieldA P t x i = some y) :
    ∃ r, (Instr.field t v i).run P c.w = .ok r c.w ∧ VR c (un L0 Lo) y r := by
  unfold fieldA at h
  split at h <;> try (cases h; done)
  rename_i cs
  simp only [SR, VR] at hx
  obtain ⟨vs, rfl, hv⟩ := hx
  rw [Option.bind_eq_some_iff] at h
  obtain ⟨d, hd, h⟩ := h
  split at h <;> try (cases h; done)
  rename_i fs
  rw [Option.bind_eq_some_iff] at h
  obtain ⟨fd, hf, h⟩ := h
  obtain ⟨r, hr, hy⟩ := run_partA hv h
  exact ⟨r, by simp [Instr.field, run_und hd, hf, asAgg, hr], hy⟩

theorem run_fieldAt {c : Cx} {Lo : Nat → Prop} {lam : Nat → Nat} {bx : Nat → Option (List AV)} {t : TypeId} {x y : AV} {v : Value} {i : Nat} (hx : SR c L0 Lo lam bx x v) (h : fieldAddrA P t x i = some y) :
    ∃ r, (Instr.fieldAt t v i).run P c.w = .ok r c.w ∧ SR c L0 Lo lam bx y r := by
  unfold fieldAddrA at h
  rw [Option.bind_eq_some_iff] at h
  obtain ⟨d, hd, h⟩ := h
  split at h <;> try (cases h; done)
  rename_i fs
  simp only [Option.bind_eq_some_iff] at h
  obtain ⟨fd, hf, m, hm, h⟩ := h
  split at h
  · cases h
  · rename_i hm0
    obtain ⟨ad, rfl, hy⟩ := shift_SR h hx
    exact ⟨_, by simp [Instr.fieldAt, run_und hd, hf, Instr.sureAddr, fieldPlace, run_szOf hm, hm0], hy⟩

theorem run_indexA {c : Cx} {Lo : Nat → Prop} {lam : Nat → Nat} {bx : Nat → Option (List AV)} {t : TypeId} {x i y : AV} {v u : Value} (hx : SR c L0 Lo lam bx x v) (hi : SR c L0 Lo lam bx i u) (h : indexA P t x i = some y) :
    ∃ r, (Instr.index t v u).run P c.w = .ok r c.w ∧ VR c (un L0 Lo) y r := by
  unfold indexA at h
  split at h <;> try (cases h; done)
  rename_i k i
  simp only [SR, VR] at hi
  subst hi
  rw [Option.bind_eq_some_iff] at h
  obtain ⟨d, hd, h⟩ := h
  split at h <;> try (cases h; done)
  · rename_i len e
    split at h <;> try (cases h; done)
    rename_i cs
    simp only [SR, VR] at hx
    obtain ⟨vs, rfl, hv⟩ := hx
    rw [Option.bind_eq_some_iff] at h
    obtain ⟨m, hm, h⟩ := h
    split at h
    · rename_i hin
      obtain ⟨r, hr, hy⟩ := run_partA hv h
      exact ⟨r, by simp [Instr.index, asIntOf, run_und hd, hin, run_szOf hm, hr], hy⟩
    · cases h
  · split at h <;> try (cases h; done)
    rename_i st
    simp only [SR, VR] at hx
    subst hx
    split at h
    · rename_i h0
      rw [Option.map_eq_some_iff] at h
      obtain ⟨b, hb, rfl⟩ := h
      have hb2 : st[i.toNat]? = some b := by
        have hl : i.toNat < st.data.toList.length := (List.getElem?_eq_some_iff.1 hb).1
        have hl2 : i.toNat < st.size := by simpa using hl
        rw [getElem?_pos st i.toNat hl2]
        have := (List.getElem?_eq_some_iff.1 hb).2
        rw [← this]
        rfl
      exact ⟨.int .u8 b.toNat, by simp [Instr.index, asIntOf, run_und hd, h0, hb2], by simp [VR]⟩
    · cases h

theorem run_bounds {c : Cx} {Lo : Nat → Prop} {lam : Nat → Nat} {bx : Nat → Option (List AV)} {isS : Bool} {len lim cap : Nat} {lo hi : Option AV} {lov hiv : Option Value} {l h : Nat} (hl : lim ≤ cap)
    (hlo : ∀ x, lo = some x → ∃ v, lov = some v ∧ SR c L0 Lo lam bx x v) (hlo' : lo = none → lov = none) (hhi : ∀ x, hi = some x → ∃ v, hiv = some v ∧ SR c L0 Lo lam bx x v) (hhi' : hi = none → hiv = none)
    (hb : boundsA len lim lo hi = some (l, h)) : (Instr.sliceBounds isS len cap lov hiv none).run P c.w = .ok (l, h, cap) c.w ∧ l ≤ h ∧ (h ≤ lim ∨ h = len) := by
  unfold boundsA at hb
  simp only [Option.bind_eq_some_iff] at hb
  obtain ⟨h', hh, l', hl', he⟩ := hb
  cases he
  have e1 : (hiv = none ∧ h = len) ∨ ∃ k i, hiv = some (.int k i) ∧ (0 ≤ i ∧ i ≤ (cap : Int)) ∧ h = i.toNat ∧ h ≤ lim := by
    cases hi with
    | none =>
      simp only [Option.some.injEq] at hh
      exact .inl ⟨hhi' rfl, hh.symm⟩
    | some x =>
      obtain ⟨v, rfl, hv⟩ := hhi x rfl
      cases x <;> simp only at hh <;> try (cases hh; done)
      rename_i k i
      simp only [SR, VR] at hv
      subst hv
      split at hh
      · rename_i hin
        cases hh
        exact .inr ⟨k, i, rfl, ⟨hin.1, by omega⟩, rfl, by omega⟩
      · cases hh
  have e2 : (lov = none ∧ l = 0) ∨ ∃ k i, lov = some (.int k i) ∧ (0 ≤ i ∧ i ≤ (h : Int)) ∧ l = i.toNat := by
    cases lo with
    | none =>
      simp only [Option.some.injEq] at hl'
      exact .inl ⟨hlo' rfl, hl'.symm⟩
    | some x =>
      obtain ⟨v, rfl, hv⟩ := hlo x rfl
      cases x <;> simp only at hl' <;> try (cases hl'; done)
      rename_i k i
      simp only [SR, VR] at hv
      subst hv
      split at hl'
      · rename_i hin
        cases hl'
        exact .inr ⟨k, i, rfl, hin, rfl⟩
      · cases hl'
  clear hlo hlo' hhi hhi' hh hl'
  have e3 : l ≤ h := by rcases e2 with ⟨_, h2⟩ | ⟨k, i, _, h2, h3⟩ <;> omega
  have e4 : h ≤ lim ∨ h = len := by rcases e1 with ⟨_, h2⟩ | ⟨k, i, _, h2, h3, h4⟩ <;> omega
  refine ⟨?_, e3, e4⟩
  rcases e1 with ⟨rfl, rfl⟩ | ⟨k, i, rfl, hi1, rfl, _⟩ <;> rcases e2 with ⟨rfl, rfl⟩ | ⟨k2, i2, rfl, hi2, rfl⟩ <;> simp_all [Instr.sliceBounds, Instr.sliceBound, asIntOf]

theorem isZero_run {c : Cx} {Lo : Nat → Prop} {lam : Nat → Nat} {bx : Nat → Option (List AV)} {x : AV} {v : Value} (h : isZero (some x) = true) (hv : SR c L0 Lo lam bx x v) : ∃ k, v = .int k 0 := by
  cases x <;> simp [isZero] at h
  subst h
  simp only [SR, VR] at hv
  exact ⟨_, hv⟩

theorem run_sliceA {c : Cx} {Lo : Nat → Prop} {lam : Nat → Nat} {bx : Nat → Option (List AV)} {t : TypeId} {x y : AV} {v : Value} {lo hi mx : Option AV} {lov hiv mxv : Option Value} (hx : SR c L0 Lo lam bx x v)
    (hlo : ∀ x, lo = some x → ∃ v, lov = some v ∧ SR c L0 Lo lam bx x v) (hlo' : lo = none → lov = none) (hhi : ∀ x, hi = some x → ∃ v, hiv = some v ∧ SR c L0 Lo lam bx x v) (hhi' : hi = none → hiv = none)
    (hmx : ∀ x, mx = some x → ∃ v, mxv = some v ∧ SR c L0 Lo lam bx x v) (hmx' : mx = none → mxv = none)
    (h : sliceA P t x lo hi mx = some y) : ∃ r, (Instr.sliceAt t v lov hiv mxv).run P c.w = .ok r c.w ∧ VR c (un L0 Lo) y r := by
  unfold sliceA at h
  rw [Option.bind_eq_some_iff] at h
  obtain ⟨d, hd, h⟩ := h
  have hat : (match d with | .array _ _ => false | _ => true) = true → (Instr.sliceAt t v lov hiv mxv).run P c.w = (Instr.slice t v lov hiv mxv).run P c.w := by
    intro hna
    unfold Instr.sliceAt
    simp only [Sem.run_bind, run_und hd, Result.andThen_ok]
    cases d <;> simp at hna <;> rfl
  split at h <;> try (cases h; done)
  · rw [hat rfl]
    cases mx with
    | some mm => cases x <;> cases h
    | none =>
    cases x <;> simp only at h <;> try (cases h; done)
    rename_i st
    rw [hmx' rfl]
    simp only [SR, VR] at hx
    subst hx
    rw [Option.map_eq_some_iff] at h
    obtain ⟨⟨l, hh⟩, hb, rfl⟩ := h
    obtain ⟨hr, _, _⟩ := run_bounds (P := P) (isS := false) (Nat.le_refl _) hlo hlo' hhi hhi' hb
    exact ⟨.string (st.extract l hh), by simp [Instr.slice, run_und hd, hr], by simp [VR]⟩
  · rename_i e
    rw [hat rfl]
    rw [Option.bind_eq_some_iff] at h
    obtain ⟨m, hm, h⟩ := h
    cases mx with
    | some mm =>
      cases hi with
      | none => cases h
      | some hh =>
      simp only at h
      split at h
      · rename_i hz
        simp only [Bool.and_eq_true] at hz
        obtain ⟨⟨z1, z2⟩, z3⟩ := hz
        obtain ⟨mv, rfl, hmv⟩ := hmx mm rfl
        obtain ⟨hv, rfl, hhv⟩ := hhi hh rfl
        obtain ⟨k3, rfl⟩ := isZero_run z3 hmv
        obtain ⟨k2, rfl⟩ := isZero_run z2 hhv
        have hsl : ∃ a len cap, v = .slice a len cap ∧ VR c (un L0 Lo) y (.slice a 0 0) := by
          split at h <;> try (cases h; done)
          all_goals (cases h; simp only [SR, VR] at hx)
          · obtain ⟨a, cap, rfl, _, _, hs, _⟩ := hx; exact ⟨_, _, _, rfl, by simp only [VR]; exact ⟨_, _, rfl, Nat.le_refl _, fun _ => rfl, hs, .inl (by simp)⟩⟩
          · obtain ⟨_, a, cap, rfl, _, hs, _⟩ := hx; exact ⟨_, _, _, rfl, by simp only [VR]; exact ⟨_, _, rfl, Nat.le_refl _, fun _ => rfl, hs, .inl (by simp)⟩⟩
          · subst hx; exact ⟨_, _, _, rfl, by simp [VR]⟩
        obtain ⟨a, len, cap, rfl, hyv⟩ := hsl
        have hlz : lov = none ∨ ∃ k, lov = some (.int k 0) := by
          cases lo with
          | none => exact .inl (hlo' rfl)
          | some x =>
            obtain ⟨lv, rfl, hlv⟩ := hlo x rfl
            obtain ⟨k, rfl⟩ := isZero_run z1 hlv
            exact .inr ⟨k, rfl⟩
        refine ⟨.slice a 0 0, ?_, hyv⟩
        rcases hlz with rfl | ⟨k, rfl⟩ <;> simp [Instr.slice, run_und hd, Instr.sliceBounds, Instr.sliceBound, asIntOf, run_szOf hm]
      · cases h
    | none =>
      rw [hmx' rfl]
      simp only at h
      cases x with
      | nils =>
        simp only [SR, VR] at hx
        subst hx
        rw [Option.map_eq_some_iff] at h
        obtain ⟨⟨l, hh⟩, hb, rfl⟩ := h
        obtain ⟨hr, h1, h2⟩ := run_bounds (P := P) (isS := true) (Nat.le_refl _) hlo hlo' hhi hhi' hb
        have : hh = 0 := by omega
        subst this
        have : l = 0 := by omega
        subst this
        exact ⟨.slice none 0 0, by simp [Instr.slice, run_und hd, hr, run_szOf hm], by simp [VR]⟩
      | fz cs len ex =>
        simp only [SR, VR] at hx
        obtain ⟨a, cap, rfl, hc1, hc2, hs, hc⟩ := hx
        rw [Option.map_eq_some_iff] at h
        obtain ⟨⟨l, hh⟩, hb, rfl⟩ := h
        obtain ⟨hr, h1, h2⟩ := run_bounds (P := P) (isS := true) hc1 hlo hlo' hhi hhi' hb
        have hh2 : hh ≤ len := by omega
        refine ⟨.slice (if cap = l then a else a.map (·.add (l * m))) (hh - l) (cap - l), by simp [Instr.slice, run_und hd, hr, run_szOf hm], ?_⟩
        simp only [VR]
        refine ⟨_, _, rfl, by omega, fun he => ?_, by split <;> simp [hs], ?_⟩
        · simp only [Bool.and_eq_true, beq_iff_eq] at he
          have := hc2 he.1
          omega
        · rcases hc with hc | ⟨b, o', ha, hro, hex, hc⟩
          · subst hc; exact .inl (by simp)
          · by_cases hcl : cap = l
            · left
              have : hh - l = 0 := by omega
              simp [this]
            · right
              rw [if_neg hcl, ha]
              exact ⟨b, o' + l * m, by simp [addr_add], hro, fun he => hex (by simp only [Bool.and_eq_true] at he; exact he.1), (hc.drop _).take _⟩
      | rs id off len esz =>
        simp only at h
        split at h
        · rename_i hes
          subst hes
          simp only [SR, VR] at hx
          obtain ⟨hid, a, cap, rfl, hc1, hc2, hc⟩ := hx
          rw [Option.map_eq_some_iff] at h
          obtain ⟨⟨l, hh⟩, hb, rfl⟩ := h
          obtain ⟨hr, h1, h2⟩ := run_bounds (P := P) (isS := true) hc1 hlo hlo' hhi hhi' hb
          have hh2 : hh ≤ len := by omega
          refine ⟨.slice (if cap = l then a else a.map (·.add (l * esz))) (hh - l) (cap - l), by simp [Instr.slice, run_und hd, hr, run_szOf hm], ?_⟩
          simp only [VR]
          refine ⟨hid, _, _, rfl, by omega, by split <;> simp [hc2], fun hl => ?_⟩
          · rcases hc hl with ⟨h3, h4⟩ | h3
            · by_cases hcl : cap = l
              · right; omega
              · left
                rw [if_neg hcl, h3]
                refine ⟨by simp [addr_add, Nat.add_assoc], ?_⟩
                rw [← h4]
                have : cap * esz = l * esz + (cap - l) * esz := by rw [← Nat.add_mul]; congr 1; omega
                omega
            · right; omega
        · cases h
      | _ => cases h
end
end Go.R
