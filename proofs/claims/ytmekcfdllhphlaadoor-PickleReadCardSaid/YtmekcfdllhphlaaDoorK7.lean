/- Part of the proof: PT6, Q119, PS2. -/
import Derived.Test.YtmekcfdllhphlaaDoorK6
set_option linter.unusedVariables false
set_option linter.unusedSimpArgs false
set_option maxRecDepth 100000
namespace Go.Proofs.YtmekcfdllhphlaaDoor
open Go Go.R
open Go.IntKind (i64 u64 u8 u32)
def letterB (c : Int) : Bool := decide (97 ≤ c ∧ c ≤ 122) || decide (65 ≤ c ∧ c ≤ 90) || decide (48 ≤ c ∧ c ≤ 57) || c == 95
theorem letter_spec {m : Nat} (c : Int) : tree_letter.f m c = some (letterB c) := by
  unfold tree_letter.f
  by_cases h1 : 97 ≤ c <;> by_cases h2 : c ≤ 122 <;> by_cases h3 : 65 ≤ c <;> by_cases h4 : c ≤ 90 <;> by_cases h5 : 48 ≤ c <;> by_cases h6 : c ≤ 57 <;> simp [letterB, h1, h2, h3, h4, h5, h6] <;> omega
theorem bt_some {s : ByteArray} {i : Nat} (h : i < s.size) : ∃ c : UInt8, s.data.toList[i]? = some c ∧ bt s (i : Int) = some (c.toNat : Int) := by
  have h' : i < s.data.toList.length := by simpa using h
  refine ⟨s.data.toList[i], List.getElem?_eq_getElem h', ?_⟩
  unfold bt; rw [if_pos (by omega), Int.toNat_natCast, List.getElem?_eq_getElem h']; rfl
theorem word_l0 {m : Nat} {s : ByteArray} (hs : s.size ≤ 16) : ∀ (f i : Nat), s.size - i < f → i ≤ s.size →
    ∃ o, tree_Word.l0 m s f (i : Int) = some o ∧ ((∃ x, o = .inr x) ∧ ((s.data.toList.drop i).all fun c => letterB (c.toNat : Int)) = true ∨ o = .inl false ∧ ((s.data.toList.drop i).all fun c => letterB (c.toNat : Int)) = false)
  | 0, i, hf, _ => absurd hf (by omega)
  | f + 1, i, hf, hi => by
    unfold tree_Word.l0
    by_cases h : i < s.size
    · obtain ⟨c, hc, hb⟩ := bt_some h
      obtain ⟨h4, h5⟩ := List.getElem?_eq_some_iff.1 hc
      have hd : s.data.toList.drop i = c :: s.data.toList.drop (i + 1) := by rw [← h5]; exact List.drop_eq_getElem_cons h4
      rw [if_pos (by simp only [decide_eq_true_eq]; omega), hb, Option.bind_some, letter_spec, Option.bind_some, hd, List.all_cons]
      cases hl : letterB (c.toNat : Int) with
      | false => exact ⟨_, rfl, .inr ⟨rfl, rfl⟩⟩
      | true =>
        obtain ⟨o, h1, h2⟩ := word_l0 (m := m) hs f (i + 1) (by omega) (by omega)
        rw [if_neg (by simp), i64_id (by omega) (by omega), show (i : Int) + 1 = ((i + 1 : Nat) : Int) by omega, h1]
        exact ⟨o, rfl, by simpa using h2⟩
    · refine ⟨_, by rw [if_neg (by simp only [decide_eq_true_eq]; omega)], .inl ⟨⟨_, rfl⟩, ?_⟩⟩
      rw [List.drop_eq_nil_of_le (by simp; omega)]; rfl
def wordB (s : ByteArray) (lo hi : Int) : Bool := match s.data.toList with
  | [] => false
  | c :: cs => decide (cs.length ≤ 15) && decide (lo ≤ (c.toNat : Int)) && decide ((c.toNat : Int) ≤ hi) && ((c :: cs).all fun c => letterB (c.toNat : Int))
theorem word_spec {m : Nat} (hm : 20 ≤ m) (s : ByteArray) (lo hi : Int) : tree_Word.f m s lo hi = some (wordB s lo hi) := by
  have hsz : s.size = s.data.toList.length := by simp
  unfold tree_Word.f wordB
  cases hl : s.data.toList with
  | nil => rw [if_pos (by rw [hl, List.length_nil] at hsz; simp only [decide_eq_true_eq]; omega)]
  | cons c cs =>
    rw [hl, List.length_cons] at hsz
    rw [if_neg (by simp only [decide_eq_true_eq]; omega)]
    dsimp only
    by_cases h16 : cs.length ≤ 15
    · obtain ⟨c', h1, h2⟩ := bt_some (s := s) (i := 0) (by omega)
      rw [hl] at h1
      simp only [List.getElem?_cons_zero, Option.some.injEq] at h1
      subst h1
      have h2 : bt s 0 = _ := h2
      rw [if_neg (by simp only [decide_eq_true_eq]; omega), h2, Option.bind_some]
      by_cases h3 : (c.toNat : Int) < lo
      · rw [if_pos (by simpa using h3)]
        simp only [Option.some.injEq]
        rw [show decide (lo ≤ (c.toNat : Int)) = false by simp; omega]; simp
      rw [if_neg (by simpa using h3), Option.bind_some]
      by_cases h4 : (c.toNat : Int) > hi
      · rw [if_pos (by simpa using h4)]
        simp only [Option.some.injEq]
        rw [show decide ((c.toNat : Int) ≤ hi) = false by simp; omega]; simp
      rw [if_neg (by simpa using h4)]
      obtain ⟨o, k1, k2⟩ := word_l0 (m := m) (s := s) (by omega) m 0 (by omega) (by omega)
      have k1 : tree_Word.l0 m s m 0 = _ := k1
      rw [k1, Option.bind_some]
      rw [List.drop_zero, hl] at k2
      rw [show decide (lo ≤ (c.toNat : Int)) = true by simp; omega, show decide ((c.toNat : Int) ≤ hi) = true by simp; omega, show decide (cs.length ≤ 15) = true by simpa using h16]
      simp only [Bool.true_and]
      rcases k2 with ⟨⟨x, rfl⟩, k⟩ | ⟨rfl, k⟩
      · rw [k]
      · rw [k]
    · rw [if_pos (by simp only [decide_eq_true_eq]; omega), show decide (cs.length ≤ 15) = false by simp; omega]; rfl
def atomB (s : ByteArray) : Bool := s.data.toList == [124] || s.data.toList == [35] || wordB s 97 122
theorem atom_spec {m : Nat} (hm : 20 ≤ m) (s : ByteArray) : tree_Atom.f m s = some (atomB s) := by
  unfold tree_Atom.f atomB
  show (if (s.data.toList == [124]) = true then _ else if (s.data.toList == [35]) = true then _ else _) = _
  cases h1 : s.data.toList == [124] with
  | true => rfl
  | false =>
    cases h2 : s.data.toList == [35] with
    | true => rfl
    | false => rw [word_spec hm]; rfl
theorem atom_size {s : ByteArray} (h : atomB s = true) : 1 ≤ s.size ∧ s.size ≤ 16 := by
  have hsz : s.size = s.data.toList.length := by simp
  unfold atomB at h
  simp only [Bool.or_eq_true, beq_iff_eq] at h
  rcases h with (h | h) | h
  · rw [h] at hsz; simp at hsz; omega
  · rw [h] at hsz; simp at hsz; omega
  · unfold wordB at h
    split at h
    · cases h
    · rename_i c cs hl
      rw [hl] at hsz
      simp only [Bool.and_eq_true, decide_eq_true_eq] at h
      simp at hsz; omega
def nameB (s : ByteArray) : Bool := s.data.toList == [112, 114, 111, 99] || s.data.toList == [99, 101, 108, 108] || s.data.toList == [112, 111, 114, 116]
theorem name_spec {m : Nat} (s : ByteArray) : tree_Names.f m s = some (nameB s) := by
  unfold tree_Names.f nameB
  show (if (s.data.toList == [112, 114, 111, 99]) = true then _ else if (s.data.toList == [99, 101, 108, 108]) = true then _ else some (s.data.toList == [112, 111, 114, 116])) = _
  cases h1 : s.data.toList == [112, 114, 111, 99] with
  | true => rfl
  | false =>
    cases h2 : s.data.toList == [99, 101, 108, 108] with
    | true => rfl
    | false => rfl
theorem indexI {m : Nat} {s : List Int} {f0 : Int → Option Bool} {g : Int → Bool} (hs : s.length < 2 ^ 40) (C : ∀ x ∈ s, f0 x = some (g x)) : ∀ (f i : Nat), s.length - i < f → i ≤ s.length →
    ∃ o, IndexFI.l0 m s f0 f (i : Int) = some o ∧ ((∃ x, o = .inr x) ∧ (s.drop i).any g = false ∨ (∃ x : Nat, o = .inl (x : Int)) ∧ (s.drop i).any g = true)
  | 0, i, hf, _ => absurd hf (by omega)
  | f + 1, i, hf, hi => by
    have p40 : (2 : Nat) ^ 40 = 1099511627776 := by decide
    unfold IndexFI.l0
    by_cases h : i < s.length
    · have hx : ix s (i : Int) = some s[i] := by unfold ix; rw [if_pos (by omega)]; simp [h]
      rw [if_pos (by simp only [decide_eq_true_eq]; omega), hx, Option.bind_some, C _ (List.getElem_mem h), Option.bind_some, List.drop_eq_getElem_cons h, List.any_cons]
      cases g s[i] with
      | true => exact ⟨_, rfl, .inr ⟨⟨i, rfl⟩, rfl⟩⟩
      | false =>
        obtain ⟨o, h1, h2⟩ := indexI (m := m) hs C f (i + 1) (by omega) (by omega)
        rw [if_neg (by simp), i64_id (by omega) (by omega), show (i : Int) + 1 = ((i + 1 : Nat) : Int) by omega, h1]
        exact ⟨o, rfl, by simpa using h2⟩
    · refine ⟨_, by rw [if_neg (by simp only [decide_eq_true_eq]; omega)], .inl ⟨⟨_, rfl⟩, ?_⟩⟩
      rw [List.drop_eq_nil_of_le (by omega)]; rfl
theorem containsI {m : Nat} {s : List Int} {f0 : Int → Option Bool} {g : Int → Bool} (hs : s.length < 2 ^ 40) (hm : s.length < m) (C : ∀ x ∈ s, f0 x = some (g x)) : ContainsFI.f m s f0 = some (s.any g) := by
  obtain ⟨o, h1, h2⟩ := indexI (m := m) hs C m 0 (by omega) (by omega)
  have h1 : IndexFI.l0 m s f0 m 0 = _ := h1
  unfold ContainsFI.f IndexFI.f
  rw [h1, Option.bind_some]
  rw [List.drop_zero] at h2
  rcases h2 with ⟨⟨x, rfl⟩, k⟩ | ⟨⟨x, rfl⟩, k⟩
  · rw [k]; rfl
  · rw [k]
    simp only [Option.bind_some, Option.some.injEq]
    simp
theorem indexN {m : Nat} {s : List VNode} {f0 : VNode → Option Bool} {g : VNode → Bool} (hs : s.length < 2 ^ 40) (C : ∀ x ∈ s, f0 x = some (g x)) : ∀ (f i : Nat), s.length - i < f → i ≤ s.length →
    ∃ o, IndexFN.l0 m s f0 f (i : Int) = some o ∧ ((∃ x, o = .inr x) ∧ (s.drop i).any g = false ∨ (∃ x : Nat, o = .inl (x : Int)) ∧ (s.drop i).any g = true)
  | 0, i, hf, _ => absurd hf (by omega)
  | f + 1, i, hf, hi => by
    have p40 : (2 : Nat) ^ 40 = 1099511627776 := by decide
    unfold IndexFN.l0
    by_cases h : i < s.length
    · have hx : ix s (i : Int) = some s[i] := by unfold ix; rw [if_pos (by omega)]; simp [h]
      rw [if_pos (by simp only [decide_eq_true_eq]; omega), hx, Option.bind_some, C _ (List.getElem_mem h), Option.bind_some, List.drop_eq_getElem_cons h, List.any_cons]
      cases g s[i] with
      | true => exact ⟨_, rfl, .inr ⟨⟨i, rfl⟩, rfl⟩⟩
      | false =>
        obtain ⟨o, h1, h2⟩ := indexN (m := m) hs C f (i + 1) (by omega) (by omega)
        rw [if_neg (by simp), i64_id (by omega) (by omega), show (i : Int) + 1 = ((i + 1 : Nat) : Int) by omega, h1]
        exact ⟨o, rfl, by simpa using h2⟩
    · refine ⟨_, by rw [if_neg (by simp only [decide_eq_true_eq]; omega)], .inl ⟨⟨_, rfl⟩, ?_⟩⟩
      rw [List.drop_eq_nil_of_le (by omega)]; rfl
theorem containsN {m : Nat} {s : List VNode} {f0 : VNode → Option Bool} {g : VNode → Bool} (hs : s.length < 2 ^ 40) (hm : s.length < m) (C : ∀ x ∈ s, f0 x = some (g x)) : ContainsFN.f m s f0 = some (s.any g) := by
  obtain ⟨o, h1, h2⟩ := indexN (m := m) hs C m 0 (by omega) (by omega)
  have h1 : IndexFN.l0 m s f0 m 0 = _ := h1
  unfold ContainsFN.f IndexFN.f
  rw [h1, Option.bind_some]
  rw [List.drop_zero] at h2
  rcases h2 with ⟨⟨x, rfl⟩, k⟩ | ⟨⟨x, rfl⟩, k⟩
  · rw [k]; rfl
  · rw [k]
    simp only [Option.bind_some, Option.some.injEq]
    simp
theorem indexT {m : Nat} {s : List VTree} {f0 : VTree → Option Bool} {g : VTree → Bool} (hs : s.length < 2 ^ 40) (C : ∀ x ∈ s, f0 x = some (g x)) : ∀ (f i : Nat), s.length - i < f → i ≤ s.length →
    ∃ o, IndexFT.l0 m s f0 f (i : Int) = some o ∧ ((∃ x, o = .inr x) ∧ (s.drop i).any g = false ∨ (∃ x : Nat, o = .inl (x : Int)) ∧ (s.drop i).any g = true)
  | 0, i, hf, _ => absurd hf (by omega)
  | f + 1, i, hf, hi => by
    have p40 : (2 : Nat) ^ 40 = 1099511627776 := by decide
    unfold IndexFT.l0
    by_cases h : i < s.length
    · have hx : ix s (i : Int) = some s[i] := by unfold ix; rw [if_pos (by omega)]; simp [h]
      rw [if_pos (by simp only [decide_eq_true_eq]; omega), hx, Option.bind_some, C _ (List.getElem_mem h), Option.bind_some, List.drop_eq_getElem_cons h, List.any_cons]
      cases g s[i] with
      | true => exact ⟨_, rfl, .inr ⟨⟨i, rfl⟩, rfl⟩⟩
      | false =>
        obtain ⟨o, h1, h2⟩ := indexT (m := m) hs C f (i + 1) (by omega) (by omega)
        rw [if_neg (by simp), i64_id (by omega) (by omega), show (i : Int) + 1 = ((i + 1 : Nat) : Int) by omega, h1]
        exact ⟨o, rfl, by simpa using h2⟩
    · refine ⟨_, by rw [if_neg (by simp only [decide_eq_true_eq]; omega)], .inl ⟨⟨_, rfl⟩, ?_⟩⟩
      rw [List.drop_eq_nil_of_le (by omega)]; rfl
theorem containsT {m : Nat} {s : List VTree} {f0 : VTree → Option Bool} {g : VTree → Bool} (hs : s.length < 2 ^ 40) (hm : s.length < m) (C : ∀ x ∈ s, f0 x = some (g x)) : ContainsFT.f m s f0 = some (s.any g) := by
  obtain ⟨o, h1, h2⟩ := indexT (m := m) hs C m 0 (by omega) (by omega)
  have h1 : IndexFT.l0 m s f0 m 0 = _ := h1
  unfold ContainsFT.f IndexFT.f
  rw [h1, Option.bind_some]
  rw [List.drop_zero] at h2
  rcases h2 with ⟨⟨x, rfl⟩, k⟩ | ⟨⟨x, rfl⟩, k⟩
  · rw [k]; rfl
  · rw [k]
    simp only [Option.bind_some, Option.some.injEq]
    simp
def nodeB (n : VNode) (size : Int) : Bool :=
  if n.kind = 0 then decide (0 ≤ n.int) && n.label.data.toList == [] && n.args.isEmpty
  else if n.kind = 1 then decide (-1099511627776 ≤ n.int) && decide (n.int ≤ 1099511627776) && n.label.data.toList == [] && n.args.isEmpty
  else if n.kind = 2 then n.int == 0 && atomB n.label && n.args.isEmpty
  else if n.kind = 3 then n.int == 0 && atomB n.label && decide (1 ≤ n.args.length) && decide (n.args.length ≤ 8) && n.args.all fun a => decide (0 ≤ a) && decide (a < size)
  else if n.kind = 4 then decide (0 ≤ n.int) && nameB n.label && n.args.isEmpty
  else false
theorem len0 (l : List Int) : ((l.length : Int) == (0 : Int)) = l.isEmpty := by cases l <;> simp; omega
theorem node_spec {m : Nat} (hm : 20 ≤ m) (n : VNode) (size : Int) : tree_node.f m n size = some (nodeB n size) := by
  unfold tree_node.f nodeB
  by_cases k0 : n.kind = 0
  · rw [if_pos (by simpa using k0), if_pos k0]
    by_cases h1 : 0 ≤ n.int
    · rw [if_pos (by simpa using h1), show decide (0 ≤ n.int) = true by simpa using h1]
      show (if (n.label.data.toList == []) = true then _ else _) = _
      cases n.label.data.toList == [] with
      | true => rw [if_pos rfl, len0]; rfl
      | false => rfl
    · rw [if_neg (by simpa using h1), show decide (0 ≤ n.int) = false by simp; omega]; rfl
  rw [if_neg (by simpa using k0), if_neg k0]
  by_cases k1 : n.kind = 1
  · rw [if_pos (by simpa using k1), if_pos k1]
    by_cases h1 : -1099511627776 ≤ n.int
    · rw [if_pos (by simpa using h1), show decide (-1099511627776 ≤ n.int) = true by simpa using h1]
      by_cases h3 : n.int ≤ 1099511627776
      · rw [if_pos (by simpa using h3), show decide (n.int ≤ 1099511627776) = true by simpa using h3]
        show (if (n.label.data.toList == []) = true then _ else _) = _
        cases n.label.data.toList == [] with
        | true => rw [if_pos rfl, len0]; rfl
        | false => rfl
      · rw [if_neg (by simpa using h3), show decide (n.int ≤ 1099511627776) = false by simp; omega]; rfl
    · rw [if_neg (by simpa using h1), show decide (-1099511627776 ≤ n.int) = false by simp; omega]; rfl
  rw [if_neg (by simpa using k1), if_neg k1]
  by_cases k2 : n.kind = 2
  · rw [if_pos (by simpa using k2), if_pos k2]
    cases h1 : n.int == 0 with
    | false => rfl
    | true =>
      rw [if_pos rfl, atom_spec hm, Option.bind_some]
      cases atomB n.label with
      | false => rfl
      | true => rw [if_pos rfl, len0]; rfl
  rw [if_neg (by simpa using k2), if_neg k2]
  by_cases k3 : n.kind = 3
  · rw [if_pos (by simpa using k3), if_pos k3]
    cases h1 : n.int == 0 with
    | false => rfl
    | true =>
      rw [if_pos rfl, atom_spec hm, Option.bind_some]
      cases atomB n.label with
      | false => rfl
      | true =>
        rw [if_pos rfl]
        by_cases g1 : 1 ≤ n.args.length
        · rw [if_pos (by simp only [decide_eq_true_eq]; omega), show decide (1 ≤ n.args.length) = true by simpa using g1]
          by_cases g2 : n.args.length ≤ 8
          · rw [if_pos (by simp only [decide_eq_true_eq]; omega), show decide (n.args.length ≤ 8) = true by simpa using g2]
            rw [containsI (g := fun a => !(decide (0 ≤ a) && decide (a < size))) (by omega) (by omega) (fun a _ => by
              unfold tree_node_1.f
              by_cases w : a < 0
              · rw [if_pos (by simpa using w), show decide (0 ≤ a) = false by simp; omega]; rfl
              · rw [if_neg (by simpa using w), show decide (0 ≤ a) = true by simp; omega]
                by_cases w2 : a < size
                · rw [show decide (a ≥ size) = false from decide_eq_false (by omega), show decide (a < size) = true from decide_eq_true w2]; rfl
                · rw [show decide (a ≥ size) = true from decide_eq_true (by omega), show decide (a < size) = false from decide_eq_false w2]; rfl), Option.bind_some]
            simp [List.not_any_eq_all_not]
          · rw [if_neg (by simp only [decide_eq_true_eq]; omega), show decide (n.args.length ≤ 8) = false from decide_eq_false g2]; rfl
        · rw [if_neg (by simp only [decide_eq_true_eq]; omega), show decide (1 ≤ n.args.length) = false from decide_eq_false g1]; rfl
  rw [if_neg (by simpa using k3), if_neg k3]
  by_cases k4 : n.kind = 4
  · rw [if_pos (by simpa using k4), if_pos k4]
    by_cases h1 : 0 ≤ n.int
    · rw [if_pos (by simpa using h1), show decide (0 ≤ n.int) = true by simpa using h1, name_spec, Option.bind_some]
      cases nameB n.label with
      | false => rfl
      | true => rw [if_pos rfl, len0]; rfl
    · rw [if_neg (by simpa using h1), show decide (0 ≤ n.int) = false by simp; omega]; rfl
  rw [if_neg (by simpa using k4), if_neg k4]
end Go.Proofs.YtmekcfdllhphlaaDoor

namespace Go.Proofs.YtmekcfdllhphlaaDoor
open Go Go.R
open Go.IntKind (i64 u64 u8 u32)
def ann119 : Ann := { keep := [0, 1, 2, 3, 8, 9, 14, 34], locs := [], dead := [(0, [9, 14, 34]), (1, [9, 34]), (2, [9, 14, 34]), (3, [14, 34]), (4, [14]), (5, [14, 34]), (6, [14, 34])], frz := [], frz2 := [] }
noncomputable def g119R0 := sub [0] (codeOf Tryd.f119)
noncomputable def g119L0 := sub [1, 0, 0] (codeOf Tryd.f119)
noncomputable def g119R1 := sub [1, 0, 0, 0, 0] (codeOf Tryd.f119)
noncomputable def g119R3 := sub [1, 0, 0, 1, 0, 0, 0] (codeOf Tryd.f119)
noncomputable def g119L1 := sub [1, 0, 0, 1, 0, 0, 1, 0, 0] (codeOf Tryd.f119)
noncomputable def g119R4 := sub [1, 0, 0, 1, 0, 0, 1, 0, 0, 0, 0] (codeOf Tryd.f119)
noncomputable def g119R6 := sub [1, 0, 0, 1, 0, 0, 1, 0, 0, 1, 0, 0] (codeOf Tryd.f119)
noncomputable def g119R5 := sub [1, 0, 0, 1, 0, 0, 1, 0, 0, 1, 1] (codeOf Tryd.f119)
noncomputable def g119R2 := sub [1, 0, 0, 1, 1] (codeOf Tryd.f119)
theorem g119L1_eq : g119L1 = (.seq (.seq g119R4 (.cond (.tmp 34) .skip (.exit 2))) (.seq (.block 3 g119R6) g119R5)) := by kernel_rfl
theorem g119L0_eq : g119L0 = (.seq (.seq g119R1 (.cond (.tmp 14) .skip (.exit 0))) (.seq (.block 1 (.seq g119R3 (.block 2 (.loop g119L1)))) g119R2)) := by kernel_rfl
theorem g119_eq : codeOf Tryd.f119 = (.seq g119R0 (.block 0 (.loop g119L0))) := by kernel_rfl
def insertionSortC.l1 (m : Nat) (a0 : Int) (cmp0 : Int → Int → Option (Int)) : Nat → (List Int) → Int → Option ((List Int) × Int)
  | 0, _, _ => none
  | k + 1, data2, j0 => if (decide (j0 > a0)) = true then ((ix data2 j0).bind fun v0 => (ix data2 (i64.wrap (j0 - (1 : Int)))).bind fun v1 => (cmp0 v0 v1).bind fun r0 => if (decide (r0 < (0 : Int))) = true then ((ix data2 (i64.wrap (j0 - (1 : Int)))).bind fun v2 => (ix data2 j0).bind fun v3 => (ix data2 j0).bind fun v4 => (ix (data2.set j0.toNat v2) (i64.wrap (j0 - (1 : Int)))).bind fun v5 => insertionSortC.l1 m a0 cmp0 k ((data2.set j0.toNat v2).set (i64.wrap (j0 - (1 : Int))).toNat v3) (i64.wrap (j0 - (1 : Int)))) else (some ((data2, j0)))) else (some ((data2, j0)))
def insertionSortC.l0 (m : Nat) (a0 : Int) (b0 : Int) (cmp0 : Int → Int → Option (Int)) : Nat → (List Int) → Int → Option ((List Int) × Int)
  | 0, _, _ => none
  | k + 1, data1, i0 => if (decide (i0 < b0)) = true then ((insertionSortC.l1 m a0 cmp0 m data1 i0).bind fun out0 => match out0 with | (data3, j1) => insertionSortC.l0 m a0 b0 cmp0 k data3 (i64.wrap (i0 + (1 : Int)))) else (some ((data1, i0)))
def insertionSortC.f (m : Nat) (data0 : List Int) (a0 : Int) (b0 : Int) (cmp0 : Int → Int → Option (Int)) : Option ((List Int)) := (insertionSortC.l0 m a0 b0 cmp0 m data0 (i64.wrap (a0 + (1 : Int)))).bind fun out1 => match out1 with | (data4, i1) => some data4
def insertionSortC.fin (L : Mem) (ad0 : Nat) (data0 : List Int) (a0 : Int) (b0 : Int) (cmp0 : Int → Int → Option (Int)) (r : (List Int)) (s : St) : Prop := resultA Tryd.prog (s.open ann119) Tryd.f119.results.toList = some (.tup []) ∧ Has s.h ((ad0, .sl data0.length 1 (eInt.l r)) :: L)
def S119 (cf : CallF) (m : Nat) : Prop := ∀ (data0 : List Int) (a0 : Int) (b0 : Int) (cmp0 : Int → Int → Option (Int)) (r : (List Int)), insertionSortC.f m data0 a0 b0 cmp0 = some r → ∀ h L (n_data0 : Nat) (ad0 : Nat), Has h ((ad0, .sl n_data0 1 (eInt.l data0)) :: L) → ∀ (g3_ : FuncId) (cap3_ : List AV), canonArg (.fn g3_ cap3_) = .fn g3_ cap3_ → (∀ h K, Has h (K ++ L) → ∀ (a0 : Int) (a1 : Int) r, cmp0 a0 a1 = some r → cf g3_ ([.int .i64 a0, .int .i64 a1] ++ cap3_) h = some (.int .i64 r, h)) → ∀ xs, xs.map canonArg = [.rs ad0 0 n_data0 1, .int .i64 a0, .int .i64 b0, .fn g3_ cap3_] → ∃ h', cf 119 xs h = some (.tup [], h') ∧ Has h' ((ad0, .sl n_data0 1 (eInt.l r)) :: L)
section
variable {cf : CallF} {m : Nat}
def insertionSortC.l1.R (L : Mem) (ad0 : Nat) (g3_ : FuncId) (cap3_ : List AV) (data0 : List Int) (a0 : Int) (b0 : Int) (cmp0 : Int → Int → Option (Int)) (i0 : Int) (σ : (List Int) × Int) (s : St) : Prop :=
  match σ with
  | (data2, j0) => ∃ (g2 : AV) (g3 : AV) (h1 : AHeap), s = ⟨[.rs ad0 0 data0.length 1, .int .i64 a0, .int .i64 b0, .fn g3_ cap3_, .int .i64 i0, .int .i64 j0, g2, g3], [], h1⟩ ∧ Has h1 ((ad0, .sl data0.length 1 (eInt.l data2)) :: L)
def insertionSortC.l1.Q (L : Mem) (ad0 : Nat) (g3_ : FuncId) (cap3_ : List AV) (data0 : List Int) (a0 : Int) (b0 : Int) (cmp0 : Int → Int → Option (Int)) (i0 : Int) (out : (List Int) × Int) (e : Ex) (s : St) : Prop :=
  (e = .exit 2 ∧ ∃ (data2 : List Int) (j0 : Int), (data2, j0) = out ∧ ∃ (x9_ : AV) (x14_ : AV) (x34_ : AV) (h1 : AHeap), s = ⟨[.rs ad0 0 data0.length 1, .int .i64 a0, .int .i64 b0, .fn g3_ cap3_, .int .i64 i0, x9_, x14_, x34_], [], h1⟩ ∧ Has h1 ((ad0, .sl data0.length 1 (eInt.l data2)) :: L))
theorem insertionSortC.l1_ok (L : Mem) (ad0 : Nat) (g3_ : FuncId) (cap3_ : List AV) (data0 : List Int) (a0 : Int) (b0 : Int) (cmp0 : Int → Int → Option (Int)) (i0 : Int)  (hc3_ : canonArg (.fn g3_ cap3_) = .fn g3_ cap3_) (Hp3_ : ∀ h K, Has h (K ++ L) → ∀ (a0 : Int) (a1 : Int) r, cmp0 a0 a1 = some r → cf g3_ ([.int .i64 a0, .int .i64 a1] ++ cap3_) h = some (.int .i64 r, h))  {σ : (List Int) × Int} {s : St} {out : (List Int) × Int} (hr : insertionSortC.l1.R L ad0 g3_ cap3_ data0 a0 b0 cmp0 i0 σ s) (H : (fun k σ => insertionSortC.l1 m a0 cmp0 k σ.1 σ.2) m σ = some out) : Enz Tryd.prog cf ann119 m (.loop g119L1) s (insertionSortC.l1.Q L ad0 g3_ cap3_ data0 a0 b0 cmp0 i0 out) := by
  refine ends_loop (fun k σ => insertionSortC.l1 m a0 cmp0 k σ.1 σ.2) (insertionSortC.l1.R L ad0 g3_ cap3_ data0 a0 b0 cmp0 i0) (insertionSortC.l1.Q L ad0 g3_ cap3_ data0 a0 b0 cmp0 i0) (fun _ => rfl) ?_ hr H (fun _ _ _ h => h)
  clear hr H σ s out
  rintro k ⟨data2, j0⟩ s out ⟨g2, g3, h1, rfl, o1⟩ H
  have H : insertionSortC.l1 m a0 cmp0 (k + 1) data2 j0 = some out := H
  refine ends_of_eq g119L1_eq ?_
  refine ends_seq ?_
  refine ends_seq ?_
  rcases bft (decide (j0 > a0)) with c1 | c1
  · have H := ifp c1 H
    obtain ⟨v0, e0, H⟩ := bsi H
    obtain ⟨v1, e1, H⟩ := bsi H
    obtain ⟨r0, e2, H⟩ := bsi H
    refine er [] [(3, .bool true, none), (7, .ptr ad0 (0 + j0.toNat * 1), none), (8, .int .i64 v0, none), (12, .ptr ad0 (0 + (i64.wrap (j0 - (1 : Int))).toNat * 1), none), (13, .int .i64 v1, none), (14, .int .i64 r0, some h1)] ⟨[.rs ad0 0 data0.length 1, .int .i64 a0, .int .i64 b0, .fn g3_ cap3_, .int .i64 i0, .int .i64 j0, .any, .bool (decide (r0 < (0 : Int)))], [], h1⟩ ((True) ∧ AV.bool (decide (j0 > a0)) = AV.bool true ∧ indexAddrA Tryd.prog 42 (.rs ad0 0 data0.length 1) (.int .i64 j0) = some (.ptr ad0 (0 + j0.toNat * 1)) ∧ loadH Tryd.prog h1 3 (.ptr ad0 (0 + j0.toNat * 1)) = some (.int .i64 v0) ∧ indexAddrA Tryd.prog 42 (.rs ad0 0 data0.length 1) (.int .i64 (i64.wrap (j0 - (1 : Int)))) = some (.ptr ad0 (0 + (i64.wrap (j0 - (1 : Int))).toNat * 1)) ∧ loadH Tryd.prog h1 3 (.ptr ad0 (0 + (i64.wrap (j0 - (1 : Int))).toNat * 1)) = some (.int .i64 v1) ∧ callO cf (.fn g3_ cap3_) [.int .i64 v0, .int .i64 v1] h1 = some (.int .i64 r0, h1) ∧ True) (by kernel_rfl) ⟨trivial, ⟨congrArg AV.bool c1, ia_ownL (E := eInt) (l := data2) (q := 0) T42 o1 rfl e0, ld_own0 (E := eInt) (l := data2) (q := 0) o1 rfl A3 e0 rfl, ia_ownL (E := eInt) (l := data2) (q := 0) T42 o1 rfl e1, ld_own0 (E := eInt) (l := data2) (q := 0) o1 rfl A3 e1 rfl, callO_of (by kernel_rfl) (Hp3_ h1 [(ad0, .sl data0.length 1 (eInt.l data2))] o1 _ _ _ e2), trivial⟩⟩ ?_
    refine ends_cond (decide (r0 < (0 : Int))) (by kernel_rfl) (fun c2 => ?_) (fun c2 => ?_)
    · have H := ifp c2 H
      refine ends_skip ?_
      refine ends_seq ?_
      refine ends_block ?_
      obtain ⟨v2, e3, H⟩ := bsi H
      obtain ⟨v3, e4, H⟩ := bsi H
      obtain ⟨v4, e5, H⟩ := bsi H
      obtain ⟨h2, e6, o2⟩ := st_own (P := Tryd.prog) (tf := 3) (E := eInt) (l := data2) (q := 0) (v := v2) (x := .int .i64 v2) o1 rfl Z3 e5 rfl rfl
      obtain ⟨v5, e7, H⟩ := bsi H
      obtain ⟨h3, e8, o3⟩ := st_own (P := Tryd.prog) (tf := 3) (E := eInt) (l := (data2.set j0.toNat v2)) (q := 0) (v := v3) (x := .int .i64 v3) o2 rfl Z3 e7 rfl rfl
      refine er [] [(8, .ptr ad0 (0 + (i64.wrap (j0 - (1 : Int))).toNat * 1), none), (9, .int .i64 v2, none), (12, .ptr ad0 (0 + j0.toNat * 1), none), (13, .int .i64 v3, none), (14, .ptr ad0 (0 + j0.toNat * 1), none), (15, .any, some h2), (16, .ptr ad0 (0 + (i64.wrap (j0 - (1 : Int))).toNat * 1), none), (17, .any, some h3)] ⟨[.rs ad0 0 data0.length 1, .int .i64 a0, .int .i64 b0, .fn g3_ cap3_, .int .i64 i0, .int .i64 j0, .any, .any], [], h3⟩ ((True) ∧ indexAddrA Tryd.prog 42 (.rs ad0 0 data0.length 1) (.int .i64 (i64.wrap (j0 - (1 : Int)))) = some (.ptr ad0 (0 + (i64.wrap (j0 - (1 : Int))).toNat * 1)) ∧ loadH Tryd.prog h1 3 (.ptr ad0 (0 + (i64.wrap (j0 - (1 : Int))).toNat * 1)) = some (.int .i64 v2) ∧ indexAddrA Tryd.prog 42 (.rs ad0 0 data0.length 1) (.int .i64 j0) = some (.ptr ad0 (0 + j0.toNat * 1)) ∧ loadH Tryd.prog h1 3 (.ptr ad0 (0 + j0.toNat * 1)) = some (.int .i64 v3) ∧ indexAddrA Tryd.prog 42 (.rs ad0 0 data0.length 1) (.int .i64 j0) = some (.ptr ad0 (0 + j0.toNat * 1)) ∧ storeH Tryd.prog h1 3 (.ptr ad0 (0 + j0.toNat * 1)) (.int .i64 v2) = some h2 ∧ indexAddrA Tryd.prog 42 (.rs ad0 0 data0.length 1) (.int .i64 (i64.wrap (j0 - (1 : Int)))) = some (.ptr ad0 (0 + (i64.wrap (j0 - (1 : Int))).toNat * 1)) ∧ storeH Tryd.prog h2 3 (.ptr ad0 (0 + (i64.wrap (j0 - (1 : Int))).toNat * 1)) (.int .i64 v3) = some h3 ∧ True) (by kernel_rfl) ⟨trivial, ⟨ia_ownL (E := eInt) (l := data2) (q := 0) T42 o1 rfl e3, ld_own0 (E := eInt) (l := data2) (q := 0) o1 rfl A3 e3 rfl, ia_ownL (E := eInt) (l := data2) (q := 0) T42 o1 rfl e4, ld_own0 (E := eInt) (l := data2) (q := 0) o1 rfl A3 e4 rfl, ia_ownL (E := eInt) (l := data2) (q := 0) T42 o1 rfl e5, e6, ia_ownL (E := eInt) (l := (data2.set j0.toNat v2)) (q := 0) T42 o2 rfl e7, e8, trivial⟩⟩ ?_
      refine er [] [] ⟨[.rs ad0 0 data0.length 1, .int .i64 a0, .int .i64 b0, .fn g3_ cap3_, .int .i64 i0, .int .i64 (i64.wrap (j0 - (1 : Int))), .any, .any], [], h3⟩ ((True) ∧ True) (by kernel_rfl) ⟨trivial, trivial⟩ ?_
      exact ⟨((data2.set j0.toNat v2).set (i64.wrap (j0 - (1 : Int))).toNat v3, i64.wrap (j0 - (1 : Int))), ⟨.any, .any, h3, rfl, o3⟩, H⟩
    · have H := ifn c2 H
      refine ends_exit ?_
      have H := Option.some.inj H
      exact ⟨rfl, data2, j0, H, .int .i64 j0, .any, .bool (decide (r0 < (0 : Int))), h1, rfl, o1⟩
  · have H := ifn c1 H
    refine er [] [(3, .bool false, none)] ⟨[.rs ad0 0 data0.length 1, .int .i64 a0, .int .i64 b0, .fn g3_ cap3_, .int .i64 i0, .int .i64 j0, .any, .bool false], [], h1⟩ ((True) ∧ AV.bool (decide (j0 > a0)) = AV.bool false ∧ True) (by kernel_rfl) ⟨trivial, ⟨congrArg AV.bool c1, trivial⟩⟩ ?_
    refine ends_cond false (by kernel_rfl) (fun c3 => ?_) (fun c3 => ?_)
    · cases c3
    refine ends_exit ?_
    have H := Option.some.inj H
    exact ⟨rfl, data2, j0, H, .int .i64 j0, .any, .bool false, h1, rfl, o1⟩
def insertionSortC.l0.R (L : Mem) (ad0 : Nat) (g3_ : FuncId) (cap3_ : List AV) (data0 : List Int) (a0 : Int) (b0 : Int) (cmp0 : Int → Int → Option (Int)) (σ : (List Int) × Int) (s : St) : Prop :=
  match σ with
  | (data1, i0) => ∃ (g0 : AV) (g1 : AV) (h0 : AHeap), s = ⟨[.rs ad0 0 data0.length 1, .int .i64 a0, .int .i64 b0, .fn g3_ cap3_, .int .i64 i0, .any, g0, g1], [], h0⟩ ∧ Has h0 ((ad0, .sl data0.length 1 (eInt.l data1)) :: L)
def insertionSortC.l0.Q (L : Mem) (ad0 : Nat) (g3_ : FuncId) (cap3_ : List AV) (data0 : List Int) (a0 : Int) (b0 : Int) (cmp0 : Int → Int → Option (Int)) (out : (List Int) × Int) (e : Ex) (s : St) : Prop :=
  (e = .exit 0 ∧ ∃ (data1 : List Int) (i0 : Int), (data1, i0) = out ∧ ∃ (x0_ : AV) (x1_ : AV) (x2_ : AV) (x3_ : AV) (x8_ : AV) (x14_ : AV) (x34_ : AV) (h0 : AHeap), s = ⟨[x0_, x1_, x2_, x3_, x8_, .any, x14_, x34_], [], h0⟩ ∧ Has h0 ((ad0, .sl data0.length 1 (eInt.l data1)) :: L))
theorem insertionSortC.l0_ok (L : Mem) (ad0 : Nat) (g3_ : FuncId) (cap3_ : List AV) (data0 : List Int) (a0 : Int) (b0 : Int) (cmp0 : Int → Int → Option (Int))  (hc3_ : canonArg (.fn g3_ cap3_) = .fn g3_ cap3_) (Hp3_ : ∀ h K, Has h (K ++ L) → ∀ (a0 : Int) (a1 : Int) r, cmp0 a0 a1 = some r → cf g3_ ([.int .i64 a0, .int .i64 a1] ++ cap3_) h = some (.int .i64 r, h))  {σ : (List Int) × Int} {s : St} {out : (List Int) × Int} (hr : insertionSortC.l0.R L ad0 g3_ cap3_ data0 a0 b0 cmp0 σ s) (H : (fun k σ => insertionSortC.l0 m a0 b0 cmp0 k σ.1 σ.2) m σ = some out) : Enz Tryd.prog cf ann119 m (.loop g119L0) s (insertionSortC.l0.Q L ad0 g3_ cap3_ data0 a0 b0 cmp0 out) := by
  refine ends_loop (fun k σ => insertionSortC.l0 m a0 b0 cmp0 k σ.1 σ.2) (insertionSortC.l0.R L ad0 g3_ cap3_ data0 a0 b0 cmp0) (insertionSortC.l0.Q L ad0 g3_ cap3_ data0 a0 b0 cmp0) (fun _ => rfl) ?_ hr H (fun _ _ _ h => h)
  clear hr H σ s out
  rintro k ⟨data1, i0⟩ s out ⟨g0, g1, h0, rfl, o0⟩ H
  have H : insertionSortC.l0 m a0 b0 cmp0 (k + 1) data1 i0 = some out := H
  refine ends_of_eq g119L0_eq ?_
  refine ends_seq ?_
  refine sr [] [] ⟨[.rs ad0 0 data0.length 1, .int .i64 a0, .int .i64 b0, .fn g3_ cap3_, .int .i64 i0, .any, .bool (decide (i0 < b0)), .any], [], h0⟩ ((True) ∧ True) (by kernel_rfl) ⟨trivial, trivial⟩ ?_
  refine ends_cond (decide (i0 < b0)) (by kernel_rfl) (fun c0 => ?_) (fun c0 => ?_)
  · have H := ifp c0 H
    refine ends_skip ?_
    refine ends_seq ?_
    refine ends_block ?_
    refine sr [] [] ⟨[.rs ad0 0 data0.length 1, .int .i64 a0, .int .i64 b0, .fn g3_ cap3_, .int .i64 i0, .int .i64 i0, .any, .any], [], h0⟩ ((True) ∧ True) (by kernel_rfl) ⟨trivial, trivial⟩ ?_
    refine ends_block ?_
    obtain ⟨out0, e9, H⟩ := bsi H
    refine ends_mono (insertionSortC.l1_ok L ad0 g3_ cap3_ data0 a0 b0 cmp0 i0  hc3_ Hp3_  (σ := (data1, i0)) ⟨.any, .any, h0, rfl, o0⟩ e9) ?_
    rintro e s ⟨rfl, data3, j1, rfl, g4, g5, g6, h4, rfl, o4⟩
    try dsimp only at H
    refine er [] [] ⟨.rs ad0 0 data0.length 1 :: .int .i64 a0 :: .int .i64 b0 :: .fn g3_ cap3_ :: .int .i64 (i64.wrap (i0 + (1 : Int))) :: Ay3 [], [], h4⟩ ((True) ∧ True) (by kernel_rfl) ⟨trivial, trivial⟩ ?_
    exact ⟨(data3, i64.wrap (i0 + (1 : Int))), ⟨.any, .any, h4, rfl, o4⟩, H⟩
  · have H := ifn c0 H
    refine ends_exit ?_
    have H := Option.some.inj H
    exact ⟨rfl, data1, i0, H, .rs ad0 0 data0.length 1, .int .i64 a0, .int .i64 b0, .fn g3_ cap3_, .int .i64 i0, .bool (decide (i0 < b0)), .any, h0, rfl, o0⟩
theorem insertionSortC_body {ann : FuncId → Ann} (ha : ann 119 = ann119)  (data0 : List Int) (a0 : Int) (b0 : Int) (cmp0 : Int → Int → Option (Int)) (h : AHeap) (L : Mem) (ad0 : Nat) (g3_ : FuncId) (cap3_ : List AV)  (hc3_ : canonArg (.fn g3_ cap3_) = .fn g3_ cap3_) (Hp3_ : ∀ h K, Has h (K ++ L) → ∀ (a0 : Int) (a1 : Int) r, cmp0 a0 a1 = some r → cf g3_ ([.int .i64 a0, .int .i64 a1] ++ cap3_) h = some (.int .i64 r, h)) (o : Has h ((ad0, .sl data0.length 1 (eInt.l data0)) :: L)) {out : (List Int)} (H : insertionSortC.f m data0 a0 b0 cmp0 = some out) :
    ∃ r h', bodyA Tryd.prog ann cf m 119 [.rs ad0 0 data0.length 1, .int .i64 a0, .int .i64 b0, .fn g3_ cap3_] h = some (r, h') ∧ r = .tup [] ∧ Has h' ((ad0, .sl data0.length 1 (eInt.l out)) :: L) := by
  refine body_of_ends2 (fn := Tryd.f119) ha Tryd.func119 (by kernel_rfl) (by kernel_rfl) ?_
  refine ends_fin (Q := fun s => insertionSortC.fin L ad0 data0 a0 b0 cmp0 out s) (fun _ _ ⟨h1, h2, h3⟩ => ⟨h1, _, h2, rfl, h3⟩) ?_
  refine ends_of_eq g119_eq ?_
  have H : _ = some out := H
  unfold insertionSortC.f at H
  show Enz _ cf ann119 m _ ⟨.rs ad0 0 data0.length 1 :: .int .i64 a0 :: .int .i64 b0 :: .fn g3_ cap3_ :: Ay4 [], [], h⟩ _
  refine sr [] [] ⟨.rs ad0 0 data0.length 1 :: .int .i64 a0 :: .int .i64 b0 :: .fn g3_ cap3_ :: .int .i64 (i64.wrap (a0 + (1 : Int))) :: Ay3 [], [], h⟩ ((True) ∧ True) (by kernel_rfl) ⟨trivial, trivial⟩ ?_
  refine ends_block ?_
  obtain ⟨out1, e10, H⟩ := bsi H
  refine ends_mono (insertionSortC.l0_ok L ad0 g3_ cap3_ data0 a0 b0 cmp0  hc3_ Hp3_  (σ := (data0, i64.wrap (a0 + (1 : Int)))) ⟨.any, .any, h, rfl, o⟩ e10) ?_
  rintro e s ⟨rfl, data4, i1, rfl, g7, g8, g9, g10, g11, g12, g13, h5, rfl, o5⟩
  try dsimp only at H
  have H := Option.some.inj H
  subst H
  exact ⟨.inr rfl, ⟨by kernel_rfl, o5⟩⟩
end
end Go.Proofs.YtmekcfdllhphlaaDoor

namespace Go.Proofs.YtmekcfdllhphlaaDoor
open Go Go.R
open Go.IntKind (i64 u64 u8 u32)
structure Mv (lo hi : Nat) (l d : List Int) : Prop where
  perm : d.Perm l
  out : ∀ k, k < lo ∨ hi ≤ k → gt d k = gt l k
  im : ∀ k, lo ≤ k → k < hi → ∃ k', lo ≤ k' ∧ k' < hi ∧ gt d k = gt l k'
theorem Mv.refl {lo hi : Nat} {l : List Int} : Mv lo hi l l := ⟨List.Perm.refl _, fun _ _ => rfl, fun k h1 h2 => ⟨k, h1, h2, rfl⟩⟩
theorem Mv.trans {lo hi : Nat} {l d e : List Int} (a : Mv lo hi l d) (b : Mv lo hi d e) : Mv lo hi l e :=
  ⟨b.perm.trans a.perm, fun k hk => (b.out k hk).trans (a.out k hk), fun k h1 h2 => by
    obtain ⟨k', g1, g2, g3⟩ := b.im k h1 h2
    obtain ⟨k'', g4, g5, g6⟩ := a.im k' g1 g2
    exact ⟨k'', g4, g5, g3.trans g6⟩⟩
theorem Mv.length {lo hi : Nat} {l d : List Int} (a : Mv lo hi l d) : d.length = l.length := a.perm.length_eq
theorem Mv.wide {lo hi lo' hi' : Nat} {l d : List Int} (a : Mv lo hi l d) (h1 : lo' ≤ lo) (h2 : hi ≤ hi') : Mv lo' hi' l d :=
  ⟨a.perm, fun k hk => a.out k (by omega), fun k h3 h4 => by
    by_cases h : lo ≤ k ∧ k < hi
    · obtain ⟨k', g1, g2, g3⟩ := a.im k h.1 h.2
      exact ⟨k', by omega, by omega, g3⟩
    · exact ⟨k, h3, h4, a.out k (by omega)⟩⟩
theorem mv_swp {lo hi i j : Nat} {l : List Int} (hi1 : lo ≤ i) (hi2 : i < hi) (hj1 : lo ≤ j) (hj2 : j < hi) (h : hi ≤ l.length) : Mv lo hi l (swp l i j) :=
  ⟨swp_perm (by omega) (by omega), fun k hk => by rw [gt_swp (by omega) (by omega), if_neg (by omega), if_neg (by omega)], fun k h1 h2 => by
    rw [gt_swp (by omega) (by omega)]
    split
    · exact ⟨i, hi1, hi2, rfl⟩
    split
    · exact ⟨j, hj1, hj2, rfl⟩
    · exact ⟨k, h1, h2, rfl⟩⟩
def Cm (cmp : Int → Int → Option Int) (c : Int → Int → Int) (l : List Int) : Prop := ∀ x ∈ l, ∀ y ∈ l, cmp x y = some (c x y)
theorem Cm.perm {cmp c l d} (h : Cm cmp c l) (p : List.Perm d l) : Cm cmp c d := fun x hx y hy => h x (p.mem_iff.1 hx) y (p.mem_iff.1 hy)
theorem Cm.at {cmp c} {l : List Int} (h : Cm cmp c l) {i j : Nat} (hi : i < l.length) (hj : j < l.length) : cmp (gt l i) (gt l j) = some (c (gt l i) (gt l j)) := h _ (gt_mem hi) _ (gt_mem hj)
structure Ord (c : Int → Int → Int) (l : List Int) : Prop where
  tr : ∀ x ∈ l, ∀ y ∈ l, ∀ z ∈ l, 0 ≤ c y x → 0 ≤ c z y → 0 ≤ c z x
  asy : ∀ x ∈ l, ∀ y ∈ l, c x y < 0 → 0 ≤ c y x
theorem Ord.perm {c l d} (h : Ord c l) (p : List.Perm d l) : Ord c d := ⟨fun x hx y hy z hz => h.tr x (p.mem_iff.1 hx) y (p.mem_iff.1 hy) z (p.mem_iff.1 hz), fun x hx y hy => h.asy x (p.mem_iff.1 hx) y (p.mem_iff.1 hy)⟩
def Sg (c : Int → Int → Int) (l : List Int) (a b : Nat) : Prop := ∀ i j, a ≤ i → i < j → j < b → 0 ≤ c (gt l j) (gt l i)
theorem ins_l1 {m : Nat} {a i : Nat} {cmp : Int → Int → Option Int} {c : Int → Int → Int} : ∀ (f j : Nat) (d : List Int), j - a < f → a ≤ j → j ≤ i → i < d.length → d.length < 2 ^ 40 → Cm cmp c d →
    ∃ d' x, insertionSortC.l1 m (a : Int) cmp f d (j : Int) = some (d', x) ∧ Mv a (i + 1) d d' ∧
      (Ord c d → (∀ x y, a ≤ x → x < y → y ≤ i → x ≠ j → y ≠ j → 0 ≤ c (gt d y) (gt d x)) → (∀ y, j < y → y ≤ i → 0 ≤ c (gt d y) (gt d j)) → Sg c d' a (i + 1))
  | 0, j, d, hf, _, _, _, _, _ => absurd hf (by omega)
  | f + 1, j, d, hf, h1, h2, h3, hs, C => by
    have p40 : (2 : Nat) ^ 40 = 1099511627776 := by decide
    unfold insertionSortC.l1
    by_cases h : a < j
    · have e1 : i64.wrap ((j : Int) - 1) = ((j - 1 : Nat) : Int) := by rw [i64_id (by omega) (by omega)]; omega
      rw [if_pos (by simp; omega), e1, ix_gt (by omega), ix_gt (by omega), Option.bind_some, Option.bind_some, C.at (by omega) (by omega), Option.bind_some]
      by_cases hc : c (gt d j) (gt d (j - 1)) < 0
      · rw [if_pos (by simpa using hc), Option.bind_some, Option.bind_some, Option.bind_some, Int.toNat_natCast, Int.toNat_natCast, ix_gt (by simp; omega), Option.bind_some]
        obtain ⟨d', x, k1, k2, k3⟩ := ins_l1 (m := m) (a := a) (i := i) (cmp := cmp) (c := c) f (j - 1) (swp d j (j - 1)) (by omega) (by omega) (by omega) (by rw [swp_length]; omega) (by rw [swp_length]; omega) (C.perm (swp_perm (by omega) (by omega)))
        refine ⟨d', x, k1, (mv_swp (by omega) (by omega) (by omega) (by omega) (by omega)).trans k2, fun O g1 g2 => k3 (O.perm (swp_perm (by omega) (by omega))) (fun x y x1 x2 x3 x4 x5 => ?_) (fun y y1 y2 => ?_)⟩
        · rw [gt_swp (by omega) (by omega), gt_swp (by omega) (by omega), if_neg x5, if_neg x4]
          by_cases hy : y = j
          · subst hy
            rw [if_pos rfl, if_neg (by omega)]
            exact g1 _ _ (by omega) (by omega) (by omega) (by omega) (by omega)
          · rw [if_neg hy]
            by_cases hx : x = j
            · subst hx
              rw [if_pos rfl]
              exact g1 _ _ (by omega) (by omega) (by omega) (by omega) (by omega)
            · rw [if_neg hx]
              exact g1 _ _ (by omega) (by omega) (by omega) (by omega) (by omega)
        · rw [gt_swp (by omega) (by omega), gt_swp (by omega) (by omega), if_neg (by omega), if_pos rfl]
          by_cases hy : y = j
          · subst hy
            rw [if_pos rfl]
            exact O.asy _ (gt_mem (by omega)) _ (gt_mem (by omega)) hc
          · rw [if_neg hy]
            exact g2 _ (by omega) (by omega)
      · rw [if_neg (by simpa using hc)]
        refine ⟨d, j, rfl, Mv.refl, fun O g1 g2 x y x1 x2 x3 => ?_⟩
        have hc : 0 ≤ c (gt d j) (gt d (j - 1)) := by omega
        by_cases hx : x = j
        · subst hx; exact g2 _ x2 (by omega)
        · by_cases hy : y = j
          · subst hy
            by_cases hx1 : x = y - 1
            · subst hx1; exact hc
            · exact O.tr _ (gt_mem (by omega)) (gt d (y - 1)) (gt_mem (by omega)) _ (gt_mem (by omega)) (g1 _ _ x1 (by omega) (by omega) hx (by omega)) hc
          · exact g1 _ _ x1 x2 (by omega) hx hy
    · have : j = a := by omega
      subst this
      rw [if_neg (by simp)]
      refine ⟨d, j, rfl, Mv.refl, fun O g1 g2 x y x1 x2 x3 => ?_⟩
      by_cases hx : x = j
      · subst hx; exact g2 _ x2 (by omega)
      · exact g1 _ _ x1 x2 (by omega) hx (by omega)
theorem ins_l0 {m : Nat} {a b : Nat} {cmp : Int → Int → Option Int} {c : Int → Int → Int} (hm : 2 ^ 41 ≤ m) : ∀ (f i : Nat) (d : List Int), b - i < f → a < i → b ≤ d.length → d.length < 2 ^ 40 → Cm cmp c d →
    ∃ d' x, insertionSortC.l0 m (a : Int) (b : Int) cmp f d (i : Int) = some (d', x) ∧ Mv a b d d' ∧ (Ord c d → Sg c d a i → Sg c d' a b)
  | 0, i, d, hf, _, _, _, _ => absurd hf (by omega)
  | f + 1, i, d, hf, h1, h2, hs, C => by
    have p40 : (2 : Nat) ^ 40 = 1099511627776 := by decide
    have p41 : (2 : Nat) ^ 41 = 2199023255552 := by decide
    unfold insertionSortC.l0
    by_cases h : i < b
    · obtain ⟨d1, x1, k1, k2, k3⟩ := ins_l1 (m := m) (a := a) (i := i) (cmp := cmp) (c := c) m i d (by omega) (by omega) (by omega) (by omega) hs C
      have e3 : i64.wrap ((i : Int) + 1) = ((i + 1 : Nat) : Int) := by rw [i64_id (by omega) (by omega)]; omega
      rw [if_pos (by simp; omega), k1, Option.bind_some]
      dsimp only
      rw [e3]
      have hl := k2.length
      obtain ⟨d', x, g1, g2, g3⟩ := ins_l0 (a := a) (b := b) (cmp := cmp) (c := c) hm f (i + 1) d1 (by omega) (by omega) (by omega) (by omega) (C.perm k2.perm)
      exact ⟨d', x, g1, (k2.wide (Nat.le_refl _) (by omega)).trans g2, fun O S => g3 (O.perm k2.perm) (k3 O (fun x y q1 q2 q3 q4 q5 => S x y q1 q2 (by omega)) (fun y q1 q2 => absurd q1 (by omega)))⟩
    · exact ⟨d, i, by rw [if_neg (by simp; omega)], Mv.refl, fun O S x y q1 q2 q3 => S x y q1 q2 (by omega)⟩
theorem ins_spec {m : Nat} {a b : Nat} {cmp : Int → Int → Option Int} {c : Int → Int → Int} (hm : 2 ^ 41 ≤ m) {l : List Int} (ha : a ≤ l.length) (hb : b ≤ l.length) (hs : l.length < 2 ^ 40) (C : Cm cmp c l) :
    ∃ d, insertionSortC.f m l (a : Int) (b : Int) cmp = some d ∧ Mv a b l d ∧ (Ord c l → Sg c d a b) := by
  have p40 : (2 : Nat) ^ 40 = 1099511627776 := by decide
  have p41 : (2 : Nat) ^ 41 = 2199023255552 := by decide
  have e3 : i64.wrap ((a : Int) + 1) = ((a + 1 : Nat) : Int) := by rw [i64_id (by omega) (by omega)]; omega
  obtain ⟨d', x, g1, g2, g3⟩ := ins_l0 (a := a) (b := b) (cmp := cmp) (c := c) hm m (a + 1) l (by omega) (by omega) hb hs C
  exact ⟨d', by unfold insertionSortC.f; rw [e3, g1]; rfl, g2, fun O => g3 O fun x y q1 q2 q3 => absurd q3 (by omega)⟩
end Go.Proofs.YtmekcfdllhphlaaDoor

