/- A part of the proof of StoreNone. -/
import Derived.Test.YtifafejidnjckaaGreatSn2a
import Derived.Test.YtifafejidnjckaaGreatSn2c
import Derived.Test.YtifafejidnjckaaGreatSn2d
import Derived.Test.YtifafejidnjckaaGreatRows
set_option linter.unusedVariables false
set_option linter.unusedSimpArgs false
namespace Go.Proofs.YtifafejidnjckaaGreat
open Go Go.R
set_option maxRecDepth 100000

theorem flat_ints : ∀ els : List (List AV), (∀ el ∈ els, ∃ z : Int, el = [.int .i64 z]) → ∃ f : Nat → Int, els.flatten = (List.range els.length).map fun i => AV.int .i64 (f i)
  | [], _ => ⟨fun _ => 0, rfl⟩
  | el :: els, h => by
    obtain ⟨z, hz⟩ := h el (by simp)
    obtain ⟨f, hf⟩ := flat_ints els fun e he => h e (by simp [he])
    refine ⟨fun i => match i with | 0 => z | i + 1 => f i, ?_⟩
    subst hz
    rw [List.flatten_cons, hf, List.length_cons, List.range_succ_eq_map]
    simp [Function.comp_def]

theorem fit_ints {n : Nat} {xs : List AV} (h : Fits Tryz.prog (n + 2) 22 xs) : xs = [.nils] ∨ ∃ (m : Nat) (f : Nat → Int), xs = [.fz ((List.range m).map fun i => .int .i64 (f i)) m false] := by
  unfold Fits at h
  rw [Tryz.underlying22] at h
  rcases h with h | ⟨els, rfl, _, h⟩
  · exact .inl h
  · obtain ⟨f, hf⟩ := flat_ints els fun el he => by
      have := (h el he).2
      unfold Fits at this
      rw [Tryz.underlying3] at this
      obtain ⟨z, hz, _⟩ := this
      exact ⟨z, hz⟩
    exact .inr ⟨els.length, f, by rw [hf]⟩

theorem fit_int {n : Nat} {xs : List AV} (h : Fits Tryz.prog (n + 1) 3 xs) : ∃ z : Int, xs = [.int .i64 z] := by
  unfold Fits at h
  rw [Tryz.underlying3] at h
  obtain ⟨z, hz, _⟩ := h
  exact ⟨z, hz⟩

theorem fit_str {n : Nat} {xs : List AV} (h : Fits Tryz.prog (n + 1) 9 xs) : ∃ s : ByteArray, xs = [.str s] := by
  unfold Fits at h
  rw [Tryz.underlying9] at h
  obtain ⟨z, hz, _⟩ := h
  exact ⟨z, hz⟩

theorem fit_nodes {n : Nat} {xs : List AV} (h : Fits Tryz.prog (n + 1) 23 xs) : xs = [.nils] ∨ ∃ cs m, xs = [.fz cs m false] := by
  unfold Fits at h
  rw [Tryz.underlying23] at h
  rcases h with h | ⟨els, rfl, _, h⟩
  · exact .inl h
  · exact .inr ⟨_, _, rfl⟩

theorem fit_act {xs : List AV} (h : Fits Tryz.prog 6 27 xs) : ∃ k a b r l A T, xs = X k a b r l A T ∧ (A = .nils ∨ ∃ (m : Nat) (f : Nat → Int), A = .fz ((List.range m).map fun i => .int .i64 (f i)) m false) ∧ (T = .nils ∨ ∃ cs m, T = .fz cs m false) := by
  unfold Fits at h
  rw [Tryz.underlying27] at h
  simp only [FitsFs] at h
  obtain ⟨x1, y1, rfl, _, h1, x2, y2, rfl, _, h2, x3, y3, rfl, _, h3, x4, y4, rfl, _, h4, x5, y5, rfl, _, h5, x6, y6, rfl, _, h6, rfl⟩ := h
  obtain ⟨k, rfl⟩ := fit_int h1
  obtain ⟨a, rfl⟩ := fit_int h2
  obtain ⟨b, rfl⟩ := fit_int h3
  obtain ⟨l, rfl⟩ := fit_str h4
  unfold Fits at h6
  rw [Tryz.underlying25] at h6
  simp only [FitsFs] at h6
  obtain ⟨z1, w1, rfl, _, g1, z2, w2, rfl, _, g2, rfl⟩ := h6
  obtain ⟨r, rfl⟩ := fit_int g2
  rcases fit_ints h5 with rfl | ⟨m, f, rfl⟩ <;> rcases fit_nodes g1 with rfl | ⟨cs, mT, rfl⟩
  · exact ⟨k, a, b, r, l, _, _, rfl, .inl rfl, .inl rfl⟩
  · exact ⟨k, a, b, r, l, _, _, rfl, .inl rfl, .inr ⟨_, _, rfl⟩⟩
  · exact ⟨k, a, b, r, l, _, _, rfl, .inr ⟨_, _, rfl⟩, .inl rfl⟩
  · exact ⟨k, a, b, r, l, _, _, rfl, .inr ⟨_, _, rfl⟩, .inr ⟨_, _, rfl⟩⟩

theorem call_of_fin {x : List AV} (h : fin (ex (.seq r0 (.seq (.seq r1 c2) rest)) (s0 x)) = some (.bool true)) : ∃ h', callA Tryz.prog told2 10000 100 6 [.agg x] heap0 = some (.bool true, h') := by
  have hc : callA Tryz.prog told2 10000 100 6 [.agg x] heap0 = bodyA Tryz.prog annL cf99 10000 6 [.agg x] heap0 := rfl
  rw [hc]
  unfold bodyA
  rw [Tryz.func6, Option.bind_some, body6_eq, Option.bind_some, if_pos (by show 1 ≤ Tryz.f6.ntmps; decide)]
  unfold fin ex at h
  have hs : ({ vars := argsVars (annL 6).keep [.agg x], bxs := (annL 6).locs.map fun _ => none, h := heap0 } : St) = s0 x := rfl
  rw [hs]
  rw [Option.bind_eq_some_iff] at h
  obtain ⟨⟨e, s⟩, h1, h2⟩ := h
  rw [h1, Option.bind_some]
  cases e with
  | norm => exact ⟨s.h, by simp only at h2 ⊢; rw [h2]; rfl⟩
  | ret => exact ⟨s.h, by simp only at h2 ⊢; rw [h2]; rfl⟩
  | exit id => cases h2

/-- The code, part by part. -/
theorem parts {x : List AV} {g : Bool} (h0 : ex r0 (s0 x) = some (.norm, s1 x)) (h1 : ex r1 (s1 x) = some (.norm, s2 x)) (h2 : ex c2 (s2 x) = if g = true then ex (thn c2) (s2 x) else some (.norm, s2 x))
    (h3 : fin (ex (thn c2) (s2 x)) = some (.bool true)) (hr : ∀ st e, ex (thn c2) (s2 x) = some (e, st) → e = .ret) (h4 : g = false → fin (ex rest (s2 x)) = some (.bool true)) : fin (ex (.seq r0 (.seq (.seq r1 c2) rest)) (s0 x)) = some (.bool true) := by
  unfold ex at *
  rw [execA_seq, h0, Option.bind_some]
  simp only
  rw [execA_seq, execA_seq, h1, Option.bind_some]
  simp only
  rw [h2]
  cases g with
  | true =>
    simp only [if_true]
    cases hq : execA Tryz.prog cf99 (annL 6) 10000 (thn c2) (s2 x) with
    | none => rw [hq] at h3; cases h3
    | some p =>
      obtain ⟨e, st⟩ := p
      have := hr st e hq
      subst this
      rw [hq] at h3
      exact h3
  | false =>
    simp only [Bool.false_eq_true, if_false, Option.bind_some]
    exact h4 rfl
end Go.Proofs.YtifafejidnjckaaGreat
