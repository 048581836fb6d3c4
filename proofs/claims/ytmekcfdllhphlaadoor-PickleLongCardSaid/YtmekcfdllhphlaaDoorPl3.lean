/- Proved: PickleLong returns true, over the card of its one listed variable; no condition. -/
import Derived.Test.YtmekcfdllhphlaaDoorPl2
import Derived.Test.YtmekcfdllhphlaaDoorPd7
set_option linter.unusedVariables false
set_option linter.unusedSimpArgs false
namespace Go.Proofs.YtmekcfdllhphlaaDoor
open Go Go.R Go.Proofs Go.RowKit Go.ChangeShapes Go.WideShapes
set_option maxRecDepth 100000

theorem long_true (avs : List AV) (h : ArgsFit Tryd.prog 6 Tryd.f11.params.toList avs) : ∃ cf h', CallOK Tryd.prog cf ∧ cf 11 avs heap0 = some (.bool true, h') := by
  rw [show Tryd.f11.params.toList = [] from by rw [Tryd.params11]] at h
  have : avs = [] := by
    cases avs with
    | nil => rfl
    | cons _ _ => exact h.elim
  subst this
  obtain ⟨h', h1⟩ := long_run
  exact ⟨_, h', callA_ok fits (T := toldL) intrL_ok 300000 100, h1⟩

theorem pickleLong_lifted (os : Os) (started : os.Started) (H : Type) (enc : TypeId × Value → H) :
    ReturnsInHanded {} Tryd.checked os 11 .any (fun w args => (Rows.pickleLongSpec.pre enc Tryd.prog Tryd.f11 [] false w args ∧ laidMetH Tryd.prog laidL w) ∧ sizedMet enc Tryd.prog Tryd.f11 (OpenSpec.ofChange Rows.pickleLongSpec) false w args)
      (Rows.pickleLongSpec.post enc Tryd.prog Tryd.f11 false true false false) := by
  refine returnsInHanded_of_change_and (C := Tryd.checked) (X := fun w _ => laidMetH Tryd.prog laidL w) (fun _ _ _ hh h => h.of_heap hh) own started (by kernel_rfl) Tryd.func11
    (ChangeSpec.witness_at (enc := enc) (C := Tryd.checked) (os := os) (X := fun w _ => laidMetH Tryd.prog laidL w) false (laidWorld os) #[] 8 (World.laidAll_os _ _ _) (by kernel_rfl) (by kernel_rfl) (by kernel_rfl) (by kernel_rfl) (by kernel_rfl) (laidWorld_met os _)) ?_
  intro W base args ds gs before hval hW _ _ hL _
  exact contract_true (cf := fun _ _ _ => none) (P := Tryd.prog) (m := 6) (tb := 4) (by kernel_rfl)
    (by rw [show Tryd.f11.params.toList = [] from by rw [Tryd.params11]]; intro t ht; cases ht)
    (by rw [show Tryd.f11.params.toList = [] from by rw [Tryd.params11]]; intro t ht; cases ht) rfl rfl Tryd.underlying4
    (fun ds hds => by
      have : ds.length = 0 := by rw [hds]; rfl
      match ds, this with
      | [], _ => rfl) long_true hval hW

/-- The row. -/
theorem pickleLong_row : Rows.PickleLongSaid :=
  OpenClaim.holds_of_wide 11 Tryd.f11 rfl rfl rfl rfl rfl rfl rfl ⟨rfl, rfl, rfl, rfl, rfl⟩ rfl rfl rfl rfl rfl (by kernel_rfl) Tryd.func11 (by kernel_rfl)
    (of_decide_eq_true (by kernel_rfl)) (by unfold Func.isWrapper; first | (rw [if_pos (by decide +kernel)]; kernel_rfl) | (rw [if_neg (by decide +kernel)]; exact ⟨rfl, rfl⟩))
    (fun os started H enc _ => pickleLong_lifted os started H enc)

/-- PickleLong: the tied card. -/
theorem pickleLong_holds : Rows.PickleLongCardSaid :=
  Claim7.holds_tied_plain_at .later [] [.sentinel] true (true, "5c7c24f3f163267658839de8cc9f4545a02ccfedb2900f3b8e61d73ca287aaae") false
    pickleLong_row (fun _ h => by cases h) (by kernel_rfl) (fun _ h => by cases h) pickleLong_row_tie rfl ⟨rfl, rfl⟩ (by kernel_rfl) rfl
    (fun f fn hf hfn => by
      obtain rfl : f = 11 := Option.some.inj ((show Tryd.prog.funcNamed "leatwork/leatworklaw20.PickleLong" = some 11 by kernel_rfl).symm.trans hf) |>.symm
      obtain rfl : fn = Tryd.f11 := (Option.some.inj (Tryd.func11.symm.trans hfn)).symm
      exact ⟨by kernel_rfl, fun j t ht => by
        rw [Tryd.params11] at ht
        simp at ht⟩)
    (by kernel_rfl)
end Go.Proofs.YtmekcfdllhphlaaDoor
