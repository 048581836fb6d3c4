/- PickleLong: its run. -/
import Derived.Test.YtmekcfdllhphlaaDoorPl1
set_option linter.unusedVariables false
set_option linter.unusedSimpArgs false
namespace Go.Proofs.YtmekcfdllhphlaaDoor
open Go Go.R
set_option maxRecDepth 100000
noncomputable def g11R0 : Code := sub [0] (codeOf Tryd.f11)
noncomputable def g11R1 : Code := sub [1, 0] (codeOf Tryd.f11)
noncomputable def g11R2 : Code := sub [1, 1, 0] (codeOf Tryd.f11)
noncomputable def g11R3 : Code := sub [1, 1, 1, 0] (codeOf Tryd.f11)
noncomputable def g11R4 : Code := sub [1, 1, 1, 1, 0] (codeOf Tryd.f11)
noncomputable def g11R5 : Code := sub [1, 1, 1, 1, 1, 0] (codeOf Tryd.f11)
noncomputable def g11R6 : Code := sub [1, 1, 1, 1, 1, 1, 0] (codeOf Tryd.f11)
noncomputable def g11R7 : Code := sub [1, 1, 1, 1, 1, 1, 1, 0] (codeOf Tryd.f11)
noncomputable def g11T : Code := sub [1, 1, 1, 1, 1, 1, 1, 1] (codeOf Tryd.f11)
theorem g11_eq : codeOf Tryd.f11 = (.seq g11R0 (.seq g11R1 (.seq g11R2 (.seq g11R3 (.seq g11R4 (.seq g11R5 (.seq g11R6 (.seq g11R7 g11T)))))))) := by kernel_rfl
noncomputable def cfL : CallF := callA Tryd.prog toldL 300000 99
noncomputable def runL (c : Code) (s : St) : Option (Ex × St) := execA Tryd.prog cfL (annL 11) 300000 c s
noncomputable def nx (c : Code) (s : St) : St := ((runL c s).map (·.2)).getD s
noncomputable def l0 : St := { vars := argsVars (annL 11).keep [], bxs := (annL 11).locs.map fun _ => none, h := heap0 }
noncomputable def l1 : St := nx g11R0 l0
noncomputable def l2 : St := nx g11R1 l1
noncomputable def l3 : St := nx g11R2 l2
noncomputable def l4 : St := nx g11R3 l3
noncomputable def l5 : St := nx g11R4 l4
noncomputable def l6 : St := nx g11R5 l5
noncomputable def l7 : St := nx g11R6 l6
theorem x0 : runL g11R0 l0 = some (.norm, l1) := by kernel_rfl
theorem x1 : runL g11R1 l1 = some (.norm, l2) := by kernel_rfl
theorem x2 : runL g11R2 l2 = some (.norm, l3) := by kernel_rfl
theorem x3 : runL g11R3 l3 = some (.norm, l4) := by kernel_rfl
theorem x4 : runL g11R4 l4 = some (.norm, l5) := by kernel_rfl
theorem x5 : runL g11R5 l5 = some (.norm, l6) := by kernel_rfl
theorem x6 : runL g11R6 l6 = some (.norm, l7) := by kernel_rfl
theorem l3_vars : l3 = ⟨[.bool false, .rs 1 0 200001 1, .rs 2 0 200000 1, .any, .any, .any, .any, .any, .any, .any, .any, .any, .any], [], l3.h⟩ := by kernel_rfl
theorem l7_vars : l7 = ⟨[.bool false, .rs 1 0 200001 1, .rs 2 0 200000 1, .int .i64 3, .int .i64 3, .int .i64 3, .int .i64 2, .any, .any, .any, .any, .any, .any], [], l7.h⟩ := by kernel_rfl

theorem repl_one (x : AV) : ∀ n : Nat, replA [x] n = List.replicate n x
  | 0 => rfl
  | n + 1 => by
    show [x] ++ replA [x] n = _
    rw [repl_one x n, List.replicate_succ]; rfl
theorem l7_zero0 : l7.h.get 2 = some (.cells (replA [.int .u8 0] 200000)) := by kernel_rfl
theorem repl_zero : some (AObj.cells (replA [.int .u8 0] 200000)) = some (.cells (List.replicate 200000 z8)) := by rw [repl_one]; rfl
theorem l7_zero : l7.h.get 2 = some (.cells (List.replicate 200000 z8)) := l7_zero0.trans repl_zero
noncomputable def l8 : St := ⟨[.bool false, .rs 1 0 200001 1, .rs 2 0 200000 1, .int .i64 3, .int .i64 3, .int .i64 3, .int .i64 2, .int .i64 2, .any, .any, .any, .any, .any], [], l7.h⟩
theorem x7g (cf : CallF) (h : AHeap) (hz : cf 19 [.rs 2 0 200000 1] h = some (.tup [.nils, .int .i64 2], h)) : execA Tryd.prog cf (annL 11) 300000 g11R7 ⟨[.bool false, .rs 1 0 200001 1, .rs 2 0 200000 1, .int .i64 3, .int .i64 3, .int .i64 3, .int .i64 2, .any, .any, .any, .any, .any, .any], [], h⟩ =
    some (.norm, ⟨[.bool false, .rs 1 0 200001 1, .rs 2 0 200000 1, .int .i64 3, .int .i64 3, .int .i64 3, .int .i64 2, .int .i64 2, .any, .any, .any, .any, .any], [], h⟩) := by
  have ar : ∀ i o n z, AV.argOK (.rs i o n z) = true := fun _ _ _ _ => rfl
  have e1 : extractA (.tup [.nils, .int .i64 2]) 0 = some .nils := rfl
  have e2 : extractA (.tup [.nils, .int .i64 2]) 1 = some (.int .i64 2) := rfl
  simp [g11R7, sub, codeOf, Tryd.f11, annL, execA_region, hz, ar, e1, e2]
theorem cfL_eq : cfL = callA Tryd.prog toldL 300000 99 := rfl
theorem l7_get : cfL 19 [.rs 2 0 200000 1] l7.h = some (.tup [.nils, .int .i64 2], l7.h) := by
  rw [cfL_eq]
  exact get_zero l7_zero
theorem x7 : runL g11R7 l7 = some (.norm, l8) := (congrArg (runL g11R7) l7_vars).trans (x7g cfL l7.h l7_get)
noncomputable def finT (o : Option (Ex × St)) : Bool := match o with | some (.ret, s) => (match resultA Tryd.prog (s.open (annL 11)) Tryd.f11.results.toList with | some (.bool true) => true | _ => false) | _ => false
theorem x8 : finT (runL g11T l8) = true := by kernel_rfl
theorem long_run : ∃ h', callA Tryd.prog toldL 300000 100 11 [] heap0 = some (.bool true, h') := by
  have h8 := x8
  unfold finT at h8
  split at h8
  · rename_i s hs
    split at h8
    · rename_i hr
      have hall : execA Tryd.prog cfL (annL 11) 300000 (codeOf Tryd.f11) l0 = some (.ret, s) := by
        rw [g11_eq, seq_norm x0, seq_norm x1, seq_norm x2, seq_norm x3, seq_norm x4, seq_norm x5, seq_norm x6, seq_norm x7]
        exact hs
      have e : callA Tryd.prog toldL 300000 100 11 [] heap0 = bodyA Tryd.prog annL cfL 300000 11 [] heap0 := rfl
      rw [e]
      exact ⟨_, body_ret Tryd.func11 (by kernel_rfl) (by show 0 ≤ Tryd.f11.ntmps; decide) hall hr⟩
    · cases h8
  · cases h8
end Go.Proofs.YtmekcfdllhphlaaDoor
