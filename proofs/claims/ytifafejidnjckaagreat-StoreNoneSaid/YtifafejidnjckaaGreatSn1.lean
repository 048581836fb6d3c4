/- A part of the proof of StoreNone. -/
import Derived.Test.YtifafejidnjckaaGreatSnBase
set_option linter.unusedVariables false
set_option linter.unusedSimpArgs false
namespace Go.Proofs.YtifafejidnjckaaGreat
open Go Go.R
set_option maxRecDepth 100000
set_option maxHeartbeats 2000000
theorem great_ok (cf : CallF) (m : Nat) (h : AHeap) (k a b r : Int) (l : ByteArray) (A T : AV) (nA nT : Nat) (hA : A = .nils ∧ nA = 0 ∨ ∃ cs ex, A = .fz cs nA ex) (hT : T = .nils ∧ nT = 0 ∨ ∃ cs ex, T = .fz cs nT ex) :
    bodyA Tryz.prog annL cf (m + 2) 8 [.fz [.int .i64 k, .int .i64 a, .int .i64 b, .str l, A, T, .int .i64 r] 1 true] h = some (.bool (decide ((nT : Int) > 40) || decide ((nA : Int) > 40)), h) := by
  have s27 : szOf Tryz.prog 27 = some 7 := by kernel_rfl
  have s25 : szOf Tryz.prog 25 = some 2 := by kernel_rfl
  have s23 : szOf Tryz.prog 23 = some 1 := by kernel_rfl
  have s22 : szOf Tryz.prog 22 = some 1 := by kernel_rfl
  have a22 : isAggT Tryz.prog 22 = some false := by kernel_rfl
  have a23 : isAggT Tryz.prog 23 = some false := by kernel_rfl
  have hw : IntKind.i64.wrap 1 = 1 := by decide
  unfold bodyA
  rw [Tryz.func8]
  have hA' : ∀ h, lenA Tryz.prog h 22 A = some (.int .i64 nA) := by
    rcases hA with ⟨rfl, rfl⟩ | ⟨cs, ex, rfl⟩ <;> simp [lenA, Tryz.underlying22]
  have hT' : ∀ h, lenA Tryz.prog h 23 T = some (.int .i64 nT) := by
    rcases hT with ⟨rfl, rfl⟩ | ⟨cs, ex, rfl⟩ <;> simp [lenA, Tryz.underlying23]
  have h29 : ∀ h cs, lenA Tryz.prog h 29 (.fz cs 1 true) = some (.int .i64 1) := by
    intro h cs; simp [lenA, Tryz.underlying29]
  by_cases h1 : (nT : Int) > 40
  · have h1' : (40 : Int) < nT := h1
    simp [Tryz.f8, annL, argsVars, execA_seq, execA_block, execA_cond, execA_loop, execA_region, iterA_succ, indexAddrA, fieldAddrA, AV.shift, loadA, readCs, Tryz.underlying29, Tryz.underlying27, Tryz.underlying25, s27, s25, s23, s22, a22, a23, hA', hT', h29, hw, h1', resultA, resA, AV.argOK]
  · by_cases h2 : (nA : Int) > 40
    · have h1' : ¬ (40 : Int) < nT := h1
      have h2' : (40 : Int) < nA := h2
      simp [Tryz.f8, annL, argsVars, execA_seq, execA_block, execA_cond, execA_loop, execA_region, iterA_succ, indexAddrA, fieldAddrA, AV.shift, loadA, readCs, Tryz.underlying29, Tryz.underlying27, Tryz.underlying25, s27, s25, s23, s22, a22, a23, hA', hT', h29, hw, h1', h2', resultA, resA, AV.argOK]
    · have h1' : ¬ (40 : Int) < nT := h1
      have h2' : ¬ (40 : Int) < nA := h2
      simp [Tryz.f8, annL, argsVars, execA_seq, execA_block, execA_cond, execA_loop, execA_region, iterA_succ, indexAddrA, fieldAddrA, AV.shift, loadA, readCs, Tryz.underlying29, Tryz.underlying27, Tryz.underlying25, s27, s25, s23, s22, a22, a23, hA', hT', h29, hw, h1', h2', resultA, resA, AV.argOK]
end Go.Proofs.YtifafejidnjckaaGreat
