/- A part of the proof of StoreNone. -/
import Derived.Test.YtifafejidnjckaaGreatSnH
set_option linter.unusedVariables false
set_option linter.unusedSimpArgs false
namespace Go.Proofs.YtifafejidnjckaaGreat
open Go Go.R
set_option maxRecDepth 100000
set_option maxHeartbeats 2000000
section
variable (k a b r : Int) (l : ByteArray) (csA csT : List AV) (nA nT m : Nat) (f : Nat → Int)
theorem e5ff0 : fin (ex rest (s2 (X 3 a b r l (.fz ((List.range 0).map fun i => .int .i64 (f i)) 0 false) (.fz csT nT false)))) = some (.bool true) := by kernel_rfl
theorem e5ff1 : fin (ex rest (s2 (X 3 a b r l (.fz ((List.range 1).map fun i => .int .i64 (f i)) 1 false) (.fz csT nT false)))) = some (.bool true) := by kernel_rfl
theorem e5ff2 : fin (ex rest (s2 (X 3 a b r l (.fz ((List.range 2).map fun i => .int .i64 (f i)) 2 false) (.fz csT nT false)))) = some (.bool true) := by kernel_rfl
theorem e5ff3 : fin (ex rest (s2 (X 3 a b r l (.fz ((List.range 3).map fun i => .int .i64 (f i)) 3 false) (.fz csT nT false)))) = some (.bool true) := by kernel_rfl
theorem e5ff4 : fin (ex rest (s2 (X 3 a b r l (.fz ((List.range 4).map fun i => .int .i64 (f i)) 4 false) (.fz csT nT false)))) = some (.bool true) := by kernel_rfl
theorem e5ff5 : fin (ex rest (s2 (X 3 a b r l (.fz ((List.range 5).map fun i => .int .i64 (f i)) 5 false) (.fz csT nT false)))) = some (.bool true) := by kernel_rfl
theorem e5ff6 : fin (ex rest (s2 (X 3 a b r l (.fz ((List.range 6).map fun i => .int .i64 (f i)) 6 false) (.fz csT nT false)))) = some (.bool true) := by kernel_rfl
theorem e5ff7 : fin (ex rest (s2 (X 3 a b r l (.fz ((List.range 7).map fun i => .int .i64 (f i)) 7 false) (.fz csT nT false)))) = some (.bool true) := by kernel_rfl
theorem e5ff8 : fin (ex rest (s2 (X 3 a b r l (.fz ((List.range 8).map fun i => .int .i64 (f i)) 8 false) (.fz csT nT false)))) = some (.bool true) := by kernel_rfl
theorem e5ff9 : fin (ex rest (s2 (X 3 a b r l (.fz ((List.range 9).map fun i => .int .i64 (f i)) 9 false) (.fz csT nT false)))) = some (.bool true) := by kernel_rfl
theorem e5ff10 : fin (ex rest (s2 (X 3 a b r l (.fz ((List.range 10).map fun i => .int .i64 (f i)) 10 false) (.fz csT nT false)))) = some (.bool true) := by kernel_rfl
theorem e5ff11 : fin (ex rest (s2 (X 3 a b r l (.fz ((List.range 11).map fun i => .int .i64 (f i)) 11 false) (.fz csT nT false)))) = some (.bool true) := by kernel_rfl
theorem e5ff12 : fin (ex rest (s2 (X 3 a b r l (.fz ((List.range 12).map fun i => .int .i64 (f i)) 12 false) (.fz csT nT false)))) = some (.bool true) := by kernel_rfl
theorem e5ff13 : fin (ex rest (s2 (X 3 a b r l (.fz ((List.range 13).map fun i => .int .i64 (f i)) 13 false) (.fz csT nT false)))) = some (.bool true) := by kernel_rfl
theorem e5ff14 : fin (ex rest (s2 (X 3 a b r l (.fz ((List.range 14).map fun i => .int .i64 (f i)) 14 false) (.fz csT nT false)))) = some (.bool true) := by kernel_rfl
theorem e5ff15 : fin (ex rest (s2 (X 3 a b r l (.fz ((List.range 15).map fun i => .int .i64 (f i)) 15 false) (.fz csT nT false)))) = some (.bool true) := by kernel_rfl
theorem e5ff16 : fin (ex rest (s2 (X 3 a b r l (.fz ((List.range 16).map fun i => .int .i64 (f i)) 16 false) (.fz csT nT false)))) = some (.bool true) := by kernel_rfl
theorem e5ff17 : fin (ex rest (s2 (X 3 a b r l (.fz ((List.range 17).map fun i => .int .i64 (f i)) 17 false) (.fz csT nT false)))) = some (.bool true) := by kernel_rfl
theorem e5ff18 : fin (ex rest (s2 (X 3 a b r l (.fz ((List.range 18).map fun i => .int .i64 (f i)) 18 false) (.fz csT nT false)))) = some (.bool true) := by kernel_rfl
theorem e5ff19 : fin (ex rest (s2 (X 3 a b r l (.fz ((List.range 19).map fun i => .int .i64 (f i)) 19 false) (.fz csT nT false)))) = some (.bool true) := by kernel_rfl
theorem e5ff20 : fin (ex rest (s2 (X 3 a b r l (.fz ((List.range 20).map fun i => .int .i64 (f i)) 20 false) (.fz csT nT false)))) = some (.bool true) := by kernel_rfl
theorem e5ff21 : fin (ex rest (s2 (X 3 a b r l (.fz ((List.range 21).map fun i => .int .i64 (f i)) 21 false) (.fz csT nT false)))) = some (.bool true) := by kernel_rfl
theorem e5ff22 : fin (ex rest (s2 (X 3 a b r l (.fz ((List.range 22).map fun i => .int .i64 (f i)) 22 false) (.fz csT nT false)))) = some (.bool true) := by kernel_rfl
theorem e5ff23 : fin (ex rest (s2 (X 3 a b r l (.fz ((List.range 23).map fun i => .int .i64 (f i)) 23 false) (.fz csT nT false)))) = some (.bool true) := by kernel_rfl
theorem e5ff24 : fin (ex rest (s2 (X 3 a b r l (.fz ((List.range 24).map fun i => .int .i64 (f i)) 24 false) (.fz csT nT false)))) = some (.bool true) := by kernel_rfl
theorem e5ff25 : fin (ex rest (s2 (X 3 a b r l (.fz ((List.range 25).map fun i => .int .i64 (f i)) 25 false) (.fz csT nT false)))) = some (.bool true) := by kernel_rfl
theorem e5ff26 : fin (ex rest (s2 (X 3 a b r l (.fz ((List.range 26).map fun i => .int .i64 (f i)) 26 false) (.fz csT nT false)))) = some (.bool true) := by kernel_rfl
theorem e5ff27 : fin (ex rest (s2 (X 3 a b r l (.fz ((List.range 27).map fun i => .int .i64 (f i)) 27 false) (.fz csT nT false)))) = some (.bool true) := by kernel_rfl
theorem e5ff28 : fin (ex rest (s2 (X 3 a b r l (.fz ((List.range 28).map fun i => .int .i64 (f i)) 28 false) (.fz csT nT false)))) = some (.bool true) := by kernel_rfl
theorem e5ff29 : fin (ex rest (s2 (X 3 a b r l (.fz ((List.range 29).map fun i => .int .i64 (f i)) 29 false) (.fz csT nT false)))) = some (.bool true) := by kernel_rfl
theorem e5ff30 : fin (ex rest (s2 (X 3 a b r l (.fz ((List.range 30).map fun i => .int .i64 (f i)) 30 false) (.fz csT nT false)))) = some (.bool true) := by kernel_rfl
theorem e5ff31 : fin (ex rest (s2 (X 3 a b r l (.fz ((List.range 31).map fun i => .int .i64 (f i)) 31 false) (.fz csT nT false)))) = some (.bool true) := by kernel_rfl
theorem e5ff32 : fin (ex rest (s2 (X 3 a b r l (.fz ((List.range 32).map fun i => .int .i64 (f i)) 32 false) (.fz csT nT false)))) = some (.bool true) := by kernel_rfl
theorem e5ff33 : fin (ex rest (s2 (X 3 a b r l (.fz ((List.range 33).map fun i => .int .i64 (f i)) 33 false) (.fz csT nT false)))) = some (.bool true) := by kernel_rfl
theorem e5ff34 : fin (ex rest (s2 (X 3 a b r l (.fz ((List.range 34).map fun i => .int .i64 (f i)) 34 false) (.fz csT nT false)))) = some (.bool true) := by kernel_rfl
theorem e5ff35 : fin (ex rest (s2 (X 3 a b r l (.fz ((List.range 35).map fun i => .int .i64 (f i)) 35 false) (.fz csT nT false)))) = some (.bool true) := by kernel_rfl
theorem e5ff36 : fin (ex rest (s2 (X 3 a b r l (.fz ((List.range 36).map fun i => .int .i64 (f i)) 36 false) (.fz csT nT false)))) = some (.bool true) := by kernel_rfl
theorem e5ff37 : fin (ex rest (s2 (X 3 a b r l (.fz ((List.range 37).map fun i => .int .i64 (f i)) 37 false) (.fz csT nT false)))) = some (.bool true) := by kernel_rfl
theorem e5ff38 : fin (ex rest (s2 (X 3 a b r l (.fz ((List.range 38).map fun i => .int .i64 (f i)) 38 false) (.fz csT nT false)))) = some (.bool true) := by kernel_rfl
theorem e5ff39 : fin (ex rest (s2 (X 3 a b r l (.fz ((List.range 39).map fun i => .int .i64 (f i)) 39 false) (.fz csT nT false)))) = some (.bool true) := by kernel_rfl
theorem e5ff40 : fin (ex rest (s2 (X 3 a b r l (.fz ((List.range 40).map fun i => .int .i64 (f i)) 40 false) (.fz csT nT false)))) = some (.bool true) := by kernel_rfl
theorem e5ff : ∀ n : Nat, n ≤ 40 → fin (ex rest (s2 (X 3 a b r l (.fz ((List.range n).map fun i => .int .i64 (f i)) n false) (.fz csT nT false)))) = some (.bool true)
  | 0, _ => e5ff0 a b r l csT nT f
  | 1, _ => e5ff1 a b r l csT nT f
  | 2, _ => e5ff2 a b r l csT nT f
  | 3, _ => e5ff3 a b r l csT nT f
  | 4, _ => e5ff4 a b r l csT nT f
  | 5, _ => e5ff5 a b r l csT nT f
  | 6, _ => e5ff6 a b r l csT nT f
  | 7, _ => e5ff7 a b r l csT nT f
  | 8, _ => e5ff8 a b r l csT nT f
  | 9, _ => e5ff9 a b r l csT nT f
  | 10, _ => e5ff10 a b r l csT nT f
  | 11, _ => e5ff11 a b r l csT nT f
  | 12, _ => e5ff12 a b r l csT nT f
  | 13, _ => e5ff13 a b r l csT nT f
  | 14, _ => e5ff14 a b r l csT nT f
  | 15, _ => e5ff15 a b r l csT nT f
  | 16, _ => e5ff16 a b r l csT nT f
  | 17, _ => e5ff17 a b r l csT nT f
  | 18, _ => e5ff18 a b r l csT nT f
  | 19, _ => e5ff19 a b r l csT nT f
  | 20, _ => e5ff20 a b r l csT nT f
  | 21, _ => e5ff21 a b r l csT nT f
  | 22, _ => e5ff22 a b r l csT nT f
  | 23, _ => e5ff23 a b r l csT nT f
  | 24, _ => e5ff24 a b r l csT nT f
  | 25, _ => e5ff25 a b r l csT nT f
  | 26, _ => e5ff26 a b r l csT nT f
  | 27, _ => e5ff27 a b r l csT nT f
  | 28, _ => e5ff28 a b r l csT nT f
  | 29, _ => e5ff29 a b r l csT nT f
  | 30, _ => e5ff30 a b r l csT nT f
  | 31, _ => e5ff31 a b r l csT nT f
  | 32, _ => e5ff32 a b r l csT nT f
  | 33, _ => e5ff33 a b r l csT nT f
  | 34, _ => e5ff34 a b r l csT nT f
  | 35, _ => e5ff35 a b r l csT nT f
  | 36, _ => e5ff36 a b r l csT nT f
  | 37, _ => e5ff37 a b r l csT nT f
  | 38, _ => e5ff38 a b r l csT nT f
  | 39, _ => e5ff39 a b r l csT nT f
  | 40, _ => e5ff40 a b r l csT nT f
  | n + 41, h => absurd h (by omega)
end
end Go.Proofs.YtifafejidnjckaaGreat
