/- A part of the proof of StoreNone. -/
import Derived.Test.YtifafejidnjckaaGreatSnH
set_option linter.unusedVariables false
set_option linter.unusedSimpArgs false
namespace Go.Proofs.YtifafejidnjckaaGreat
open Go Go.R
set_option maxRecDepth 100000
set_option maxHeartbeats 2000000
section
variable (k a b r : Int) (l : ByteArray) (csA csT : List AV) (nA nT m : Nat) (f : Nat → Int)
theorem e5fn0 : fin (ex rest (s2 (X 3 a b r l (.fz ((List.range 0).map fun i => .int .i64 (f i)) 0 false) .nils))) = some (.bool true) := by kernel_rfl
theorem e5fn1 : fin (ex rest (s2 (X 3 a b r l (.fz ((List.range 1).map fun i => .int .i64 (f i)) 1 false) .nils))) = some (.bool true) := by kernel_rfl
theorem e5fn2 : fin (ex rest (s2 (X 3 a b r l (.fz ((List.range 2).map fun i => .int .i64 (f i)) 2 false) .nils))) = some (.bool true) := by kernel_rfl
theorem e5fn3 : fin (ex rest (s2 (X 3 a b r l (.fz ((List.range 3).map fun i => .int .i64 (f i)) 3 false) .nils))) = some (.bool true) := by kernel_rfl
theorem e5fn4 : fin (ex rest (s2 (X 3 a b r l (.fz ((List.range 4).map fun i => .int .i64 (f i)) 4 false) .nils))) = some (.bool true) := by kernel_rfl
theorem e5fn5 : fin (ex rest (s2 (X 3 a b r l (.fz ((List.range 5).map fun i => .int .i64 (f i)) 5 false) .nils))) = some (.bool true) := by kernel_rfl
theorem e5fn6 : fin (ex rest (s2 (X 3 a b r l (.fz ((List.range 6).map fun i => .int .i64 (f i)) 6 false) .nils))) = some (.bool true) := by kernel_rfl
theorem e5fn7 : fin (ex rest (s2 (X 3 a b r l (.fz ((List.range 7).map fun i => .int .i64 (f i)) 7 false) .nils))) = some (.bool true) := by kernel_rfl
theorem e5fn8 : fin (ex rest (s2 (X 3 a b r l (.fz ((List.range 8).map fun i => .int .i64 (f i)) 8 false) .nils))) = some (.bool true) := by kernel_rfl
theorem e5fn9 : fin (ex rest (s2 (X 3 a b r l (.fz ((List.range 9).map fun i => .int .i64 (f i)) 9 false) .nils))) = some (.bool true) := by kernel_rfl
theorem e5fn10 : fin (ex rest (s2 (X 3 a b r l (.fz ((List.range 10).map fun i => .int .i64 (f i)) 10 false) .nils))) = some (.bool true) := by kernel_rfl
theorem e5fn11 : fin (ex rest (s2 (X 3 a b r l (.fz ((List.range 11).map fun i => .int .i64 (f i)) 11 false) .nils))) = some (.bool true) := by kernel_rfl
theorem e5fn12 : fin (ex rest (s2 (X 3 a b r l (.fz ((List.range 12).map fun i => .int .i64 (f i)) 12 false) .nils))) = some (.bool true) := by kernel_rfl
theorem e5fn13 : fin (ex rest (s2 (X 3 a b r l (.fz ((List.range 13).map fun i => .int .i64 (f i)) 13 false) .nils))) = some (.bool true) := by kernel_rfl
theorem e5fn14 : fin (ex rest (s2 (X 3 a b r l (.fz ((List.range 14).map fun i => .int .i64 (f i)) 14 false) .nils))) = some (.bool true) := by kernel_rfl
theorem e5fn15 : fin (ex rest (s2 (X 3 a b r l (.fz ((List.range 15).map fun i => .int .i64 (f i)) 15 false) .nils))) = some (.bool true) := by kernel_rfl
theorem e5fn16 : fin (ex rest (s2 (X 3 a b r l (.fz ((List.range 16).map fun i => .int .i64 (f i)) 16 false) .nils))) = some (.bool true) := by kernel_rfl
theorem e5fn17 : fin (ex rest (s2 (X 3 a b r l (.fz ((List.range 17).map fun i => .int .i64 (f i)) 17 false) .nils))) = some (.bool true) := by kernel_rfl
theorem e5fn18 : fin (ex rest (s2 (X 3 a b r l (.fz ((List.range 18).map fun i => .int .i64 (f i)) 18 false) .nils))) = some (.bool true) := by kernel_rfl
theorem e5fn19 : fin (ex rest (s2 (X 3 a b r l (.fz ((List.range 19).map fun i => .int .i64 (f i)) 19 false) .nils))) = some (.bool true) := by kernel_rfl
theorem e5fn20 : fin (ex rest (s2 (X 3 a b r l (.fz ((List.range 20).map fun i => .int .i64 (f i)) 20 false) .nils))) = some (.bool true) := by kernel_rfl
theorem e5fn21 : fin (ex rest (s2 (X 3 a b r l (.fz ((List.range 21).map fun i => .int .i64 (f i)) 21 false) .nils))) = some (.bool true) := by kernel_rfl
theorem e5fn22 : fin (ex rest (s2 (X 3 a b r l (.fz ((List.range 22).map fun i => .int .i64 (f i)) 22 false) .nils))) = some (.bool true) := by kernel_rfl
theorem e5fn23 : fin (ex rest (s2 (X 3 a b r l (.fz ((List.range 23).map fun i => .int .i64 (f i)) 23 false) .nils))) = some (.bool true) := by kernel_rfl
theorem e5fn24 : fin (ex rest (s2 (X 3 a b r l (.fz ((List.range 24).map fun i => .int .i64 (f i)) 24 false) .nils))) = some (.bool true) := by kernel_rfl
theorem e5fn25 : fin (ex rest (s2 (X 3 a b r l (.fz ((List.range 25).map fun i => .int .i64 (f i)) 25 false) .nils))) = some (.bool true) := by kernel_rfl
theorem e5fn26 : fin (ex rest (s2 (X 3 a b r l (.fz ((List.range 26).map fun i => .int .i64 (f i)) 26 false) .nils))) = some (.bool true) := by kernel_rfl
theorem e5fn27 : fin (ex rest (s2 (X 3 a b r l (.fz ((List.range 27).map fun i => .int .i64 (f i)) 27 false) .nils))) = some (.bool true) := by kernel_rfl
theorem e5fn28 : fin (ex rest (s2 (X 3 a b r l (.fz ((List.range 28).map fun i => .int .i64 (f i)) 28 false) .nils))) = some (.bool true) := by kernel_rfl
theorem e5fn29 : fin (ex rest (s2 (X 3 a b r l (.fz ((List.range 29).map fun i => .int .i64 (f i)) 29 false) .nils))) = some (.bool true) := by kernel_rfl
theorem e5fn30 : fin (ex rest (s2 (X 3 a b r l (.fz ((List.range 30).map fun i => .int .i64 (f i)) 30 false) .nils))) = some (.bool true) := by kernel_rfl
theorem e5fn31 : fin (ex rest (s2 (X 3 a b r l (.fz ((List.range 31).map fun i => .int .i64 (f i)) 31 false) .nils))) = some (.bool true) := by kernel_rfl
theorem e5fn32 : fin (ex rest (s2 (X 3 a b r l (.fz ((List.range 32).map fun i => .int .i64 (f i)) 32 false) .nils))) = some (.bool true) := by kernel_rfl
theorem e5fn33 : fin (ex rest (s2 (X 3 a b r l (.fz ((List.range 33).map fun i => .int .i64 (f i)) 33 false) .nils))) = some (.bool true) := by kernel_rfl
theorem e5fn34 : fin (ex rest (s2 (X 3 a b r l (.fz ((List.range 34).map fun i => .int .i64 (f i)) 34 false) .nils))) = some (.bool true) := by kernel_rfl
theorem e5fn35 : fin (ex rest (s2 (X 3 a b r l (.fz ((List.range 35).map fun i => .int .i64 (f i)) 35 false) .nils))) = some (.bool true) := by kernel_rfl
theorem e5fn36 : fin (ex rest (s2 (X 3 a b r l (.fz ((List.range 36).map fun i => .int .i64 (f i)) 36 false) .nils))) = some (.bool true) := by kernel_rfl
theorem e5fn37 : fin (ex rest (s2 (X 3 a b r l (.fz ((List.range 37).map fun i => .int .i64 (f i)) 37 false) .nils))) = some (.bool true) := by kernel_rfl
theorem e5fn38 : fin (ex rest (s2 (X 3 a b r l (.fz ((List.range 38).map fun i => .int .i64 (f i)) 38 false) .nils))) = some (.bool true) := by kernel_rfl
theorem e5fn39 : fin (ex rest (s2 (X 3 a b r l (.fz ((List.range 39).map fun i => .int .i64 (f i)) 39 false) .nils))) = some (.bool true) := by kernel_rfl
theorem e5fn40 : fin (ex rest (s2 (X 3 a b r l (.fz ((List.range 40).map fun i => .int .i64 (f i)) 40 false) .nils))) = some (.bool true) := by kernel_rfl
theorem e5fn : ∀ n : Nat, n ≤ 40 → fin (ex rest (s2 (X 3 a b r l (.fz ((List.range n).map fun i => .int .i64 (f i)) n false) .nils))) = some (.bool true)
  | 0, _ => e5fn0 a b r l f
  | 1, _ => e5fn1 a b r l f
  | 2, _ => e5fn2 a b r l f
  | 3, _ => e5fn3 a b r l f
  | 4, _ => e5fn4 a b r l f
  | 5, _ => e5fn5 a b r l f
  | 6, _ => e5fn6 a b r l f
  | 7, _ => e5fn7 a b r l f
  | 8, _ => e5fn8 a b r l f
  | 9, _ => e5fn9 a b r l f
  | 10, _ => e5fn10 a b r l f
  | 11, _ => e5fn11 a b r l f
  | 12, _ => e5fn12 a b r l f
  | 13, _ => e5fn13 a b r l f
  | 14, _ => e5fn14 a b r l f
  | 15, _ => e5fn15 a b r l f
  | 16, _ => e5fn16 a b r l f
  | 17, _ => e5fn17 a b r l f
  | 18, _ => e5fn18 a b r l f
  | 19, _ => e5fn19 a b r l f
  | 20, _ => e5fn20 a b r l f
  | 21, _ => e5fn21 a b r l f
  | 22, _ => e5fn22 a b r l f
  | 23, _ => e5fn23 a b r l f
  | 24, _ => e5fn24 a b r l f
  | 25, _ => e5fn25 a b r l f
  | 26, _ => e5fn26 a b r l f
  | 27, _ => e5fn27 a b r l f
  | 28, _ => e5fn28 a b r l f
  | 29, _ => e5fn29 a b r l f
  | 30, _ => e5fn30 a b r l f
  | 31, _ => e5fn31 a b r l f
  | 32, _ => e5fn32 a b r l f
  | 33, _ => e5fn33 a b r l f
  | 34, _ => e5fn34 a b r l f
  | 35, _ => e5fn35 a b r l f
  | 36, _ => e5fn36 a b r l f
  | 37, _ => e5fn37 a b r l f
  | 38, _ => e5fn38 a b r l f
  | 39, _ => e5fn39 a b r l f
  | 40, _ => e5fn40 a b r l f
  | n + 41, h => absurd h (by omega)
end
end Go.Proofs.YtifafejidnjckaaGreat
