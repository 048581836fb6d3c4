/- A part of the proof of StoreNone. -/
import Derived.Test.YtifafejidnjckaaGreatSnH
set_option linter.unusedVariables false
set_option linter.unusedSimpArgs false
namespace Go.Proofs.YtifafejidnjckaaGreat
open Go Go.R
set_option maxRecDepth 100000
set_option maxHeartbeats 2000000
section
variable (k a b r : Int) (l : ByteArray) (csA csT : List AV) (nA nT m : Nat) (f : Nat → Int)
theorem e0ff : ex r0 (s0 (X k a b r l (.fz csA nA false) (.fz csT nT false))) = some (.norm, s1 (X k a b r l (.fz csA nA false) (.fz csT nT false))) := by kernel_rfl
theorem e1ff : ex r1 (s1 (X k a b r l (.fz csA nA false) (.fz csT nT false))) = some (.norm, s2 (X k a b r l (.fz csA nA false) (.fz csT nT false))) := by kernel_rfl
theorem e2ff : ex c2 (s2 (X k a b r l (.fz csA nA false) (.fz csT nT false))) = if G nA nT = true then ex (thn c2) (s2 (X k a b r l (.fz csA nA false) (.fz csT nT false))) else some (.norm, s2 (X k a b r l (.fz csA nA false) (.fz csT nT false))) := by kernel_rfl
theorem e3ff : fin (ex (thn c2) (s2 (X k a b r l (.fz csA nA false) (.fz csT nT false)))) = some (.bool true) := by kernel_rfl
theorem e4ff0 : fin (ex rest (s2 (X 0 a b r l (.fz csA nA false) (.fz csT nT false)))) = some (.bool true) := by kernel_rfl
theorem e4ff1 : fin (ex rest (s2 (X 1 a b r l (.fz csA nA false) (.fz csT nT false)))) = some (.bool true) := by kernel_rfl
theorem e4ff2 : fin (ex rest (s2 (X 2 a b r l (.fz csA nA false) (.fz csT nT false)))) = some (.bool true) := by kernel_rfl
theorem e4ff4 : fin (ex rest (s2 (X 4 a b r l (.fz csA nA false) (.fz csT nT false)))) = some (.bool true) := by kernel_rfl
theorem e4ff5 : fin (ex rest (s2 (X 5 a b r l (.fz csA nA false) (.fz csT nT false)))) = some (.bool true) := by kernel_rfl
theorem e4ff6 : fin (ex rest (s2 (X 6 a b r l (.fz csA nA false) (.fz csT nT false)))) = some (.bool true) := by kernel_rfl
theorem e4ff7 : fin (ex rest (s2 (X 7 a b r l (.fz csA nA false) (.fz csT nT false)))) = some (.bool true) := by kernel_rfl
theorem e4ff8 : fin (ex rest (s2 (X (Int.ofNat (m + 8)) a b r l (.fz csA nA false) (.fz csT nT false)))) = some (.bool true) := by kernel_rfl
theorem e4ff9 : fin (ex rest (s2 (X (Int.negSucc m) a b r l (.fz csA nA false) (.fz csT nT false)))) = some (.bool true) := by kernel_rfl
theorem e0fn : ex r0 (s0 (X k a b r l (.fz csA nA false) .nils)) = some (.norm, s1 (X k a b r l (.fz csA nA false) .nils)) := by kernel_rfl
theorem e1fn : ex r1 (s1 (X k a b r l (.fz csA nA false) .nils)) = some (.norm, s2 (X k a b r l (.fz csA nA false) .nils)) := by kernel_rfl
theorem e2fn : ex c2 (s2 (X k a b r l (.fz csA nA false) .nils)) = if G nA 0 = true then ex (thn c2) (s2 (X k a b r l (.fz csA nA false) .nils)) else some (.norm, s2 (X k a b r l (.fz csA nA false) .nils)) := by kernel_rfl
theorem e3fn : fin (ex (thn c2) (s2 (X k a b r l (.fz csA nA false) .nils))) = some (.bool true) := by kernel_rfl
theorem e4fn0 : fin (ex rest (s2 (X 0 a b r l (.fz csA nA false) .nils))) = some (.bool true) := by kernel_rfl
theorem e4fn1 : fin (ex rest (s2 (X 1 a b r l (.fz csA nA false) .nils))) = some (.bool true) := by kernel_rfl
theorem e4fn2 : fin (ex rest (s2 (X 2 a b r l (.fz csA nA false) .nils))) = some (.bool true) := by kernel_rfl
theorem e4fn4 : fin (ex rest (s2 (X 4 a b r l (.fz csA nA false) .nils))) = some (.bool true) := by kernel_rfl
theorem e4fn5 : fin (ex rest (s2 (X 5 a b r l (.fz csA nA false) .nils))) = some (.bool true) := by kernel_rfl
theorem e4fn6 : fin (ex rest (s2 (X 6 a b r l (.fz csA nA false) .nils))) = some (.bool true) := by kernel_rfl
theorem e4fn7 : fin (ex rest (s2 (X 7 a b r l (.fz csA nA false) .nils))) = some (.bool true) := by kernel_rfl
theorem e4fn8 : fin (ex rest (s2 (X (Int.ofNat (m + 8)) a b r l (.fz csA nA false) .nils))) = some (.bool true) := by kernel_rfl
theorem e4fn9 : fin (ex rest (s2 (X (Int.negSucc m) a b r l (.fz csA nA false) .nils))) = some (.bool true) := by kernel_rfl
theorem e0nf : ex r0 (s0 (X k a b r l .nils (.fz csT nT false))) = some (.norm, s1 (X k a b r l .nils (.fz csT nT false))) := by kernel_rfl
theorem e1nf : ex r1 (s1 (X k a b r l .nils (.fz csT nT false))) = some (.norm, s2 (X k a b r l .nils (.fz csT nT false))) := by kernel_rfl
theorem e2nf : ex c2 (s2 (X k a b r l .nils (.fz csT nT false))) = if G 0 nT = true then ex (thn c2) (s2 (X k a b r l .nils (.fz csT nT false))) else some (.norm, s2 (X k a b r l .nils (.fz csT nT false))) := by kernel_rfl
theorem e3nf : fin (ex (thn c2) (s2 (X k a b r l .nils (.fz csT nT false)))) = some (.bool true) := by kernel_rfl
theorem e4nf0 : fin (ex rest (s2 (X 0 a b r l .nils (.fz csT nT false)))) = some (.bool true) := by kernel_rfl
theorem e4nf1 : fin (ex rest (s2 (X 1 a b r l .nils (.fz csT nT false)))) = some (.bool true) := by kernel_rfl
theorem e4nf2 : fin (ex rest (s2 (X 2 a b r l .nils (.fz csT nT false)))) = some (.bool true) := by kernel_rfl
theorem e4nf4 : fin (ex rest (s2 (X 4 a b r l .nils (.fz csT nT false)))) = some (.bool true) := by kernel_rfl
theorem e4nf5 : fin (ex rest (s2 (X 5 a b r l .nils (.fz csT nT false)))) = some (.bool true) := by kernel_rfl
theorem e4nf6 : fin (ex rest (s2 (X 6 a b r l .nils (.fz csT nT false)))) = some (.bool true) := by kernel_rfl
theorem e4nf7 : fin (ex rest (s2 (X 7 a b r l .nils (.fz csT nT false)))) = some (.bool true) := by kernel_rfl
theorem e4nf8 : fin (ex rest (s2 (X (Int.ofNat (m + 8)) a b r l .nils (.fz csT nT false)))) = some (.bool true) := by kernel_rfl
theorem e4nf9 : fin (ex rest (s2 (X (Int.negSucc m) a b r l .nils (.fz csT nT false)))) = some (.bool true) := by kernel_rfl
theorem e4nf3 : fin (ex rest (s2 (X 3 a b r l .nils (.fz csT nT false)))) = some (.bool true) := by kernel_rfl
theorem e0nn : ex r0 (s0 (X k a b r l .nils .nils)) = some (.norm, s1 (X k a b r l .nils .nils)) := by kernel_rfl
theorem e1nn : ex r1 (s1 (X k a b r l .nils .nils)) = some (.norm, s2 (X k a b r l .nils .nils)) := by kernel_rfl
theorem e2nn : ex c2 (s2 (X k a b r l .nils .nils)) = if G 0 0 = true then ex (thn c2) (s2 (X k a b r l .nils .nils)) else some (.norm, s2 (X k a b r l .nils .nils)) := by kernel_rfl
theorem e3nn : fin (ex (thn c2) (s2 (X k a b r l .nils .nils))) = some (.bool true) := by kernel_rfl
theorem e4nn0 : fin (ex rest (s2 (X 0 a b r l .nils .nils))) = some (.bool true) := by kernel_rfl
theorem e4nn1 : fin (ex rest (s2 (X 1 a b r l .nils .nils))) = some (.bool true) := by kernel_rfl
theorem e4nn2 : fin (ex rest (s2 (X 2 a b r l .nils .nils))) = some (.bool true) := by kernel_rfl
theorem e4nn4 : fin (ex rest (s2 (X 4 a b r l .nils .nils))) = some (.bool true) := by kernel_rfl
theorem e4nn5 : fin (ex rest (s2 (X 5 a b r l .nils .nils))) = some (.bool true) := by kernel_rfl
theorem e4nn6 : fin (ex rest (s2 (X 6 a b r l .nils .nils))) = some (.bool true) := by kernel_rfl
theorem e4nn7 : fin (ex rest (s2 (X 7 a b r l .nils .nils))) = some (.bool true) := by kernel_rfl
theorem e4nn8 : fin (ex rest (s2 (X (Int.ofNat (m + 8)) a b r l .nils .nils))) = some (.bool true) := by kernel_rfl
theorem e4nn9 : fin (ex rest (s2 (X (Int.negSucc m) a b r l .nils .nils))) = some (.bool true) := by kernel_rfl
theorem e4nn3 : fin (ex rest (s2 (X 3 a b r l .nils .nils))) = some (.bool true) := by kernel_rfl
end
end Go.Proofs.YtifafejidnjckaaGreat
