/- Part of the proof: Q120, PS3, PS4. -/
import Derived.Test.YtmekcfdllhphlaaDoorK7
set_option linter.unusedVariables false
set_option linter.unusedSimpArgs false
set_option maxRecDepth 100000
namespace Go.Proofs.YtmekcfdllhphlaaDoor
open Go Go.R
open Go.IntKind (i64 u64 u8 u32)
def ann120 : Ann := { keep := [0, 1, 2, 3, 4, 10, 11, 12, 13, 14, 15, 16, 17, 18, 19, 20, 21, 22, 23, 24, 28, 33, 50, 58, 80, 85, 103, 110, 140, 151, 171, 185, 199, 213], locs := [], dead := [(0, [10, 11, 12, 13, 14, 15, 16, 17, 18, 19, 20, 21, 22, 23, 24, 33, 50, 58, 80, 85, 103, 110, 140, 151, 171, 185, 199, 213]), (1, [2, 11, 12, 13, 14, 15, 16, 17, 18, 19, 20, 21, 22, 23, 24, 28, 33, 50, 58, 80, 85, 103, 110, 140, 151, 171, 185, 199, 213]), (2, [2, 3, 12, 13, 14, 15, 16, 17, 18, 19, 20, 21, 22, 23, 24, 28, 33, 50, 58, 80, 85, 103, 110, 140, 151, 171, 185, 199, 213]), (3, [2, 3, 12, 13, 14, 15, 16, 17, 18, 19, 20, 21, 22, 23, 24, 28, 50, 58, 80, 85, 103, 110, 140, 151, 171, 185, 199, 213]), (4, [2, 3, 13, 14, 15, 16, 17, 18, 19, 20, 21, 22, 23, 24, 28, 33, 50, 58, 80, 85, 103, 110, 140, 151, 171, 185, 199, 213]), (5, [2, 3, 13, 14, 15, 16, 17, 18, 19, 20, 21, 22, 23, 24, 28, 33, 58, 80, 85, 103, 110, 140, 151, 171, 185, 199, 213]), (6, [2, 3, 12, 13, 14, 15, 16, 17, 18, 19, 20, 21, 22, 23, 24, 28, 33, 50, 58, 80, 85, 103, 110, 140, 151, 171, 185, 199, 213]), (7, [2, 3, 12, 13, 14, 15, 16, 17, 18, 19, 20, 21, 22, 23, 24, 28, 33, 50, 58, 80, 85, 103, 110, 140, 151, 171, 185, 199, 213]), (8, [1, 2, 3, 4, 11, 12, 14, 15, 16, 17, 18, 19, 20, 21, 22, 23, 24, 28, 33, 50, 58, 80, 85, 103, 110, 140, 151, 171, 185, 199, 213]), (9, [1, 2, 3, 4, 11, 12, 14, 15, 16, 17, 18, 19, 20, 21, 22, 23, 24, 28, 33, 50, 80, 85, 103, 110, 140, 151, 171, 185, 199, 213]), (10, [1, 2, 3, 4, 11, 12, 14, 15, 16, 17, 18, 19, 20, 21, 22, 23, 24, 28, 33, 50, 58, 80, 85, 103, 110, 140, 151, 171, 185, 199, 213]), (11, [1, 2, 3, 4, 11, 12, 14, 15, 16, 17, 18, 19, 20, 21, 22, 23, 24, 28, 33, 50, 58, 80, 85, 103, 110, 140, 151, 171, 185, 199, 213]), (12, [10, 11, 12, 13, 14, 15, 16, 17, 18, 19, 20, 21, 22, 23, 24, 28, 33, 50, 58, 85, 103, 110, 140, 151, 171, 185, 199, 213]), (13, [1, 3, 10, 11, 12, 13, 15, 16, 17, 18, 19, 20, 21, 22, 23, 24, 28, 33, 50, 58, 80, 85, 103, 110, 140, 151, 171, 185, 199, 213]), (14, [1, 3, 10, 11, 12, 13, 16, 17, 18, 19, 20, 21, 22, 23, 24, 28, 33, 50, 58, 80, 85, 103, 110, 140, 151, 171, 185, 199, 213]), (15, [1, 3, 10, 11, 12, 13, 16, 17, 18, 19, 20, 21, 22, 23, 24, 28, 33, 50, 58, 80, 103, 110, 140, 151, 171, 185, 199, 213]), (16, [1, 3, 10, 11, 12, 13, 17, 18, 19, 20, 21, 22, 23, 24, 28, 33, 50, 58, 80, 85, 103, 110, 140, 151, 171, 185, 199, 213]), (17, [1, 3, 10, 11, 12, 13, 17, 18, 19, 20, 21, 22, 23, 24, 28, 33, 50, 58, 80, 85, 110, 140, 151, 171, 185, 199, 213]), (18, [1, 3, 10, 11, 12, 13, 16, 17, 18, 19, 20, 21, 22, 23, 24, 28, 33, 50, 58, 80, 85, 103, 110, 140, 151, 171, 185, 199, 213]), (19, [1, 3, 10, 11, 12, 13, 16, 17, 18, 19, 20, 21, 22, 23, 24, 28, 33, 50, 58, 80, 85, 103, 110, 140, 151, 171, 185, 199, 213]), (20, [1, 2, 3, 4, 10, 11, 12, 13, 15, 16, 18, 19, 20, 21, 22, 23, 24, 28, 33, 50, 58, 80, 85, 103, 110, 140, 151, 171, 185, 199, 213]), (21, [1, 2, 3, 4, 10, 11, 12, 13, 15, 16, 18, 19, 20, 21, 22, 23, 24, 28, 33, 50, 58, 80, 85, 103, 140, 151, 171, 185, 199, 213]), (22, [1, 2, 3, 4, 10, 11, 12, 13, 15, 16, 18, 19, 20, 21, 22, 23, 24, 28, 33, 50, 58, 80, 85, 103, 110, 140, 151, 171, 185, 199, 213]), (23, [1, 2, 3, 4, 10, 11, 12, 13, 15, 16, 18, 19, 20, 21, 22, 23, 24, 28, 33, 50, 58, 80, 85, 103, 110, 140, 151, 171, 185, 199, 213]), (24, [10, 11, 12, 13, 14, 15, 16, 17, 19, 20, 21, 22, 23, 24, 28, 33, 50, 58, 80, 85, 103, 110, 140, 151, 171, 185, 199, 213]), (25, [10, 11, 12, 13, 14, 15, 16, 17, 20, 21, 22, 23, 24, 28, 33, 50, 58, 80, 85, 103, 110, 140, 151, 171, 185, 199, 213]), (26, [10, 11, 12, 13, 14, 15, 16, 17, 20, 21, 22, 23, 24, 28, 33, 50, 58, 80, 85, 103, 110, 140, 151, 171, 185, 199, 213]), (27, [10, 11, 12, 13, 14, 15, 16, 17, 20, 21, 22, 23, 24, 28, 33, 50, 58, 80, 85, 103, 110, 151, 171, 185, 199, 213]), (28, [10, 11, 12, 13, 14, 15, 16, 17, 21, 22, 23, 24, 28, 33, 50, 58, 80, 85, 103, 110, 140, 151, 171, 185, 199, 213]), (29, [10, 11, 12, 13, 14, 15, 16, 17, 22, 23, 24, 28, 33, 50, 58, 80, 85, 103, 110, 140, 151, 171, 185, 199, 213]), (30, [10, 11, 12, 13, 14, 15, 16, 17, 21, 22, 23, 24, 28, 33, 50, 58, 80, 85, 103, 110, 140, 151, 171, 185, 199, 213]), (31, [10, 11, 12, 13, 14, 15, 16, 17, 22, 23, 24, 28, 33, 50, 58, 80, 85, 103, 110, 140, 151, 171, 185, 199, 213]), (32, [10, 11, 12, 13, 14, 15, 16, 17, 23, 24, 28, 33, 50, 58, 80, 85, 103, 110, 140, 151, 171, 185, 199, 213]), (33, [10, 11, 12, 13, 14, 15, 16, 17, 23, 24, 28, 33, 50, 58, 80, 85, 103, 110, 140, 171, 185, 199, 213]), (34, [10, 11, 12, 13, 14, 15, 16, 17, 24, 28, 33, 50, 58, 80, 85, 103, 110, 140, 151, 171, 185, 199, 213]), (35, [10, 11, 12, 13, 14, 15, 16, 17, 24, 28, 33, 50, 58, 80, 85, 103, 110, 140, 151, 185, 199, 213]), (36, [10, 11, 12, 13, 14, 15, 16, 17, 23, 24, 28, 33, 50, 58, 80, 85, 103, 110, 140, 151, 171, 185, 199, 213]), (37, [10, 11, 12, 13, 14, 15, 16, 17, 23, 24, 28, 33, 50, 58, 80, 85, 103, 110, 140, 151, 171, 185, 199, 213]), (38, [10, 11, 12, 13, 14, 15, 16, 17, 19, 21, 22, 23, 28, 33, 50, 58, 80, 85, 103, 110, 140, 151, 171, 185, 199, 213]), (39, [10, 11, 12, 13, 14, 15, 16, 17, 19, 21, 22, 23, 28, 33, 50, 58, 80, 85, 103, 110, 140, 151, 171, 199, 213]), (40, [2, 10, 11, 12, 13, 14, 15, 16, 17, 19, 21, 22, 23, 28, 33, 50, 58, 80, 85, 103, 110, 140, 151, 171, 185, 199, 213]), (41, [2, 10, 11, 12, 13, 14, 15, 16, 17, 19, 21, 22, 23, 28, 33, 50, 58, 80, 85, 103, 110, 140, 151, 171, 185, 213]), (42, [1, 2, 10, 11, 12, 13, 14, 15, 16, 17, 19, 20, 21, 22, 23, 28, 33, 50, 58, 80, 85, 103, 110, 140, 151, 171, 185, 199, 213]), (43, [1, 2, 10, 11, 12, 13, 14, 15, 16, 17, 19, 20, 21, 22, 23, 28, 33, 50, 58, 80, 85, 103, 110, 140, 151, 171, 185, 199]), (44, [0, 1, 2, 3, 4, 10, 11, 12, 13, 14, 15, 16, 17, 18, 19, 20, 21, 22, 23, 24, 28, 33, 50, 58, 80, 85, 103, 110, 140, 151, 171, 185, 199, 213])], frz := [], frz2 := [] }
noncomputable def g120R0 := sub [0, 0] (codeOf Tryd.f120)
noncomputable def g120R1 := sub [0, 1, 0, 0] (codeOf Tryd.f120)
noncomputable def g120R2 := sub [0, 1, 0, 1, 0] (codeOf Tryd.f120)
noncomputable def g120L0 := sub [0, 1, 0, 1, 1, 0, 0, 0] (codeOf Tryd.f120)
noncomputable def g120R3 := sub [0, 1, 0, 1, 1, 0, 0, 0, 0, 0] (codeOf Tryd.f120)
noncomputable def g120R4 := sub [0, 1, 0, 1, 1, 0, 0, 0, 1, 0, 0] (codeOf Tryd.f120)
noncomputable def g120R5 := sub [0, 1, 0, 1, 1, 0, 0, 0, 1, 0, 1, 0] (codeOf Tryd.f120)
noncomputable def g120R6 := sub [0, 1, 0, 1, 1, 0, 0, 0, 1, 0, 1, 1, 0] (codeOf Tryd.f120)
noncomputable def g120R7 := sub [0, 1, 0, 1, 1, 0, 0, 0, 1, 0, 1, 1, 1] (codeOf Tryd.f120)
noncomputable def g120R8 := sub [0, 1, 0, 1, 1, 1, 0, 0] (codeOf Tryd.f120)
noncomputable def g120L1 := sub [0, 1, 0, 1, 1, 1, 0, 1, 0, 0] (codeOf Tryd.f120)
noncomputable def g120R9 := sub [0, 1, 0, 1, 1, 1, 0, 1, 0, 0, 0, 0] (codeOf Tryd.f120)
noncomputable def g120R11 := sub [0, 1, 0, 1, 1, 1, 0, 1, 0, 0, 1, 0, 0] (codeOf Tryd.f120)
noncomputable def g120R10 := sub [0, 1, 0, 1, 1, 1, 0, 1, 0, 0, 1, 1] (codeOf Tryd.f120)
noncomputable def g120R12 := sub [1, 0, 0] (codeOf Tryd.f120)
noncomputable def g120R13 := sub [1, 0, 1, 0, 0] (codeOf Tryd.f120)
noncomputable def g120R14 := sub [1, 0, 1, 0, 1, 0] (codeOf Tryd.f120)
noncomputable def g120L2 := sub [1, 0, 1, 0, 1, 1, 0, 0, 0] (codeOf Tryd.f120)
noncomputable def g120R15 := sub [1, 0, 1, 0, 1, 1, 0, 0, 0, 0, 0] (codeOf Tryd.f120)
noncomputable def g120R16 := sub [1, 0, 1, 0, 1, 1, 0, 0, 0, 1, 0, 0] (codeOf Tryd.f120)
noncomputable def g120R17 := sub [1, 0, 1, 0, 1, 1, 0, 0, 0, 1, 0, 1, 0] (codeOf Tryd.f120)
noncomputable def g120R18 := sub [1, 0, 1, 0, 1, 1, 0, 0, 0, 1, 0, 1, 1, 0] (codeOf Tryd.f120)
noncomputable def g120R19 := sub [1, 0, 1, 0, 1, 1, 0, 0, 0, 1, 0, 1, 1, 1] (codeOf Tryd.f120)
noncomputable def g120R20 := sub [1, 0, 1, 0, 1, 1, 1, 0, 0] (codeOf Tryd.f120)
noncomputable def g120L3 := sub [1, 0, 1, 0, 1, 1, 1, 0, 1, 0, 0] (codeOf Tryd.f120)
noncomputable def g120R21 := sub [1, 0, 1, 0, 1, 1, 1, 0, 1, 0, 0, 0, 0] (codeOf Tryd.f120)
noncomputable def g120R23 := sub [1, 0, 1, 0, 1, 1, 1, 0, 1, 0, 0, 1, 0, 0] (codeOf Tryd.f120)
noncomputable def g120R22 := sub [1, 0, 1, 0, 1, 1, 1, 0, 1, 0, 0, 1, 1] (codeOf Tryd.f120)
noncomputable def g120R24 := sub [1, 1, 0] (codeOf Tryd.f120)
noncomputable def g120R25 := sub [1, 1, 1, 0] (codeOf Tryd.f120)
noncomputable def g120R26 := sub [1, 1, 1, 1, 0] (codeOf Tryd.f120)
noncomputable def g120R27 := sub [1, 1, 1, 1, 1, 0, 0] (codeOf Tryd.f120)
noncomputable def g120R28 := sub [1, 1, 1, 1, 1, 0, 1, 0, 0] (codeOf Tryd.f120)
noncomputable def g120R29 := sub [1, 1, 1, 1, 1, 0, 1, 0, 1] (codeOf Tryd.f120)
noncomputable def g120R30 := sub [1, 1, 1, 1, 1, 0, 1, 1, 0] (codeOf Tryd.f120)
noncomputable def g120R31 := sub [1, 1, 1, 1, 1, 0, 1, 1, 1] (codeOf Tryd.f120)
noncomputable def g120R32 := sub [1, 1, 1, 1, 1, 1, 0] (codeOf Tryd.f120)
noncomputable def g120L4 := sub [1, 1, 1, 1, 1, 1, 1, 0, 0, 0] (codeOf Tryd.f120)
noncomputable def g120R33 := sub [1, 1, 1, 1, 1, 1, 1, 0, 0, 0, 0, 0] (codeOf Tryd.f120)
noncomputable def g120R34 := sub [1, 1, 1, 1, 1, 1, 1, 0, 0, 0, 1, 0, 0] (codeOf Tryd.f120)
noncomputable def g120R35 := sub [1, 1, 1, 1, 1, 1, 1, 0, 0, 0, 1, 0, 1, 0] (codeOf Tryd.f120)
noncomputable def g120R36 := sub [1, 1, 1, 1, 1, 1, 1, 0, 0, 0, 1, 0, 1, 1, 0] (codeOf Tryd.f120)
noncomputable def g120R37 := sub [1, 1, 1, 1, 1, 1, 1, 0, 0, 0, 1, 0, 1, 1, 1] (codeOf Tryd.f120)
noncomputable def g120R38 := sub [1, 1, 1, 1, 1, 1, 1, 1, 0] (codeOf Tryd.f120)
noncomputable def g120R39 := sub [1, 1, 1, 1, 1, 1, 1, 1, 1, 0, 0] (codeOf Tryd.f120)
noncomputable def g120R40 := sub [1, 1, 1, 1, 1, 1, 1, 1, 1, 0, 1, 0] (codeOf Tryd.f120)
noncomputable def g120R41 := sub [1, 1, 1, 1, 1, 1, 1, 1, 1, 1, 0, 0] (codeOf Tryd.f120)
noncomputable def g120R42 := sub [1, 1, 1, 1, 1, 1, 1, 1, 1, 1, 0, 1, 0] (codeOf Tryd.f120)
noncomputable def g120R43 := sub [1, 1, 1, 1, 1, 1, 1, 1, 1, 1, 1, 0] (codeOf Tryd.f120)
noncomputable def g120R44 := sub [1, 1, 1, 1, 1, 1, 1, 1, 1, 1, 1, 1, 0] (codeOf Tryd.f120)
theorem g120L0_eq : g120L0 = (.seq (.seq g120R3 (.cond (.tmp 33) .skip (.exit 0))) (.block 1 (.seq g120R4 (.seq g120R5 (.cond (.tmp 50) g120R6 g120R7))))) := by kernel_rfl
theorem g120L1_eq : g120L1 = (.seq (.seq g120R9 (.cond (.tmp 58) .skip (.exit 2))) (.seq (.block 3 g120R11) g120R10)) := by kernel_rfl
theorem g120L2_eq : g120L2 = (.seq (.seq g120R15 (.cond (.tmp 85) .skip (.exit 4))) (.block 5 (.seq g120R16 (.seq g120R17 (.cond (.tmp 103) g120R18 g120R19))))) := by kernel_rfl
theorem g120L3_eq : g120L3 = (.seq (.seq g120R21 (.cond (.tmp 110) .skip (.exit 6))) (.seq (.block 7 g120R23) g120R22)) := by kernel_rfl
theorem g120L4_eq : g120L4 = (.seq (.seq g120R33 (.cond (.tmp 151) .skip (.exit 8))) (.block 9 (.seq g120R34 (.seq g120R35 (.cond (.tmp 171) g120R36 g120R37))))) := by kernel_rfl
theorem g120_eq : codeOf Tryd.f120 = (.seq (.seq g120R0 (.cond (.tmp 28) (.seq g120R1 (.seq g120R2 (.seq (.block 0 (.loop g120L0)) (.seq (.seq g120R8 (.block 2 (.loop g120L1))) .ret)))) .skip)) (.seq (.seq g120R12 (.cond (.tmp 80) (.seq g120R13 (.seq g120R14 (.seq (.block 4 (.loop g120L2)) (.seq (.seq g120R20 (.block 6 (.loop g120L3))) .ret)))) .skip)) (.seq g120R24 (.seq g120R25 (.seq g120R26 (.seq (.seq g120R27 (.cond (.tmp 140) (.seq g120R28 g120R29) (.seq g120R30 g120R31))) (.seq g120R32 (.seq (.block 8 (.loop g120L4)) (.seq g120R38 (.seq (.seq g120R39 (.cond (.tmp 185) g120R40 .skip)) (.seq (.seq g120R41 (.cond (.tmp 199) g120R42 .skip)) (.seq g120R43 (.cond (.tmp 213) g120R44 .skip))))))))))))) := by kernel_rfl
def symMergeC.l0 (m : Nat) (data0 : List Int) (a0 : Int) (cmp0 : Int → Int → Option (Int)) : Nat → Int → Int → Option (Int × Int)
  | 0, _, _ => none
  | k + 1, i0, j0 => if (decide (i0 < j0)) = true then ((ix data0 (i64.wrap (shR .u64 (u64.wrap (i64.wrap (i0 + j0))) 1))).bind fun v0 => (ix data0 a0).bind fun v1 => (cmp0 v0 v1).bind fun r0 => if (decide (r0 < (0 : Int))) = true then (symMergeC.l0 m data0 a0 cmp0 k (i64.wrap (i64.wrap (shR .u64 (u64.wrap (i64.wrap (i0 + j0))) 1) + (1 : Int))) j0) else (symMergeC.l0 m data0 a0 cmp0 k i0 (i64.wrap (shR .u64 (u64.wrap (i64.wrap (i0 + j0))) 1)))) else (some ((i0, j0)))
def symMergeC.l1 (m : Nat) (i1 : Int) : Nat → (List Int) → Int → Option ((List Int) × Int)
  | 0, _, _ => none
  | k + 1, data1, k0 => if (decide (k0 < (i64.wrap (i1 - (1 : Int))))) = true then ((ix data1 (i64.wrap (k0 + (1 : Int)))).bind fun v2 => (ix data1 k0).bind fun v3 => (ix data1 k0).bind fun v4 => (ix (data1.set k0.toNat v2) (i64.wrap (k0 + (1 : Int)))).bind fun v5 => symMergeC.l1 m i1 k ((data1.set k0.toNat v2).set (i64.wrap (k0 + (1 : Int))).toNat v3) (i64.wrap (k0 + (1 : Int)))) else (some ((data1, k0)))
def symMergeC.l2 (m : Nat) (data0 : List Int) (m0 : Int) (cmp0 : Int → Int → Option (Int)) : Nat → Int → Int → Option (Int × Int)
  | 0, _, _ => none
  | k + 1, i2, j2 => if (decide (i2 < j2)) = true then ((ix data0 m0).bind fun v6 => (ix data0 (i64.wrap (shR .u64 (u64.wrap (i64.wrap (i2 + j2))) 1))).bind fun v7 => (cmp0 v6 v7).bind fun r1 => if (!(decide (r1 < (0 : Int)))) = true then (symMergeC.l2 m data0 m0 cmp0 k (i64.wrap (i64.wrap (shR .u64 (u64.wrap (i64.wrap (i2 + j2))) 1) + (1 : Int))) j2) else (symMergeC.l2 m data0 m0 cmp0 k i2 (i64.wrap (shR .u64 (u64.wrap (i64.wrap (i2 + j2))) 1)))) else (some ((i2, j2)))
def symMergeC.l3 (m : Nat) (i3 : Int) : Nat → (List Int) → Int → Option ((List Int) × Int)
  | 0, _, _ => none
  | k + 1, data3, k2 => if (decide (k2 > i3)) = true then ((ix data3 (i64.wrap (k2 - (1 : Int)))).bind fun v8 => (ix data3 k2).bind fun v9 => (ix data3 k2).bind fun v10 => (ix (data3.set k2.toNat v8) (i64.wrap (k2 - (1 : Int)))).bind fun v11 => symMergeC.l3 m i3 k ((data3.set k2.toNat v8).set (i64.wrap (k2 - (1 : Int))).toNat v9) (i64.wrap (k2 - (1 : Int)))) else (some ((data3, k2)))
def symMergeC.l4 (m : Nat) (data0 : List Int) (a0 : Int) (m0 : Int) (b0 : Int) (cmp0 : Int → Int → Option (Int)) : Nat → Int → Int → Option (Int × Int)
  | 0, _, _ => none
  | k + 1, start1, r3 => if (decide (start1 < r3)) = true then ((ix data0 (i64.wrap (i64.wrap (i64.wrap (i64.wrap (shR .u64 (u64.wrap (i64.wrap (a0 + b0))) 1) + m0) - (1 : Int)) - i64.wrap (shR .u64 (u64.wrap (i64.wrap (start1 + r3))) 1)))).bind fun v12 => (ix data0 (i64.wrap (shR .u64 (u64.wrap (i64.wrap (start1 + r3))) 1))).bind fun v13 => (cmp0 v12 v13).bind fun r4 => if (!(decide (r4 < (0 : Int)))) = true then (symMergeC.l4 m data0 a0 m0 b0 cmp0 k (i64.wrap (i64.wrap (shR .u64 (u64.wrap (i64.wrap (start1 + r3))) 1) + (1 : Int))) r3) else (symMergeC.l4 m data0 a0 m0 b0 cmp0 k start1 (i64.wrap (shR .u64 (u64.wrap (i64.wrap (start1 + r3))) 1)))) else (some ((start1, r3)))
def symMergeC.b (m : Nat) (rec : (List Int) → Int → Int → Int → (Int → Int → Option (Int)) → Option ((List Int))) (data0 : List Int) (a0 : Int) (m0 : Int) (b0 : Int) (cmp0 : Int → Int → Option (Int)) : Option ((List Int)) := if ((i64.wrap (m0 - a0)) == (1 : Int)) = true then ((symMergeC.l0 m data0 a0 cmp0 m m0 b0).bind fun out0 => match out0 with | (i1, j1) => (symMergeC.l1 m i1 m data0 a0).bind fun out1 => match out1 with | (data2, k1) => some data2) else (if ((i64.wrap (b0 - m0)) == (1 : Int)) = true then ((symMergeC.l2 m data0 m0 cmp0 m a0 m0).bind fun out2 => match out2 with | (i3, j3) => (symMergeC.l3 m i3 m data0 m0).bind fun out3 => match out3 with | (data4, k3) => some data4) else (jn (fun (σ : Int × Int) => match σ with | (start0, r2) => (symMergeC.l4 m data0 a0 m0 b0 cmp0 m start0 r2).bind fun out4 => match out4 with | (start2, r5) => jn (fun (σ : (List Int)) => match σ with | data5 => jn (fun (σ : (List Int)) => match σ with | data6 => if (decide ((i64.wrap (shR .u64 (u64.wrap (i64.wrap (a0 + b0))) 1)) < (i64.wrap (i64.wrap (i64.wrap (shR .u64 (u64.wrap (i64.wrap (a0 + b0))) 1) + m0) - start2)))) = true then (if (decide ((i64.wrap (i64.wrap (i64.wrap (shR .u64 (u64.wrap (i64.wrap (a0 + b0))) 1) + m0) - start2)) < b0)) = true then ((rec data6 (i64.wrap (shR .u64 (u64.wrap (i64.wrap (a0 + b0))) 1)) (i64.wrap (i64.wrap (i64.wrap (shR .u64 (u64.wrap (i64.wrap (a0 + b0))) 1) + m0) - start2)) b0 cmp0).bind fun x2 => some x2) else (some data6)) else (some data6)) fun jn2 => (if (decide (a0 < start2)) = true then (if (decide (start2 < (i64.wrap (shR .u64 (u64.wrap (i64.wrap (a0 + b0))) 1)))) = true then ((rec data5 a0 start2 (i64.wrap (shR .u64 (u64.wrap (i64.wrap (a0 + b0))) 1)) cmp0).bind fun x1 => jn2 x1) else (jn2 data5)) else (jn2 data5))) fun jn1 => (if (decide (start2 < m0)) = true then (if (decide (m0 < (i64.wrap (i64.wrap (i64.wrap (shR .u64 (u64.wrap (i64.wrap (a0 + b0))) 1) + m0) - start2)))) = true then ((rotateC.f m data0 start2 m0 (i64.wrap (i64.wrap (i64.wrap (shR .u64 (u64.wrap (i64.wrap (a0 + b0))) 1) + m0) - start2)) cmp0).bind fun x0 => jn1 x0) else (jn1 data0)) else (jn1 data0))) fun jn0 => (if (decide (m0 > (i64.wrap (shR .u64 (u64.wrap (i64.wrap (a0 + b0))) 1)))) = true then (jn0 (i64.wrap (i64.wrap (i64.wrap (shR .u64 (u64.wrap (i64.wrap (a0 + b0))) 1) + m0) - b0), i64.wrap (shR .u64 (u64.wrap (i64.wrap (a0 + b0))) 1))) else (jn0 (a0, m0)))))
def symMergeC.f (m : Nat) : Nat → (List Int) → Int → Int → Int → (Int → Int → Option (Int)) → Option ((List Int))
  | 0, _, _, _, _, _ => none
  | k + 1, data0, a0, m0, b0, cmp0 => symMergeC.b m (symMergeC.f m k) data0 a0 m0 b0 cmp0
def symMergeC.fin (L : Mem) (ad0 : Nat) (data0 : List Int) (a0 : Int) (m0 : Int) (b0 : Int) (cmp0 : Int → Int → Option (Int)) (r : (List Int)) (s : St) : Prop := resultA Tryd.prog (s.open ann120) Tryd.f120.results.toList = some (.tup []) ∧ Has s.h ((ad0, .sl data0.length 1 (eInt.l r)) :: L)
def S120 (cf : CallF) (m : Nat) (kk : Nat) : Prop := ∀ (data0 : List Int) (a0 : Int) (m0 : Int) (b0 : Int) (cmp0 : Int → Int → Option (Int)) (r : (List Int)), symMergeC.f m kk data0 a0 m0 b0 cmp0 = some r → ∀ h L (n_data0 : Nat) (ad0 : Nat), Has h ((ad0, .sl n_data0 1 (eInt.l data0)) :: L) → ∀ (g4_ : FuncId) (cap4_ : List AV), canonArg (.fn g4_ cap4_) = .fn g4_ cap4_ → (∀ h K, Has h (K ++ L) → ∀ (a0 : Int) (a1 : Int) r, cmp0 a0 a1 = some r → cf g4_ ([.int .i64 a0, .int .i64 a1] ++ cap4_) h = some (.int .i64 r, h)) → ∀ xs, xs.map canonArg = [.rs ad0 0 n_data0 1, .int .i64 a0, .int .i64 m0, .int .i64 b0, .fn g4_ cap4_] → ∃ h', cf 120 xs h = some (.tup [], h') ∧ Has h' ((ad0, .sl n_data0 1 (eInt.l r)) :: L)
section
variable {cf : CallF} {m : Nat}
def symMergeC.l0.R (L : Mem) (ad0 : Nat) (g4_ : FuncId) (cap4_ : List AV) (data0 : List Int) (a0 : Int) (m0 : Int) (b0 : Int) (cmp0 : Int → Int → Option (Int)) (σ : Int × Int) (s : St) : Prop :=
  match σ with
  | (i0, j0) => ∃ (g0 : AV) (g1 : AV) (g2 : AV) (g3 : AV) (g4 : AV) (g5 : AV) (g6 : AV) (g7 : AV) (g8 : AV) (g9 : AV) (g10 : AV) (g11 : AV) (g12 : AV) (g13 : AV) (h0 : AHeap), s = ⟨.rs ad0 0 data0.length 1 :: .int .i64 a0 :: .any :: .any :: .fn g4_ cap4_ :: .int .i64 i0 :: .int .i64 j0 :: Ay13 [g0, g1, g2, g3, g4, g5, g6, g7, g8, g9, g10, g11, g12, g13], [], h0⟩ ∧ Has h0 ((ad0, .sl data0.length 1 (eInt.l data0)) :: L)
def symMergeC.l0.Q (L : Mem) (ad0 : Nat) (g4_ : FuncId) (cap4_ : List AV) (data0 : List Int) (a0 : Int) (m0 : Int) (b0 : Int) (cmp0 : Int → Int → Option (Int)) (out : Int × Int) (e : Ex) (s : St) : Prop :=
  (e = .exit 0 ∧ ∃ (i0 : Int) (j0 : Int), (i0, j0) = out ∧ ∃ (x4_ : AV) (x11_ : AV) (x28_ : AV) (x33_ : AV) (x50_ : AV) (x58_ : AV) (x80_ : AV) (x85_ : AV) (x103_ : AV) (x110_ : AV) (x140_ : AV) (x151_ : AV) (x171_ : AV) (x185_ : AV) (x199_ : AV) (x213_ : AV) (h0 : AHeap), s = ⟨.rs ad0 0 data0.length 1 :: .int .i64 a0 :: .any :: .any :: x4_ :: .int .i64 i0 :: x11_ :: Ay13 [x28_, x33_, x50_, x58_, x80_, x85_, x103_, x110_, x140_, x151_, x171_, x185_, x199_, x213_], [], h0⟩ ∧ Has h0 ((ad0, .sl data0.length 1 (eInt.l data0)) :: L))
theorem symMergeC.l0_ok (L : Mem) (ad0 : Nat) (g4_ : FuncId) (cap4_ : List AV) (data0 : List Int) (a0 : Int) (m0 : Int) (b0 : Int) (cmp0 : Int → Int → Option (Int))  {kk : Nat} (S120_ : S120 cf m kk) (hc4_ : canonArg (.fn g4_ cap4_) = .fn g4_ cap4_) (Hp4_ : ∀ h K, Has h (K ++ L) → ∀ (a0 : Int) (a1 : Int) r, cmp0 a0 a1 = some r → cf g4_ ([.int .i64 a0, .int .i64 a1] ++ cap4_) h = some (.int .i64 r, h))  {σ : Int × Int} {s : St} {out : Int × Int} (hr : symMergeC.l0.R L ad0 g4_ cap4_ data0 a0 m0 b0 cmp0 σ s) (H : (fun k σ => symMergeC.l0 m data0 a0 cmp0 k σ.1 σ.2) m σ = some out) : Enz Tryd.prog cf ann120 m (.loop g120L0) s (symMergeC.l0.Q L ad0 g4_ cap4_ data0 a0 m0 b0 cmp0 out) := by
  refine ends_loop (fun k σ => symMergeC.l0 m data0 a0 cmp0 k σ.1 σ.2) (symMergeC.l0.R L ad0 g4_ cap4_ data0 a0 m0 b0 cmp0) (symMergeC.l0.Q L ad0 g4_ cap4_ data0 a0 m0 b0 cmp0) (fun _ => rfl) ?_ hr H (fun _ _ _ h => h)
  clear hr H σ s out
  rintro k ⟨i0, j0⟩ s out ⟨g0, g1, g2, g3, g4, g5, g6, g7, g8, g9, g10, g11, g12, g13, h0, rfl, o0⟩ H
  have H : symMergeC.l0 m data0 a0 cmp0 (k + 1) i0 j0 = some out := H
  refine ends_of_eq g120L0_eq ?_
  refine ends_seq ?_
  refine sr [] [] ⟨.rs ad0 0 data0.length 1 :: .int .i64 a0 :: .any :: .any :: .fn g4_ cap4_ :: .int .i64 i0 :: .int .i64 j0 :: Ay14 (.bool (decide (i0 < j0)) :: Ay12 []), [], h0⟩ ((True) ∧ True) (by kernel_rfl) ⟨trivial, trivial⟩ ?_
  refine ends_cond (decide (i0 < j0)) (by kernel_rfl) (fun c1 => ?_) (fun c1 => ?_)
  · have H := ifp c1 H
    refine ends_skip ?_
    refine ends_block ?_
    refine sr [] [] ⟨.rs ad0 0 data0.length 1 :: .int .i64 a0 :: .any :: .any :: .fn g4_ cap4_ :: .int .i64 i0 :: .int .i64 j0 :: .int .i64 (i64.wrap (shR .u64 (u64.wrap (i64.wrap (i0 + j0))) 1)) :: Ay26 [], [], h0⟩ ((True) ∧ True) (by kernel_rfl) ⟨trivial, trivial⟩ ?_
    refine ends_seq ?_
    obtain ⟨v0, e0, H⟩ := bsi H
    obtain ⟨v1, e1, H⟩ := bsi H
    obtain ⟨r0, e2, H⟩ := bsi H
    refine er [] [(3, .ptr ad0 (0 + (i64.wrap (shR .u64 (u64.wrap (i64.wrap (i0 + j0))) 1)).toNat * 1), none), (4, .int .i64 v0, none), (7, .ptr ad0 (0 + a0.toNat * 1), none), (8, .int .i64 v1, none), (9, .int .i64 r0, some h0)] ⟨.rs ad0 0 data0.length 1 :: .int .i64 a0 :: .any :: .any :: .fn g4_ cap4_ :: .int .i64 i0 :: .int .i64 j0 :: .int .i64 (i64.wrap (shR .u64 (u64.wrap (i64.wrap (i0 + j0))) 1)) :: Ay14 (.bool (decide (r0 < (0 : Int))) :: Ay11 []), [], h0⟩ ((True) ∧ indexAddrA Tryd.prog 42 (.rs ad0 0 data0.length 1) (.int .i64 (i64.wrap (shR .u64 (u64.wrap (i64.wrap (i0 + j0))) 1))) = some (.ptr ad0 (0 + (i64.wrap (shR .u64 (u64.wrap (i64.wrap (i0 + j0))) 1)).toNat * 1)) ∧ loadH Tryd.prog h0 3 (.ptr ad0 (0 + (i64.wrap (shR .u64 (u64.wrap (i64.wrap (i0 + j0))) 1)).toNat * 1)) = some (.int .i64 v0) ∧ indexAddrA Tryd.prog 42 (.rs ad0 0 data0.length 1) (.int .i64 a0) = some (.ptr ad0 (0 + a0.toNat * 1)) ∧ loadH Tryd.prog h0 3 (.ptr ad0 (0 + a0.toNat * 1)) = some (.int .i64 v1) ∧ callO cf (.fn g4_ cap4_) [.int .i64 v0, .int .i64 v1] h0 = some (.int .i64 r0, h0) ∧ True) (by kernel_rfl) ⟨trivial, ⟨ia_ownL (E := eInt) (l := data0) (q := 0) T42 o0 rfl e0, ld_own0 (E := eInt) (l := data0) (q := 0) o0 rfl A3 e0 rfl, ia_ownL (E := eInt) (l := data0) (q := 0) T42 o0 rfl e1, ld_own0 (E := eInt) (l := data0) (q := 0) o0 rfl A3 e1 rfl, callO_of (by kernel_rfl) (Hp4_ h0 [(ad0, .sl data0.length 1 (eInt.l data0))] o0 _ _ _ e2), trivial⟩⟩ ?_
    refine ends_cond (decide (r0 < (0 : Int))) (by kernel_rfl) (fun c2 => ?_) (fun c2 => ?_)
    · have H := ifp c2 H
      refine er [] [] ⟨.rs ad0 0 data0.length 1 :: .int .i64 a0 :: .any :: .any :: .fn g4_ cap4_ :: .int .i64 (i64.wrap (i64.wrap (shR .u64 (u64.wrap (i64.wrap (i0 + j0))) 1) + (1 : Int))) :: .int .i64 j0 :: Ay27 [], [], h0⟩ ((True) ∧ True) (by kernel_rfl) ⟨trivial, trivial⟩ ?_
      exact ⟨(i64.wrap (i64.wrap (shR .u64 (u64.wrap (i64.wrap (i0 + j0))) 1) + (1 : Int)), j0), ⟨.any, .any, .any, .any, .any, .any, .any, .any, .any, .any, .any, .any, .any, .any, h0, rfl, o0⟩, H⟩
    · have H := ifn c2 H
      refine er [] [] ⟨.rs ad0 0 data0.length 1 :: .int .i64 a0 :: .any :: .any :: .fn g4_ cap4_ :: .int .i64 i0 :: .int .i64 (i64.wrap (shR .u64 (u64.wrap (i64.wrap (i0 + j0))) 1)) :: Ay27 [], [], h0⟩ ((True) ∧ True) (by kernel_rfl) ⟨trivial, trivial⟩ ?_
      exact ⟨(i0, i64.wrap (shR .u64 (u64.wrap (i64.wrap (i0 + j0))) 1)), ⟨.any, .any, .any, .any, .any, .any, .any, .any, .any, .any, .any, .any, .any, .any, h0, rfl, o0⟩, H⟩
  · have H := ifn c1 H
    refine ends_exit ?_
    have H := Option.some.inj H
    exact ⟨rfl, i0, j0, H, .fn g4_ cap4_, .int .i64 j0, .any, .bool (decide (i0 < j0)), .any, .any, .any, .any, .any, .any, .any, .any, .any, .any, .any, .any, h0, rfl, o0⟩
def symMergeC.l1.R (L : Mem) (ad0 : Nat) (g4_ : FuncId) (cap4_ : List AV) (data0 : List Int) (a0 : Int) (m0 : Int) (b0 : Int) (cmp0 : Int → Int → Option (Int)) (i1 : Int) (σ : (List Int) × Int) (s : St) : Prop :=
  match σ with
  | (data1, k0) => ∃ (g30 : AV) (g31 : AV) (g32 : AV) (g33 : AV) (g34 : AV) (g35 : AV) (g36 : AV) (g37 : AV) (g38 : AV) (g39 : AV) (g40 : AV) (g41 : AV) (g42 : AV) (g43 : AV) (h2 : AHeap), s = ⟨.rs ad0 0 data0.length 1 :: Ay4 (.int .i64 i1 :: .any :: .any :: .int .i64 k0 :: Ay11 [g30, g31, g32, g33, g34, g35, g36, g37, g38, g39, g40, g41, g42, g43]), [], h2⟩ ∧ Has h2 ((ad0, .sl data0.length 1 (eInt.l data1)) :: L)
def symMergeC.l1.Q (L : Mem) (ad0 : Nat) (g4_ : FuncId) (cap4_ : List AV) (data0 : List Int) (a0 : Int) (m0 : Int) (b0 : Int) (cmp0 : Int → Int → Option (Int)) (i1 : Int) (out : (List Int) × Int) (e : Ex) (s : St) : Prop :=
  (e = .exit 2 ∧ ∃ (data1 : List Int) (k0 : Int), (data1, k0) = out ∧ ∃ (x0_ : AV) (x10_ : AV) (x13_ : AV) (x28_ : AV) (x33_ : AV) (x50_ : AV) (x58_ : AV) (x80_ : AV) (x85_ : AV) (x103_ : AV) (x110_ : AV) (x140_ : AV) (x151_ : AV) (x171_ : AV) (x185_ : AV) (x199_ : AV) (x213_ : AV) (h2 : AHeap), s = ⟨x0_ :: Ay4 (x10_ :: .any :: .any :: x13_ :: Ay11 [x28_, x33_, x50_, x58_, x80_, x85_, x103_, x110_, x140_, x151_, x171_, x185_, x199_, x213_]), [], h2⟩ ∧ Has h2 ((ad0, .sl data0.length 1 (eInt.l data1)) :: L))
theorem symMergeC.l1_ok (L : Mem) (ad0 : Nat) (g4_ : FuncId) (cap4_ : List AV) (data0 : List Int) (a0 : Int) (m0 : Int) (b0 : Int) (cmp0 : Int → Int → Option (Int)) (i1 : Int)  {kk : Nat} (S120_ : S120 cf m kk) (hc4_ : canonArg (.fn g4_ cap4_) = .fn g4_ cap4_) (Hp4_ : ∀ h K, Has h (K ++ L) → ∀ (a0 : Int) (a1 : Int) r, cmp0 a0 a1 = some r → cf g4_ ([.int .i64 a0, .int .i64 a1] ++ cap4_) h = some (.int .i64 r, h))  {σ : (List Int) × Int} {s : St} {out : (List Int) × Int} (hr : symMergeC.l1.R L ad0 g4_ cap4_ data0 a0 m0 b0 cmp0 i1 σ s) (H : (fun k σ => symMergeC.l1 m i1 k σ.1 σ.2) m σ = some out) : Enz Tryd.prog cf ann120 m (.loop g120L1) s (symMergeC.l1.Q L ad0 g4_ cap4_ data0 a0 m0 b0 cmp0 i1 out) := by
  refine ends_loop (fun k σ => symMergeC.l1 m i1 k σ.1 σ.2) (symMergeC.l1.R L ad0 g4_ cap4_ data0 a0 m0 b0 cmp0 i1) (symMergeC.l1.Q L ad0 g4_ cap4_ data0 a0 m0 b0 cmp0 i1) (fun _ => rfl) ?_ hr H (fun _ _ _ h => h)
  clear hr H σ s out
  rintro k ⟨data1, k0⟩ s out ⟨g30, g31, g32, g33, g34, g35, g36, g37, g38, g39, g40, g41, g42, g43, h2, rfl, o2⟩ H
  have H : symMergeC.l1 m i1 (k + 1) data1 k0 = some out := H
  refine ends_of_eq g120L1_eq ?_
  refine ends_seq ?_
  refine sr [] [] ⟨.rs ad0 0 data0.length 1 :: Ay4 (.int .i64 i1 :: .any :: .any :: .int .i64 k0 :: Ay14 (.bool (decide (k0 < (i64.wrap (i1 - (1 : Int))))) :: Ay10 [])), [], h2⟩ ((True) ∧ True) (by kernel_rfl) ⟨trivial, trivial⟩ ?_
  refine ends_cond (decide (k0 < (i64.wrap (i1 - (1 : Int))))) (by kernel_rfl) (fun c3 => ?_) (fun c3 => ?_)
  · have H := ifp c3 H
    refine ends_skip ?_
    refine ends_seq ?_
    refine ends_block ?_
    obtain ⟨v2, e4, H⟩ := bsi H
    obtain ⟨v3, e5, H⟩ := bsi H
    obtain ⟨v4, e6, H⟩ := bsi H
    obtain ⟨h3, e7, o3⟩ := st_own (P := Tryd.prog) (tf := 3) (E := eInt) (l := data1) (q := 0) (v := v2) (x := .int .i64 v2) o2 rfl Z3 e6 rfl rfl
    obtain ⟨v5, e8, H⟩ := bsi H
    obtain ⟨h4, e9, o4⟩ := st_own (P := Tryd.prog) (tf := 3) (E := eInt) (l := (data1.set k0.toNat v2)) (q := 0) (v := v3) (x := .int .i64 v3) o3 rfl Z3 e8 rfl rfl
    refine er [] [(8, .ptr ad0 (0 + (i64.wrap (k0 + (1 : Int))).toNat * 1), none), (9, .int .i64 v2, none), (12, .ptr ad0 (0 + k0.toNat * 1), none), (13, .int .i64 v3, none), (14, .ptr ad0 (0 + k0.toNat * 1), none), (15, .any, some h3), (16, .ptr ad0 (0 + (i64.wrap (k0 + (1 : Int))).toNat * 1), none), (17, .any, some h4)] ⟨.rs ad0 0 data0.length 1 :: Ay4 (.int .i64 i1 :: .any :: .any :: .int .i64 k0 :: Ay25 []), [], h4⟩ ((True) ∧ indexAddrA Tryd.prog 42 (.rs ad0 0 data0.length 1) (.int .i64 (i64.wrap (k0 + (1 : Int)))) = some (.ptr ad0 (0 + (i64.wrap (k0 + (1 : Int))).toNat * 1)) ∧ loadH Tryd.prog h2 3 (.ptr ad0 (0 + (i64.wrap (k0 + (1 : Int))).toNat * 1)) = some (.int .i64 v2) ∧ indexAddrA Tryd.prog 42 (.rs ad0 0 data0.length 1) (.int .i64 k0) = some (.ptr ad0 (0 + k0.toNat * 1)) ∧ loadH Tryd.prog h2 3 (.ptr ad0 (0 + k0.toNat * 1)) = some (.int .i64 v3) ∧ indexAddrA Tryd.prog 42 (.rs ad0 0 data0.length 1) (.int .i64 k0) = some (.ptr ad0 (0 + k0.toNat * 1)) ∧ storeH Tryd.prog h2 3 (.ptr ad0 (0 + k0.toNat * 1)) (.int .i64 v2) = some h3 ∧ indexAddrA Tryd.prog 42 (.rs ad0 0 data0.length 1) (.int .i64 (i64.wrap (k0 + (1 : Int)))) = some (.ptr ad0 (0 + (i64.wrap (k0 + (1 : Int))).toNat * 1)) ∧ storeH Tryd.prog h3 3 (.ptr ad0 (0 + (i64.wrap (k0 + (1 : Int))).toNat * 1)) (.int .i64 v3) = some h4 ∧ True) (by kernel_rfl) ⟨trivial, ⟨ia_ownL (E := eInt) (l := data1) (q := 0) T42 o2 rfl e4, ld_own0 (E := eInt) (l := data1) (q := 0) o2 rfl A3 e4 rfl, ia_ownL (E := eInt) (l := data1) (q := 0) T42 o2 rfl e5, ld_own0 (E := eInt) (l := data1) (q := 0) o2 rfl A3 e5 rfl, ia_ownL (E := eInt) (l := data1) (q := 0) T42 o2 rfl e6, e7, ia_ownL (E := eInt) (l := (data1.set k0.toNat v2)) (q := 0) T42 o3 rfl e8, e9, trivial⟩⟩ ?_
    refine er [] [] ⟨.rs ad0 0 data0.length 1 :: Ay4 (.int .i64 i1 :: .any :: .any :: .int .i64 (i64.wrap (k0 + (1 : Int))) :: Ay25 []), [], h4⟩ ((True) ∧ True) (by kernel_rfl) ⟨trivial, trivial⟩ ?_
    exact ⟨((data1.set k0.toNat v2).set (i64.wrap (k0 + (1 : Int))).toNat v3, i64.wrap (k0 + (1 : Int))), ⟨.any, .any, .any, .any, .any, .any, .any, .any, .any, .any, .any, .any, .any, .any, h4, rfl, o4⟩, H⟩
  · have H := ifn c3 H
    refine ends_exit ?_
    have H := Option.some.inj H
    exact ⟨rfl, data1, k0, H, .rs ad0 0 data0.length 1, .int .i64 i1, .int .i64 k0, .any, .any, .any, .bool (decide (k0 < (i64.wrap (i1 - (1 : Int))))), .any, .any, .any, .any, .any, .any, .any, .any, .any, .any, h2, rfl, o2⟩
def symMergeC.l2.R (L : Mem) (ad0 : Nat) (g4_ : FuncId) (cap4_ : List AV) (data0 : List Int) (a0 : Int) (m0 : Int) (b0 : Int) (cmp0 : Int → Int → Option (Int)) (σ : Int × Int) (s : St) : Prop :=
  match σ with
  | (i2, j2) => ∃ (g61 : AV) (g62 : AV) (g63 : AV) (g64 : AV) (g65 : AV) (g66 : AV) (g67 : AV) (g68 : AV) (g69 : AV) (g70 : AV) (g71 : AV) (g72 : AV) (g73 : AV) (g74 : AV) (h6 : AHeap), s = ⟨.rs ad0 0 data0.length 1 :: .any :: .int .i64 m0 :: .any :: .fn g4_ cap4_ :: Ay4 (.int .i64 i2 :: .int .i64 j2 :: Ay9 [g61, g62, g63, g64, g65, g66, g67, g68, g69, g70, g71, g72, g73, g74]), [], h6⟩ ∧ Has h6 ((ad0, .sl data0.length 1 (eInt.l data0)) :: L)
def symMergeC.l2.Q (L : Mem) (ad0 : Nat) (g4_ : FuncId) (cap4_ : List AV) (data0 : List Int) (a0 : Int) (m0 : Int) (b0 : Int) (cmp0 : Int → Int → Option (Int)) (out : Int × Int) (e : Ex) (s : St) : Prop :=
  (e = .exit 4 ∧ ∃ (i2 : Int) (j2 : Int), (i2, j2) = out ∧ ∃ (x4_ : AV) (x15_ : AV) (x28_ : AV) (x33_ : AV) (x50_ : AV) (x58_ : AV) (x80_ : AV) (x85_ : AV) (x103_ : AV) (x110_ : AV) (x140_ : AV) (x151_ : AV) (x171_ : AV) (x185_ : AV) (x199_ : AV) (x213_ : AV) (h6 : AHeap), s = ⟨.rs ad0 0 data0.length 1 :: .any :: .int .i64 m0 :: .any :: x4_ :: Ay4 (.int .i64 i2 :: x15_ :: Ay9 [x28_, x33_, x50_, x58_, x80_, x85_, x103_, x110_, x140_, x151_, x171_, x185_, x199_, x213_]), [], h6⟩ ∧ Has h6 ((ad0, .sl data0.length 1 (eInt.l data0)) :: L))
theorem symMergeC.l2_ok (L : Mem) (ad0 : Nat) (g4_ : FuncId) (cap4_ : List AV) (data0 : List Int) (a0 : Int) (m0 : Int) (b0 : Int) (cmp0 : Int → Int → Option (Int))  {kk : Nat} (S120_ : S120 cf m kk) (hc4_ : canonArg (.fn g4_ cap4_) = .fn g4_ cap4_) (Hp4_ : ∀ h K, Has h (K ++ L) → ∀ (a0 : Int) (a1 : Int) r, cmp0 a0 a1 = some r → cf g4_ ([.int .i64 a0, .int .i64 a1] ++ cap4_) h = some (.int .i64 r, h))  {σ : Int × Int} {s : St} {out : Int × Int} (hr : symMergeC.l2.R L ad0 g4_ cap4_ data0 a0 m0 b0 cmp0 σ s) (H : (fun k σ => symMergeC.l2 m data0 m0 cmp0 k σ.1 σ.2) m σ = some out) : Enz Tryd.prog cf ann120 m (.loop g120L2) s (symMergeC.l2.Q L ad0 g4_ cap4_ data0 a0 m0 b0 cmp0 out) := by
  refine ends_loop (fun k σ => symMergeC.l2 m data0 m0 cmp0 k σ.1 σ.2) (symMergeC.l2.R L ad0 g4_ cap4_ data0 a0 m0 b0 cmp0) (symMergeC.l2.Q L ad0 g4_ cap4_ data0 a0 m0 b0 cmp0) (fun _ => rfl) ?_ hr H (fun _ _ _ h => h)
  clear hr H σ s out
  rintro k ⟨i2, j2⟩ s out ⟨g61, g62, g63, g64, g65, g66, g67, g68, g69, g70, g71, g72, g73, g74, h6, rfl, o6⟩ H
  have H : symMergeC.l2 m data0 m0 cmp0 (k + 1) i2 j2 = some out := H
  refine ends_of_eq g120L2_eq ?_
  refine ends_seq ?_
  refine sr [] [] ⟨.rs ad0 0 data0.length 1 :: .any :: .int .i64 m0 :: .any :: .fn g4_ cap4_ :: Ay4 (.int .i64 i2 :: .int .i64 j2 :: Ay14 (.bool (decide (i2 < j2)) :: Ay8 [])), [], h6⟩ ((True) ∧ True) (by kernel_rfl) ⟨trivial, trivial⟩ ?_
  refine ends_cond (decide (i2 < j2)) (by kernel_rfl) (fun c5 => ?_) (fun c5 => ?_)
  · have H := ifp c5 H
    refine ends_skip ?_
    refine ends_block ?_
    refine sr [] [] ⟨.rs ad0 0 data0.length 1 :: .any :: .int .i64 m0 :: .any :: .fn g4_ cap4_ :: Ay4 (.int .i64 i2 :: .int .i64 j2 :: .int .i64 (i64.wrap (shR .u64 (u64.wrap (i64.wrap (i2 + j2))) 1)) :: Ay22 []), [], h6⟩ ((True) ∧ True) (by kernel_rfl) ⟨trivial, trivial⟩ ?_
    refine ends_seq ?_
    obtain ⟨v6, e11, H⟩ := bsi H
    obtain ⟨v7, e12, H⟩ := bsi H
    obtain ⟨r1, e13, H⟩ := bsi H
    refine er [] [(3, .ptr ad0 (0 + m0.toNat * 1), none), (4, .int .i64 v6, none), (7, .ptr ad0 (0 + (i64.wrap (shR .u64 (u64.wrap (i64.wrap (i2 + j2))) 1)).toNat * 1), none), (8, .int .i64 v7, none), (9, .int .i64 r1, some h6)] ⟨.rs ad0 0 data0.length 1 :: .any :: .int .i64 m0 :: .any :: .fn g4_ cap4_ :: Ay4 (.int .i64 i2 :: .int .i64 j2 :: .int .i64 (i64.wrap (shR .u64 (u64.wrap (i64.wrap (i2 + j2))) 1)) :: Ay14 (.bool (!(decide (r1 < (0 : Int)))) :: Ay7 [])), [], h6⟩ ((True) ∧ indexAddrA Tryd.prog 42 (.rs ad0 0 data0.length 1) (.int .i64 m0) = some (.ptr ad0 (0 + m0.toNat * 1)) ∧ loadH Tryd.prog h6 3 (.ptr ad0 (0 + m0.toNat * 1)) = some (.int .i64 v6) ∧ indexAddrA Tryd.prog 42 (.rs ad0 0 data0.length 1) (.int .i64 (i64.wrap (shR .u64 (u64.wrap (i64.wrap (i2 + j2))) 1))) = some (.ptr ad0 (0 + (i64.wrap (shR .u64 (u64.wrap (i64.wrap (i2 + j2))) 1)).toNat * 1)) ∧ loadH Tryd.prog h6 3 (.ptr ad0 (0 + (i64.wrap (shR .u64 (u64.wrap (i64.wrap (i2 + j2))) 1)).toNat * 1)) = some (.int .i64 v7) ∧ callO cf (.fn g4_ cap4_) [.int .i64 v6, .int .i64 v7] h6 = some (.int .i64 r1, h6) ∧ True) (by kernel_rfl) ⟨trivial, ⟨ia_ownL (E := eInt) (l := data0) (q := 0) T42 o6 rfl e11, ld_own0 (E := eInt) (l := data0) (q := 0) o6 rfl A3 e11 rfl, ia_ownL (E := eInt) (l := data0) (q := 0) T42 o6 rfl e12, ld_own0 (E := eInt) (l := data0) (q := 0) o6 rfl A3 e12 rfl, callO_of (by kernel_rfl) (Hp4_ h6 [(ad0, .sl data0.length 1 (eInt.l data0))] o6 _ _ _ e13), trivial⟩⟩ ?_
    refine ends_cond (!(decide (r1 < (0 : Int)))) (by kernel_rfl) (fun c6 => ?_) (fun c6 => ?_)
    · have H := ifp c6 H
      refine er [] [] ⟨.rs ad0 0 data0.length 1 :: .any :: .int .i64 m0 :: .any :: .fn g4_ cap4_ :: Ay4 (.int .i64 (i64.wrap (i64.wrap (shR .u64 (u64.wrap (i64.wrap (i2 + j2))) 1) + (1 : Int))) :: .int .i64 j2 :: Ay23 []), [], h6⟩ ((True) ∧ True) (by kernel_rfl) ⟨trivial, trivial⟩ ?_
      exact ⟨(i64.wrap (i64.wrap (shR .u64 (u64.wrap (i64.wrap (i2 + j2))) 1) + (1 : Int)), j2), ⟨.any, .any, .any, .any, .any, .any, .any, .any, .any, .any, .any, .any, .any, .any, h6, rfl, o6⟩, H⟩
    · have H := ifn c6 H
      refine er [] [] ⟨.rs ad0 0 data0.length 1 :: .any :: .int .i64 m0 :: .any :: .fn g4_ cap4_ :: Ay4 (.int .i64 i2 :: .int .i64 (i64.wrap (shR .u64 (u64.wrap (i64.wrap (i2 + j2))) 1)) :: Ay23 []), [], h6⟩ ((True) ∧ True) (by kernel_rfl) ⟨trivial, trivial⟩ ?_
      exact ⟨(i2, i64.wrap (shR .u64 (u64.wrap (i64.wrap (i2 + j2))) 1)), ⟨.any, .any, .any, .any, .any, .any, .any, .any, .any, .any, .any, .any, .any, .any, h6, rfl, o6⟩, H⟩
  · have H := ifn c5 H
    refine ends_exit ?_
    have H := Option.some.inj H
    exact ⟨rfl, i2, j2, H, .fn g4_ cap4_, .int .i64 j2, .any, .any, .any, .any, .any, .bool (decide (i2 < j2)), .any, .any, .any, .any, .any, .any, .any, .any, h6, rfl, o6⟩
def symMergeC.l3.R (L : Mem) (ad0 : Nat) (g4_ : FuncId) (cap4_ : List AV) (data0 : List Int) (a0 : Int) (m0 : Int) (b0 : Int) (cmp0 : Int → Int → Option (Int)) (i3 : Int) (σ : (List Int) × Int) (s : St) : Prop :=
  match σ with
  | (data3, k2) => ∃ (g91 : AV) (g92 : AV) (g93 : AV) (g94 : AV) (g95 : AV) (g96 : AV) (g97 : AV) (g98 : AV) (g99 : AV) (g100 : AV) (g101 : AV) (g102 : AV) (g103 : AV) (g104 : AV) (h8 : AHeap), s = ⟨.rs ad0 0 data0.length 1 :: Ay8 (.int .i64 i3 :: .any :: .any :: .int .i64 k2 :: Ay7 [g91, g92, g93, g94, g95, g96, g97, g98, g99, g100, g101, g102, g103, g104]), [], h8⟩ ∧ Has h8 ((ad0, .sl data0.length 1 (eInt.l data3)) :: L)
def symMergeC.l3.Q (L : Mem) (ad0 : Nat) (g4_ : FuncId) (cap4_ : List AV) (data0 : List Int) (a0 : Int) (m0 : Int) (b0 : Int) (cmp0 : Int → Int → Option (Int)) (i3 : Int) (out : (List Int) × Int) (e : Ex) (s : St) : Prop :=
  (e = .exit 6 ∧ ∃ (data3 : List Int) (k2 : Int), (data3, k2) = out ∧ ∃ (x0_ : AV) (x14_ : AV) (x17_ : AV) (x28_ : AV) (x33_ : AV) (x50_ : AV) (x58_ : AV) (x80_ : AV) (x85_ : AV) (x103_ : AV) (x110_ : AV) (x140_ : AV) (x151_ : AV) (x171_ : AV) (x185_ : AV) (x199_ : AV) (x213_ : AV) (h8 : AHeap), s = ⟨x0_ :: Ay8 (x14_ :: .any :: .any :: x17_ :: Ay7 [x28_, x33_, x50_, x58_, x80_, x85_, x103_, x110_, x140_, x151_, x171_, x185_, x199_, x213_]), [], h8⟩ ∧ Has h8 ((ad0, .sl data0.length 1 (eInt.l data3)) :: L))
theorem symMergeC.l3_ok (L : Mem) (ad0 : Nat) (g4_ : FuncId) (cap4_ : List AV) (data0 : List Int) (a0 : Int) (m0 : Int) (b0 : Int) (cmp0 : Int → Int → Option (Int)) (i3 : Int)  {kk : Nat} (S120_ : S120 cf m kk) (hc4_ : canonArg (.fn g4_ cap4_) = .fn g4_ cap4_) (Hp4_ : ∀ h K, Has h (K ++ L) → ∀ (a0 : Int) (a1 : Int) r, cmp0 a0 a1 = some r → cf g4_ ([.int .i64 a0, .int .i64 a1] ++ cap4_) h = some (.int .i64 r, h))  {σ : (List Int) × Int} {s : St} {out : (List Int) × Int} (hr : symMergeC.l3.R L ad0 g4_ cap4_ data0 a0 m0 b0 cmp0 i3 σ s) (H : (fun k σ => symMergeC.l3 m i3 k σ.1 σ.2) m σ = some out) : Enz Tryd.prog cf ann120 m (.loop g120L3) s (symMergeC.l3.Q L ad0 g4_ cap4_ data0 a0 m0 b0 cmp0 i3 out) := by
  refine ends_loop (fun k σ => symMergeC.l3 m i3 k σ.1 σ.2) (symMergeC.l3.R L ad0 g4_ cap4_ data0 a0 m0 b0 cmp0 i3) (symMergeC.l3.Q L ad0 g4_ cap4_ data0 a0 m0 b0 cmp0 i3) (fun _ => rfl) ?_ hr H (fun _ _ _ h => h)
  clear hr H σ s out
  rintro k ⟨data3, k2⟩ s out ⟨g91, g92, g93, g94, g95, g96, g97, g98, g99, g100, g101, g102, g103, g104, h8, rfl, o8⟩ H
  have H : symMergeC.l3 m i3 (k + 1) data3 k2 = some out := H
  refine ends_of_eq g120L3_eq ?_
  refine ends_seq ?_
  refine sr [] [] ⟨.rs ad0 0 data0.length 1 :: Ay8 (.int .i64 i3 :: .any :: .any :: .int .i64 k2 :: Ay14 (.bool (decide (k2 > i3)) :: Ay6 [])), [], h8⟩ ((True) ∧ True) (by kernel_rfl) ⟨trivial, trivial⟩ ?_
  refine ends_cond (decide (k2 > i3)) (by kernel_rfl) (fun c7 => ?_) (fun c7 => ?_)
  · have H := ifp c7 H
    refine ends_skip ?_
    refine ends_seq ?_
    refine ends_block ?_
    obtain ⟨v8, e15, H⟩ := bsi H
    obtain ⟨v9, e16, H⟩ := bsi H
    obtain ⟨v10, e17, H⟩ := bsi H
    obtain ⟨h9, e18, o9⟩ := st_own (P := Tryd.prog) (tf := 3) (E := eInt) (l := data3) (q := 0) (v := v8) (x := .int .i64 v8) o8 rfl Z3 e17 rfl rfl
    obtain ⟨v11, e19, H⟩ := bsi H
    obtain ⟨h10, e20, o10⟩ := st_own (P := Tryd.prog) (tf := 3) (E := eInt) (l := (data3.set k2.toNat v8)) (q := 0) (v := v9) (x := .int .i64 v9) o9 rfl Z3 e19 rfl rfl
    refine er [] [(8, .ptr ad0 (0 + (i64.wrap (k2 - (1 : Int))).toNat * 1), none), (9, .int .i64 v8, none), (12, .ptr ad0 (0 + k2.toNat * 1), none), (13, .int .i64 v9, none), (14, .ptr ad0 (0 + k2.toNat * 1), none), (15, .any, some h9), (16, .ptr ad0 (0 + (i64.wrap (k2 - (1 : Int))).toNat * 1), none), (17, .any, some h10)] ⟨.rs ad0 0 data0.length 1 :: Ay8 (.int .i64 i3 :: .any :: .any :: .int .i64 k2 :: Ay21 []), [], h10⟩ ((True) ∧ indexAddrA Tryd.prog 42 (.rs ad0 0 data0.length 1) (.int .i64 (i64.wrap (k2 - (1 : Int)))) = some (.ptr ad0 (0 + (i64.wrap (k2 - (1 : Int))).toNat * 1)) ∧ loadH Tryd.prog h8 3 (.ptr ad0 (0 + (i64.wrap (k2 - (1 : Int))).toNat * 1)) = some (.int .i64 v8) ∧ indexAddrA Tryd.prog 42 (.rs ad0 0 data0.length 1) (.int .i64 k2) = some (.ptr ad0 (0 + k2.toNat * 1)) ∧ loadH Tryd.prog h8 3 (.ptr ad0 (0 + k2.toNat * 1)) = some (.int .i64 v9) ∧ indexAddrA Tryd.prog 42 (.rs ad0 0 data0.length 1) (.int .i64 k2) = some (.ptr ad0 (0 + k2.toNat * 1)) ∧ storeH Tryd.prog h8 3 (.ptr ad0 (0 + k2.toNat * 1)) (.int .i64 v8) = some h9 ∧ indexAddrA Tryd.prog 42 (.rs ad0 0 data0.length 1) (.int .i64 (i64.wrap (k2 - (1 : Int)))) = some (.ptr ad0 (0 + (i64.wrap (k2 - (1 : Int))).toNat * 1)) ∧ storeH Tryd.prog h9 3 (.ptr ad0 (0 + (i64.wrap (k2 - (1 : Int))).toNat * 1)) (.int .i64 v9) = some h10 ∧ True) (by kernel_rfl) ⟨trivial, ⟨ia_ownL (E := eInt) (l := data3) (q := 0) T42 o8 rfl e15, ld_own0 (E := eInt) (l := data3) (q := 0) o8 rfl A3 e15 rfl, ia_ownL (E := eInt) (l := data3) (q := 0) T42 o8 rfl e16, ld_own0 (E := eInt) (l := data3) (q := 0) o8 rfl A3 e16 rfl, ia_ownL (E := eInt) (l := data3) (q := 0) T42 o8 rfl e17, e18, ia_ownL (E := eInt) (l := (data3.set k2.toNat v8)) (q := 0) T42 o9 rfl e19, e20, trivial⟩⟩ ?_
    refine er [] [] ⟨.rs ad0 0 data0.length 1 :: Ay8 (.int .i64 i3 :: .any :: .any :: .int .i64 (i64.wrap (k2 - (1 : Int))) :: Ay21 []), [], h10⟩ ((True) ∧ True) (by kernel_rfl) ⟨trivial, trivial⟩ ?_
    exact ⟨((data3.set k2.toNat v8).set (i64.wrap (k2 - (1 : Int))).toNat v9, i64.wrap (k2 - (1 : Int))), ⟨.any, .any, .any, .any, .any, .any, .any, .any, .any, .any, .any, .any, .any, .any, h10, rfl, o10⟩, H⟩
  · have H := ifn c7 H
    refine ends_exit ?_
    have H := Option.some.inj H
    exact ⟨rfl, data3, k2, H, .rs ad0 0 data0.length 1, .int .i64 i3, .int .i64 k2, .any, .any, .any, .any, .any, .any, .any, .bool (decide (k2 > i3)), .any, .any, .any, .any, .any, .any, h8, rfl, o8⟩
def symMergeC.l4.R (L : Mem) (ad0 : Nat) (g4_ : FuncId) (cap4_ : List AV) (data0 : List Int) (a0 : Int) (m0 : Int) (b0 : Int) (cmp0 : Int → Int → Option (Int)) (σ : Int × Int) (s : St) : Prop :=
  match σ with
  | (start1, r3) => ∃ (g122 : AV) (g123 : AV) (g124 : AV) (g125 : AV) (g126 : AV) (g127 : AV) (g128 : AV) (g129 : AV) (g130 : AV) (g131 : AV) (g132 : AV) (g133 : AV) (g134 : AV) (g135 : AV) (h13 : AHeap), s = ⟨.rs ad0 0 data0.length 1 :: .int .i64 a0 :: .int .i64 m0 :: .int .i64 b0 :: .fn g4_ cap4_ :: Ay8 [.int .i64 (i64.wrap (shR .u64 (u64.wrap (i64.wrap (a0 + b0))) 1)), .int .i64 (i64.wrap (i64.wrap (shR .u64 (u64.wrap (i64.wrap (a0 + b0))) 1) + m0)), .int .i64 start1, .int .i64 r3, .int .i64 (i64.wrap (i64.wrap (i64.wrap (shR .u64 (u64.wrap (i64.wrap (a0 + b0))) 1) + m0) - (1 : Int))), .any, .any, g122, g123, g124, g125, g126, g127, g128, g129, g130, g131, g132, g133, g134, g135], [], h13⟩ ∧ Has h13 ((ad0, .sl data0.length 1 (eInt.l data0)) :: L)
def symMergeC.l4.Q (L : Mem) (ad0 : Nat) (g4_ : FuncId) (cap4_ : List AV) (data0 : List Int) (a0 : Int) (m0 : Int) (b0 : Int) (cmp0 : Int → Int → Option (Int)) (out : Int × Int) (e : Ex) (s : St) : Prop :=
  (e = .exit 8 ∧ ∃ (start1 : Int) (r3 : Int), (start1, r3) = out ∧ ∃ (x21_ : AV) (x22_ : AV) (x28_ : AV) (x33_ : AV) (x50_ : AV) (x58_ : AV) (x80_ : AV) (x85_ : AV) (x103_ : AV) (x110_ : AV) (x140_ : AV) (x151_ : AV) (x171_ : AV) (x185_ : AV) (x199_ : AV) (x213_ : AV) (h13 : AHeap), s = ⟨.rs ad0 0 data0.length 1 :: .int .i64 a0 :: .int .i64 m0 :: .int .i64 b0 :: .fn g4_ cap4_ :: Ay8 [.int .i64 (i64.wrap (shR .u64 (u64.wrap (i64.wrap (a0 + b0))) 1)), .int .i64 (i64.wrap (i64.wrap (shR .u64 (u64.wrap (i64.wrap (a0 + b0))) 1) + m0)), .int .i64 start1, x21_, x22_, .any, .any, x28_, x33_, x50_, x58_, x80_, x85_, x103_, x110_, x140_, x151_, x171_, x185_, x199_, x213_], [], h13⟩ ∧ Has h13 ((ad0, .sl data0.length 1 (eInt.l data0)) :: L))
theorem symMergeC.l4_ok (L : Mem) (ad0 : Nat) (g4_ : FuncId) (cap4_ : List AV) (data0 : List Int) (a0 : Int) (m0 : Int) (b0 : Int) (cmp0 : Int → Int → Option (Int))  {kk : Nat} (S120_ : S120 cf m kk) (hc4_ : canonArg (.fn g4_ cap4_) = .fn g4_ cap4_) (Hp4_ : ∀ h K, Has h (K ++ L) → ∀ (a0 : Int) (a1 : Int) r, cmp0 a0 a1 = some r → cf g4_ ([.int .i64 a0, .int .i64 a1] ++ cap4_) h = some (.int .i64 r, h))  {σ : Int × Int} {s : St} {out : Int × Int} (hr : symMergeC.l4.R L ad0 g4_ cap4_ data0 a0 m0 b0 cmp0 σ s) (H : (fun k σ => symMergeC.l4 m data0 a0 m0 b0 cmp0 k σ.1 σ.2) m σ = some out) : Enz Tryd.prog cf ann120 m (.loop g120L4) s (symMergeC.l4.Q L ad0 g4_ cap4_ data0 a0 m0 b0 cmp0 out) := by
  refine ends_loop (fun k σ => symMergeC.l4 m data0 a0 m0 b0 cmp0 k σ.1 σ.2) (symMergeC.l4.R L ad0 g4_ cap4_ data0 a0 m0 b0 cmp0) (symMergeC.l4.Q L ad0 g4_ cap4_ data0 a0 m0 b0 cmp0) (fun _ => rfl) ?_ hr H (fun _ _ _ h => h)
  clear hr H σ s out
  rintro k ⟨start1, r3⟩ s out ⟨g122, g123, g124, g125, g126, g127, g128, g129, g130, g131, g132, g133, g134, g135, h13, rfl, o13⟩ H
  have H : symMergeC.l4 m data0 a0 m0 b0 cmp0 (k + 1) start1 r3 = some out := H
  refine ends_of_eq g120L4_eq ?_
  refine ends_seq ?_
  refine sr [] [] ⟨.rs ad0 0 data0.length 1 :: .int .i64 a0 :: .int .i64 m0 :: .int .i64 b0 :: .fn g4_ cap4_ :: Ay8 (.int .i64 (i64.wrap (shR .u64 (u64.wrap (i64.wrap (a0 + b0))) 1)) :: .int .i64 (i64.wrap (i64.wrap (shR .u64 (u64.wrap (i64.wrap (a0 + b0))) 1) + m0)) :: .int .i64 start1 :: .int .i64 r3 :: .int .i64 (i64.wrap (i64.wrap (i64.wrap (shR .u64 (u64.wrap (i64.wrap (a0 + b0))) 1) + m0) - (1 : Int))) :: Ay11 (.bool (decide (start1 < r3)) :: Ay4 [])), [], h13⟩ ((True) ∧ True) (by kernel_rfl) ⟨trivial, trivial⟩ ?_
  refine ends_cond (decide (start1 < r3)) (by kernel_rfl) (fun c9 => ?_) (fun c9 => ?_)
  · have H := ifp c9 H
    refine ends_skip ?_
    refine ends_block ?_
    refine sr [] [] ⟨.rs ad0 0 data0.length 1 :: .int .i64 a0 :: .int .i64 m0 :: .int .i64 b0 :: .fn g4_ cap4_ :: Ay8 (.int .i64 (i64.wrap (shR .u64 (u64.wrap (i64.wrap (a0 + b0))) 1)) :: .int .i64 (i64.wrap (i64.wrap (shR .u64 (u64.wrap (i64.wrap (a0 + b0))) 1) + m0)) :: .int .i64 start1 :: .int .i64 r3 :: .int .i64 (i64.wrap (i64.wrap (i64.wrap (shR .u64 (u64.wrap (i64.wrap (a0 + b0))) 1) + m0) - (1 : Int))) :: .int .i64 (i64.wrap (shR .u64 (u64.wrap (i64.wrap (start1 + r3))) 1)) :: Ay15 []), [], h13⟩ ((True) ∧ True) (by kernel_rfl) ⟨trivial, trivial⟩ ?_
    refine ends_seq ?_
    obtain ⟨v12, e22, H⟩ := bsi H
    obtain ⟨v13, e23, H⟩ := bsi H
    obtain ⟨r4, e24, H⟩ := bsi H
    refine er [] [(5, .ptr ad0 (0 + (i64.wrap (i64.wrap (i64.wrap (i64.wrap (shR .u64 (u64.wrap (i64.wrap (a0 + b0))) 1) + m0) - (1 : Int)) - i64.wrap (shR .u64 (u64.wrap (i64.wrap (start1 + r3))) 1))).toNat * 1), none), (6, .int .i64 v12, none), (9, .ptr ad0 (0 + (i64.wrap (shR .u64 (u64.wrap (i64.wrap (start1 + r3))) 1)).toNat * 1), none), (10, .int .i64 v13, none), (11, .int .i64 r4, some h13)] ⟨.rs ad0 0 data0.length 1 :: .int .i64 a0 :: .int .i64 m0 :: .int .i64 b0 :: .fn g4_ cap4_ :: Ay8 (.int .i64 (i64.wrap (shR .u64 (u64.wrap (i64.wrap (a0 + b0))) 1)) :: .int .i64 (i64.wrap (i64.wrap (shR .u64 (u64.wrap (i64.wrap (a0 + b0))) 1) + m0)) :: .int .i64 start1 :: .int .i64 r3 :: .int .i64 (i64.wrap (i64.wrap (i64.wrap (shR .u64 (u64.wrap (i64.wrap (a0 + b0))) 1) + m0) - (1 : Int))) :: .int .i64 (i64.wrap (shR .u64 (u64.wrap (i64.wrap (start1 + r3))) 1)) :: Ay11 (.bool (!(decide (r4 < (0 : Int)))) :: Ay3 [])), [], h13⟩ ((True) ∧ indexAddrA Tryd.prog 42 (.rs ad0 0 data0.length 1) (.int .i64 (i64.wrap (i64.wrap (i64.wrap (i64.wrap (shR .u64 (u64.wrap (i64.wrap (a0 + b0))) 1) + m0) - (1 : Int)) - i64.wrap (shR .u64 (u64.wrap (i64.wrap (start1 + r3))) 1)))) = some (.ptr ad0 (0 + (i64.wrap (i64.wrap (i64.wrap (i64.wrap (shR .u64 (u64.wrap (i64.wrap (a0 + b0))) 1) + m0) - (1 : Int)) - i64.wrap (shR .u64 (u64.wrap (i64.wrap (start1 + r3))) 1))).toNat * 1)) ∧ loadH Tryd.prog h13 3 (.ptr ad0 (0 + (i64.wrap (i64.wrap (i64.wrap (i64.wrap (shR .u64 (u64.wrap (i64.wrap (a0 + b0))) 1) + m0) - (1 : Int)) - i64.wrap (shR .u64 (u64.wrap (i64.wrap (start1 + r3))) 1))).toNat * 1)) = some (.int .i64 v12) ∧ indexAddrA Tryd.prog 42 (.rs ad0 0 data0.length 1) (.int .i64 (i64.wrap (shR .u64 (u64.wrap (i64.wrap (start1 + r3))) 1))) = some (.ptr ad0 (0 + (i64.wrap (shR .u64 (u64.wrap (i64.wrap (start1 + r3))) 1)).toNat * 1)) ∧ loadH Tryd.prog h13 3 (.ptr ad0 (0 + (i64.wrap (shR .u64 (u64.wrap (i64.wrap (start1 + r3))) 1)).toNat * 1)) = some (.int .i64 v13) ∧ callO cf (.fn g4_ cap4_) [.int .i64 v12, .int .i64 v13] h13 = some (.int .i64 r4, h13) ∧ True) (by kernel_rfl) ⟨trivial, ⟨ia_ownL (E := eInt) (l := data0) (q := 0) T42 o13 rfl e22, ld_own0 (E := eInt) (l := data0) (q := 0) o13 rfl A3 e22 rfl, ia_ownL (E := eInt) (l := data0) (q := 0) T42 o13 rfl e23, ld_own0 (E := eInt) (l := data0) (q := 0) o13 rfl A3 e23 rfl, callO_of (by kernel_rfl) (Hp4_ h13 [(ad0, .sl data0.length 1 (eInt.l data0))] o13 _ _ _ e24), trivial⟩⟩ ?_
    refine ends_cond (!(decide (r4 < (0 : Int)))) (by kernel_rfl) (fun c10 => ?_) (fun c10 => ?_)
    · have H := ifp c10 H
      refine er [] [] ⟨.rs ad0 0 data0.length 1 :: .int .i64 a0 :: .int .i64 m0 :: .int .i64 b0 :: .fn g4_ cap4_ :: Ay8 (.int .i64 (i64.wrap (shR .u64 (u64.wrap (i64.wrap (a0 + b0))) 1)) :: .int .i64 (i64.wrap (i64.wrap (shR .u64 (u64.wrap (i64.wrap (a0 + b0))) 1) + m0)) :: .int .i64 (i64.wrap (i64.wrap (shR .u64 (u64.wrap (i64.wrap (start1 + r3))) 1) + (1 : Int))) :: .int .i64 r3 :: .int .i64 (i64.wrap (i64.wrap (i64.wrap (shR .u64 (u64.wrap (i64.wrap (a0 + b0))) 1) + m0) - (1 : Int))) :: Ay16 []), [], h13⟩ ((True) ∧ True) (by kernel_rfl) ⟨trivial, trivial⟩ ?_
      exact ⟨(i64.wrap (i64.wrap (shR .u64 (u64.wrap (i64.wrap (start1 + r3))) 1) + (1 : Int)), r3), ⟨.any, .any, .any, .any, .any, .any, .any, .any, .any, .any, .any, .any, .any, .any, h13, rfl, o13⟩, H⟩
    · have H := ifn c10 H
      refine er [] [] ⟨.rs ad0 0 data0.length 1 :: .int .i64 a0 :: .int .i64 m0 :: .int .i64 b0 :: .fn g4_ cap4_ :: Ay8 (.int .i64 (i64.wrap (shR .u64 (u64.wrap (i64.wrap (a0 + b0))) 1)) :: .int .i64 (i64.wrap (i64.wrap (shR .u64 (u64.wrap (i64.wrap (a0 + b0))) 1) + m0)) :: .int .i64 start1 :: .int .i64 (i64.wrap (shR .u64 (u64.wrap (i64.wrap (start1 + r3))) 1)) :: .int .i64 (i64.wrap (i64.wrap (i64.wrap (shR .u64 (u64.wrap (i64.wrap (a0 + b0))) 1) + m0) - (1 : Int))) :: Ay16 []), [], h13⟩ ((True) ∧ True) (by kernel_rfl) ⟨trivial, trivial⟩ ?_
      exact ⟨(start1, i64.wrap (shR .u64 (u64.wrap (i64.wrap (start1 + r3))) 1)), ⟨.any, .any, .any, .any, .any, .any, .any, .any, .any, .any, .any, .any, .any, .any, h13, rfl, o13⟩, H⟩
  · have H := ifn c9 H
    refine ends_exit ?_
    have H := Option.some.inj H
    exact ⟨rfl, start1, r3, H, .int .i64 r3, .int .i64 (i64.wrap (i64.wrap (i64.wrap (shR .u64 (u64.wrap (i64.wrap (a0 + b0))) 1) + m0) - (1 : Int))), .any, .any, .any, .any, .any, .any, .any, .any, .any, .bool (decide (start1 < r3)), .any, .any, .any, .any, h13, rfl, o13⟩
theorem symMergeC_body {ann : FuncId → Ann} (ha : ann 120 = ann120) (S122_ : S122 cf m) (data0 : List Int) (a0 : Int) (m0 : Int) (b0 : Int) (cmp0 : Int → Int → Option (Int)) (h : AHeap) (L : Mem) (ad0 : Nat) (g4_ : FuncId) (cap4_ : List AV)  {kk : Nat} (S120_ : S120 cf m kk) (hc4_ : canonArg (.fn g4_ cap4_) = .fn g4_ cap4_) (Hp4_ : ∀ h K, Has h (K ++ L) → ∀ (a0 : Int) (a1 : Int) r, cmp0 a0 a1 = some r → cf g4_ ([.int .i64 a0, .int .i64 a1] ++ cap4_) h = some (.int .i64 r, h)) (o : Has h ((ad0, .sl data0.length 1 (eInt.l data0)) :: L)) {out : (List Int)} (H : symMergeC.f m (kk + 1) data0 a0 m0 b0 cmp0 = some out) :
    ∃ r h', bodyA Tryd.prog ann cf m 120 [.rs ad0 0 data0.length 1, .int .i64 a0, .int .i64 m0, .int .i64 b0, .fn g4_ cap4_] h = some (r, h') ∧ r = .tup [] ∧ Has h' ((ad0, .sl data0.length 1 (eInt.l out)) :: L) := by
  refine body_of_ends2 (fn := Tryd.f120) ha Tryd.func120 (by kernel_rfl) (by kernel_rfl) ?_
  refine ends_fin (Q := fun s => symMergeC.fin L ad0 data0 a0 m0 b0 cmp0 out s) (fun _ _ ⟨h1, h2, h3⟩ => ⟨h1, _, h2, rfl, h3⟩) ?_
  refine ends_of_eq g120_eq ?_
  have H : symMergeC.b m (symMergeC.f m kk) data0 a0 m0 b0 cmp0 = some out := H
  unfold symMergeC.b at H
  show Enz _ cf ann120 m _ ⟨.rs ad0 0 data0.length 1 :: .int .i64 a0 :: .int .i64 m0 :: .int .i64 b0 :: .fn g4_ cap4_ :: Ay29 [], [], h⟩ _
  refine ends_seq ?_
  refine sr [] [] ⟨.rs ad0 0 data0.length 1 :: .int .i64 a0 :: .int .i64 m0 :: .int .i64 b0 :: .fn g4_ cap4_ :: Ay15 (.bool ((i64.wrap (m0 - a0)) == (1 : Int)) :: Ay13 []), [], h⟩ ((True) ∧ True) (by kernel_rfl) ⟨trivial, trivial⟩ ?_
  refine ends_cond ((i64.wrap (m0 - a0)) == (1 : Int)) (by kernel_rfl) (fun c0 => ?_) (fun c0 => ?_)
  · have H := ifp c0 H
    refine sr [] [] ⟨.rs ad0 0 data0.length 1 :: .int .i64 a0 :: .any :: .int .i64 b0 :: .fn g4_ cap4_ :: .int .i64 m0 :: Ay28 [], [], h⟩ ((True) ∧ True) (by kernel_rfl) ⟨trivial, trivial⟩ ?_
    refine sr [] [] ⟨.rs ad0 0 data0.length 1 :: .int .i64 a0 :: .any :: .any :: .fn g4_ cap4_ :: .int .i64 m0 :: .int .i64 b0 :: Ay27 [], [], h⟩ ((True) ∧ True) (by kernel_rfl) ⟨trivial, trivial⟩ ?_
    refine ends_seq ?_
    refine ends_block ?_
    obtain ⟨out0, e3, H⟩ := bsi H
    refine ends_mono (symMergeC.l0_ok L ad0 g4_ cap4_ data0 a0 m0 b0 cmp0  S120_ hc4_ Hp4_  (σ := (m0, b0)) ⟨.any, .any, .any, .any, .any, .any, .any, .any, .any, .any, .any, .any, .any, .any, h, rfl, o⟩ e3) ?_
    rintro e s ⟨rfl, i1, j1, rfl, g14, g15, g16, g17, g18, g19, g20, g21, g22, g23, g24, g25, g26, g27, g28, g29, h1, rfl, o1⟩
    try dsimp only at H
    refine ends_seq ?_
    refine sr [] [] ⟨.rs ad0 0 data0.length 1 :: Ay4 (.int .i64 i1 :: .any :: .any :: .int .i64 a0 :: Ay25 []), [], h1⟩ ((True) ∧ True) (by kernel_rfl) ⟨trivial, trivial⟩ ?_
    refine ends_block ?_
    obtain ⟨out1, e10, H⟩ := bsi H
    refine ends_mono (symMergeC.l1_ok L ad0 g4_ cap4_ data0 a0 m0 b0 cmp0 i1  S120_ hc4_ Hp4_  (σ := (data0, a0)) ⟨.any, .any, .any, .any, .any, .any, .any, .any, .any, .any, .any, .any, .any, .any, h1, rfl, o1⟩ e10) ?_
    rintro e s ⟨rfl, data2, k1, rfl, g44, g45, g46, g47, g48, g49, g50, g51, g52, g53, g54, g55, g56, g57, g58, g59, g60, h5, rfl, o5⟩
    try dsimp only at H
    refine ends_ret ?_
    have H := Option.some.inj H
    subst H
    exact ⟨.inl rfl, ⟨by kernel_rfl, o5⟩⟩
  · have H := ifn c0 H
    refine ends_skip ?_
    refine ends_seq ?_
    refine sr [] [] ⟨.rs ad0 0 data0.length 1 :: .int .i64 a0 :: .int .i64 m0 :: .int .i64 b0 :: .fn g4_ cap4_ :: Ay19 (.bool ((i64.wrap (b0 - m0)) == (1 : Int)) :: Ay9 []), [], h⟩ ((True) ∧ True) (by kernel_rfl) ⟨trivial, trivial⟩ ?_
    refine ends_cond ((i64.wrap (b0 - m0)) == (1 : Int)) (by kernel_rfl) (fun c4 => ?_) (fun c4 => ?_)
    · have H := ifp c4 H
      refine sr [] [] ⟨.rs ad0 0 data0.length 1 :: .any :: .int .i64 m0 :: .any :: .fn g4_ cap4_ :: Ay4 (.int .i64 a0 :: Ay24 []), [], h⟩ ((True) ∧ True) (by kernel_rfl) ⟨trivial, trivial⟩ ?_
      refine sr [] [] ⟨.rs ad0 0 data0.length 1 :: .any :: .int .i64 m0 :: .any :: .fn g4_ cap4_ :: Ay4 (.int .i64 a0 :: .int .i64 m0 :: Ay23 []), [], h⟩ ((True) ∧ True) (by kernel_rfl) ⟨trivial, trivial⟩ ?_
      refine ends_seq ?_
      refine ends_block ?_
      obtain ⟨out2, e14, H⟩ := bsi H
      refine ends_mono (symMergeC.l2_ok L ad0 g4_ cap4_ data0 a0 m0 b0 cmp0  S120_ hc4_ Hp4_  (σ := (a0, m0)) ⟨.any, .any, .any, .any, .any, .any, .any, .any, .any, .any, .any, .any, .any, .any, h, rfl, o⟩ e14) ?_
      rintro e s ⟨rfl, i3, j3, rfl, g75, g76, g77, g78, g79, g80, g81, g82, g83, g84, g85, g86, g87, g88, g89, g90, h7, rfl, o7⟩
      try dsimp only at H
      refine ends_seq ?_
      refine sr [] [] ⟨.rs ad0 0 data0.length 1 :: Ay8 (.int .i64 i3 :: .any :: .any :: .int .i64 m0 :: Ay21 []), [], h7⟩ ((True) ∧ True) (by kernel_rfl) ⟨trivial, trivial⟩ ?_
      refine ends_block ?_
      obtain ⟨out3, e21, H⟩ := bsi H
      refine ends_mono (symMergeC.l3_ok L ad0 g4_ cap4_ data0 a0 m0 b0 cmp0 i3  S120_ hc4_ Hp4_  (σ := (data0, m0)) ⟨.any, .any, .any, .any, .any, .any, .any, .any, .any, .any, .any, .any, .any, .any, h7, rfl, o7⟩ e21) ?_
      rintro e s ⟨rfl, data4, k3, rfl, g105, g106, g107, g108, g109, g110, g111, g112, g113, g114, g115, g116, g117, g118, g119, g120, g121, h11, rfl, o11⟩
      try dsimp only at H
      refine ends_ret ?_
      have H := Option.some.inj H
      subst H
      exact ⟨.inl rfl, ⟨by kernel_rfl, o11⟩⟩
    · have H := ifn c4 H
      refine ends_skip ?_
      refine sr [] [] ⟨.rs ad0 0 data0.length 1 :: .int .i64 a0 :: .int .i64 m0 :: .int .i64 b0 :: .fn g4_ cap4_ :: Ay8 (.int .i64 (i64.wrap (shR .u64 (u64.wrap (i64.wrap (a0 + b0))) 1)) :: Ay20 []), [], h⟩ ((True) ∧ True) (by kernel_rfl) ⟨trivial, trivial⟩ ?_
      refine sr [] [] ⟨.rs ad0 0 data0.length 1 :: .int .i64 a0 :: .int .i64 m0 :: .int .i64 b0 :: .fn g4_ cap4_ :: Ay8 (.int .i64 (i64.wrap (shR .u64 (u64.wrap (i64.wrap (a0 + b0))) 1)) :: .int .i64 (i64.wrap (i64.wrap (shR .u64 (u64.wrap (i64.wrap (a0 + b0))) 1) + m0)) :: Ay19 []), [], h⟩ ((True) ∧ True) (by kernel_rfl) ⟨trivial, trivial⟩ ?_
      refine sr [] [] ⟨.rs ad0 0 data0.length 1 :: .int .i64 a0 :: .int .i64 m0 :: .int .i64 b0 :: .fn g4_ cap4_ :: Ay8 (.int .i64 (i64.wrap (shR .u64 (u64.wrap (i64.wrap (a0 + b0))) 1)) :: .int .i64 (i64.wrap (i64.wrap (shR .u64 (u64.wrap (i64.wrap (a0 + b0))) 1) + m0)) :: Ay19 []), [], h⟩ ((True) ∧ True) (by kernel_rfl) ⟨trivial, trivial⟩ ?_
      obtain ⟨jn0, hj0, H⟩ := jn_elim H
      refine ends_seq_join (S := fun (σ : Int × Int) s => match σ with | (start0, r2) => ∃ (h12 : AHeap), s = ⟨.rs ad0 0 data0.length 1 :: .int .i64 a0 :: .int .i64 m0 :: .int .i64 b0 :: .fn g4_ cap4_ :: Ay8 (.int .i64 (i64.wrap (shR .u64 (u64.wrap (i64.wrap (a0 + b0))) 1)) :: .int .i64 (i64.wrap (i64.wrap (shR .u64 (u64.wrap (i64.wrap (a0 + b0))) 1) + m0)) :: .int .i64 start0 :: .int .i64 r2 :: Ay17 []), [], h12⟩ ∧ Has h12 ((ad0, .sl data0.length 1 (eInt.l data0)) :: L)) jn0 H ?_ ?_
      · rintro ⟨start0, r2⟩ s ⟨h12, rfl, o12⟩ H
        have H := (hj0 _).symm.trans H
        try dsimp only at H
        refine sr [] [] ⟨.rs ad0 0 data0.length 1 :: .int .i64 a0 :: .int .i64 m0 :: .int .i64 b0 :: .fn g4_ cap4_ :: Ay8 (.int .i64 (i64.wrap (shR .u64 (u64.wrap (i64.wrap (a0 + b0))) 1)) :: .int .i64 (i64.wrap (i64.wrap (shR .u64 (u64.wrap (i64.wrap (a0 + b0))) 1) + m0)) :: .int .i64 start0 :: .int .i64 r2 :: .int .i64 (i64.wrap (i64.wrap (i64.wrap (shR .u64 (u64.wrap (i64.wrap (a0 + b0))) 1) + m0) - (1 : Int))) :: Ay16 []), [], h12⟩ ((True) ∧ True) (by kernel_rfl) ⟨trivial, trivial⟩ ?_
        refine ends_seq ?_
        refine ends_block ?_
        obtain ⟨out4, e25, H⟩ := bsi H
        refine ends_mono (symMergeC.l4_ok L ad0 g4_ cap4_ data0 a0 m0 b0 cmp0  S120_ hc4_ Hp4_  (σ := (start0, r2)) ⟨.any, .any, .any, .any, .any, .any, .any, .any, .any, .any, .any, .any, .any, .any, h12, rfl, o12⟩ e25) ?_
        rintro e s ⟨rfl, start2, r5, rfl, g136, g137, g138, g139, g140, g141, g142, g143, g144, g145, g146, g147, g148, g149, g150, g151, h14, rfl, o14⟩
        try dsimp only at H
        refine sr [] [] ⟨.rs ad0 0 data0.length 1 :: .int .i64 a0 :: .int .i64 m0 :: .int .i64 b0 :: .fn g4_ cap4_ :: Ay8 (.int .i64 (i64.wrap (shR .u64 (u64.wrap (i64.wrap (a0 + b0))) 1)) :: .any :: .int .i64 start2 :: Ay3 (.int .i64 (i64.wrap (i64.wrap (i64.wrap (shR .u64 (u64.wrap (i64.wrap (a0 + b0))) 1) + m0) - start2)) :: Ay14 [])), [], h14⟩ ((True) ∧ True) (by kernel_rfl) ⟨trivial, trivial⟩ ?_
        obtain ⟨jn1, hj1, H⟩ := jn_elim H
        refine ends_seq_join (S := fun (σ : (List Int)) s => match σ with | data5 => ∃ (g152 : AV) (g153 : AV) (h16 : AHeap), s = ⟨.rs ad0 0 data0.length 1 :: .int .i64 a0 :: g152 :: .int .i64 b0 :: .fn g4_ cap4_ :: Ay8 (.int .i64 (i64.wrap (shR .u64 (u64.wrap (i64.wrap (a0 + b0))) 1)) :: .any :: .int .i64 start2 :: Ay3 (.int .i64 (i64.wrap (i64.wrap (i64.wrap (shR .u64 (u64.wrap (i64.wrap (a0 + b0))) 1) + m0) - start2)) :: Ay11 [g153, .any, .any])), [], h16⟩ ∧ Has h16 ((ad0, .sl data0.length 1 (eInt.l data5)) :: L)) jn1 H ?_ ?_
        · rintro data5 s ⟨g152, g153, h16, rfl, o16⟩ H
          have H := (hj1 _).symm.trans H
          try dsimp only at H
          obtain ⟨jn2, hj2, H⟩ := jn_elim H
          refine ends_seq_join (S := fun (σ : (List Int)) s => match σ with | data6 => ∃ (g154 : AV) (g155 : AV) (g156 : AV) (h18 : AHeap), s = ⟨.rs ad0 0 data0.length 1 :: g154 :: .any :: .int .i64 b0 :: .fn g4_ cap4_ :: Ay8 (.int .i64 (i64.wrap (shR .u64 (u64.wrap (i64.wrap (a0 + b0))) 1)) :: .any :: g155 :: Ay3 (.int .i64 (i64.wrap (i64.wrap (i64.wrap (shR .u64 (u64.wrap (i64.wrap (a0 + b0))) 1) + m0) - start2)) :: Ay12 [g156, .any])), [], h18⟩ ∧ Has h18 ((ad0, .sl data0.length 1 (eInt.l data6)) :: L)) jn2 H ?_ ?_
          · rintro data6 s ⟨g154, g155, g156, h18, rfl, o18⟩ H
            have H := (hj2 _).symm.trans H
            try dsimp only at H
            refine ends_seq ?_
            rcases bft (decide ((i64.wrap (shR .u64 (u64.wrap (i64.wrap (a0 + b0))) 1)) < (i64.wrap (i64.wrap (i64.wrap (shR .u64 (u64.wrap (i64.wrap (a0 + b0))) 1) + m0) - start2)))) with c17 | c17
            · have H := ifp c17 H
              refine er [] [(3, .bool true, none)] ⟨.rs ad0 0 data0.length 1 :: .any :: .any :: .int .i64 b0 :: .fn g4_ cap4_ :: Ay8 (.int .i64 (i64.wrap (shR .u64 (u64.wrap (i64.wrap (a0 + b0))) 1)) :: Ay5 (.int .i64 (i64.wrap (i64.wrap (i64.wrap (shR .u64 (u64.wrap (i64.wrap (a0 + b0))) 1) + m0) - start2)) :: Ay13 [.bool (decide ((i64.wrap (i64.wrap (i64.wrap (shR .u64 (u64.wrap (i64.wrap (a0 + b0))) 1) + m0) - start2)) < b0))])), [], h18⟩ ((True) ∧ AV.bool (decide ((i64.wrap (shR .u64 (u64.wrap (i64.wrap (a0 + b0))) 1)) < (i64.wrap (i64.wrap (i64.wrap (shR .u64 (u64.wrap (i64.wrap (a0 + b0))) 1) + m0) - start2)))) = AV.bool true ∧ True) (by kernel_rfl) ⟨trivial, ⟨congrArg AV.bool c17, trivial⟩⟩ ?_
              refine ends_cond (decide ((i64.wrap (i64.wrap (i64.wrap (shR .u64 (u64.wrap (i64.wrap (a0 + b0))) 1) + m0) - start2)) < b0)) (by kernel_rfl) (fun c18 => ?_) (fun c18 => ?_)
              · have H := ifp c18 H
                obtain ⟨x2, e30, H⟩ := bsi H
                obtain ⟨h19, e31, o19⟩ := S120_ _ _ _ _ _ _ e30 h18 _ _ _ (o18) g4_ cap4_ hc4_ (fun h' K' o' => Hp4_ h' (K' ++ []) (by simpa only [List.append_assoc, List.cons_append, List.nil_append] using o')) [.rs ad0 0 data0.length 1, .int .i64 (i64.wrap (shR .u64 (u64.wrap (i64.wrap (a0 + b0))) 1)), .int .i64 (i64.wrap (i64.wrap (i64.wrap (shR .u64 (u64.wrap (i64.wrap (a0 + b0))) 1) + m0) - start2)), .int .i64 b0, .fn g4_ cap4_] (can_cons (rfl) (can_cons (can_pure (pu_int)) (can_cons (can_pure (pu_int)) (can_cons (can_pure (pu_int)) (can_cons (hc4_) (can_nil))))))
                refine er [] [(5, .tup [], some h19)] ⟨Ay34 [], [], h19⟩ ((True) ∧ callO cf (.fn 120 []) [.rs ad0 0 data0.length 1, .int .i64 (i64.wrap (shR .u64 (u64.wrap (i64.wrap (a0 + b0))) 1)), .int .i64 (i64.wrap (i64.wrap (i64.wrap (shR .u64 (u64.wrap (i64.wrap (a0 + b0))) 1) + m0) - start2)), .int .i64 b0, .fn g4_ cap4_] h18 = some (.tup [], h19) ∧ True) (by kernel_rfl) ⟨trivial, ⟨callO_of (by kernel_rfl) e31, trivial⟩⟩ ?_
                have H := Option.some.inj H
                subst H
                exact ⟨.inr rfl, ⟨by kernel_rfl, o19⟩⟩
              · have H := ifn c18 H
                refine ends_skip ?_
                have H := Option.some.inj H
                subst H
                exact ⟨.inr rfl, ⟨by kernel_rfl, o18⟩⟩
            · have H := ifn c17 H
              refine er [] [(3, .bool false, none)] ⟨.rs ad0 0 data0.length 1 :: .any :: .any :: .int .i64 b0 :: .fn g4_ cap4_ :: Ay8 (.int .i64 (i64.wrap (shR .u64 (u64.wrap (i64.wrap (a0 + b0))) 1)) :: Ay5 (.int .i64 (i64.wrap (i64.wrap (i64.wrap (shR .u64 (u64.wrap (i64.wrap (a0 + b0))) 1) + m0) - start2)) :: Ay13 [.bool false])), [], h18⟩ ((True) ∧ AV.bool (decide ((i64.wrap (shR .u64 (u64.wrap (i64.wrap (a0 + b0))) 1)) < (i64.wrap (i64.wrap (i64.wrap (shR .u64 (u64.wrap (i64.wrap (a0 + b0))) 1) + m0) - start2)))) = AV.bool false ∧ True) (by kernel_rfl) ⟨trivial, ⟨congrArg AV.bool c17, trivial⟩⟩ ?_
              refine ends_cond false (by kernel_rfl) (fun c19 => ?_) (fun c19 => ?_)
              · cases c19
              refine ends_skip ?_
              have H := Option.some.inj H
              subst H
              exact ⟨.inr rfl, ⟨by kernel_rfl, o18⟩⟩
          clear hj2
          intro jn2_
          refine ends_seq ?_
          refine ends_seq ?_
          rcases bft (decide (a0 < start2)) with c14 | c14
          · have H := ifp c14 H
            refine er [] [(3, .bool true, none)] ⟨.rs ad0 0 data0.length 1 :: .int .i64 a0 :: .any :: .int .i64 b0 :: .fn g4_ cap4_ :: Ay8 (.int .i64 (i64.wrap (shR .u64 (u64.wrap (i64.wrap (a0 + b0))) 1)) :: .any :: .int .i64 start2 :: Ay3 (.int .i64 (i64.wrap (i64.wrap (i64.wrap (shR .u64 (u64.wrap (i64.wrap (a0 + b0))) 1) + m0) - start2)) :: Ay12 [.bool (decide (start2 < (i64.wrap (shR .u64 (u64.wrap (i64.wrap (a0 + b0))) 1)))), .any])), [], h16⟩ ((True) ∧ AV.bool (decide (a0 < start2)) = AV.bool true ∧ True) (by kernel_rfl) ⟨trivial, ⟨congrArg AV.bool c14, trivial⟩⟩ ?_
            refine ends_cond (decide (start2 < (i64.wrap (shR .u64 (u64.wrap (i64.wrap (a0 + b0))) 1)))) (by kernel_rfl) (fun c15 => ?_) (fun c15 => ?_)
            · have H := ifp c15 H
              obtain ⟨x1, e28, H⟩ := bsi H
              obtain ⟨h17, e29, o17⟩ := S120_ _ _ _ _ _ _ e28 h16 _ _ _ (o16) g4_ cap4_ hc4_ (fun h' K' o' => Hp4_ h' (K' ++ []) (by simpa only [List.append_assoc, List.cons_append, List.nil_append] using o')) [.rs ad0 0 data0.length 1, .int .i64 a0, .int .i64 start2, .int .i64 (i64.wrap (shR .u64 (u64.wrap (i64.wrap (a0 + b0))) 1)), .fn g4_ cap4_] (can_cons (rfl) (can_cons (can_pure (pu_int)) (can_cons (can_pure (pu_int)) (can_cons (can_pure (pu_int)) (can_cons (hc4_) (can_nil))))))
              refine er [] [(5, .tup [], some h17)] ⟨.rs ad0 0 data0.length 1 :: .any :: .any :: .int .i64 b0 :: .fn g4_ cap4_ :: Ay8 (.int .i64 (i64.wrap (shR .u64 (u64.wrap (i64.wrap (a0 + b0))) 1)) :: Ay5 (.int .i64 (i64.wrap (i64.wrap (i64.wrap (shR .u64 (u64.wrap (i64.wrap (a0 + b0))) 1) + m0) - start2)) :: Ay14 [])), [], h17⟩ ((True) ∧ callO cf (.fn 120 []) [.rs ad0 0 data0.length 1, .int .i64 a0, .int .i64 start2, .int .i64 (i64.wrap (shR .u64 (u64.wrap (i64.wrap (a0 + b0))) 1)), .fn g4_ cap4_] h16 = some (.tup [], h17) ∧ True) (by kernel_rfl) ⟨trivial, ⟨callO_of (by kernel_rfl) e29, trivial⟩⟩ ?_
              exact jn2_ x1 _ ⟨.any, .any, .any, h17, rfl, o17⟩ H
            · have H := ifn c15 H
              refine ends_skip ?_
              exact jn2_ data5 _ ⟨.int .i64 a0, .int .i64 start2, .bool (decide (start2 < (i64.wrap (shR .u64 (u64.wrap (i64.wrap (a0 + b0))) 1)))), h16, rfl, o16⟩ H
          · have H := ifn c14 H
            refine er [] [(3, .bool false, none)] ⟨.rs ad0 0 data0.length 1 :: .int .i64 a0 :: .any :: .int .i64 b0 :: .fn g4_ cap4_ :: Ay8 (.int .i64 (i64.wrap (shR .u64 (u64.wrap (i64.wrap (a0 + b0))) 1)) :: .any :: .int .i64 start2 :: Ay3 (.int .i64 (i64.wrap (i64.wrap (i64.wrap (shR .u64 (u64.wrap (i64.wrap (a0 + b0))) 1) + m0) - start2)) :: Ay12 [.bool false, .any])), [], h16⟩ ((True) ∧ AV.bool (decide (a0 < start2)) = AV.bool false ∧ True) (by kernel_rfl) ⟨trivial, ⟨congrArg AV.bool c14, trivial⟩⟩ ?_
            refine ends_cond false (by kernel_rfl) (fun c16 => ?_) (fun c16 => ?_)
            · cases c16
            refine ends_skip ?_
            exact jn2_ data5 _ ⟨.int .i64 a0, .int .i64 start2, .bool false, h16, rfl, o16⟩ H
        clear hj1
        intro jn1_
        refine ends_seq ?_
        refine ends_seq ?_
        rcases bft (decide (start2 < m0)) with c11 | c11
        · have H := ifp c11 H
          refine er [] [(3, .bool true, none)] ⟨.rs ad0 0 data0.length 1 :: .int .i64 a0 :: .int .i64 m0 :: .int .i64 b0 :: .fn g4_ cap4_ :: Ay8 (.int .i64 (i64.wrap (shR .u64 (u64.wrap (i64.wrap (a0 + b0))) 1)) :: .any :: .int .i64 start2 :: Ay3 (.int .i64 (i64.wrap (i64.wrap (i64.wrap (shR .u64 (u64.wrap (i64.wrap (a0 + b0))) 1) + m0) - start2)) :: Ay11 [.bool (decide (m0 < (i64.wrap (i64.wrap (i64.wrap (shR .u64 (u64.wrap (i64.wrap (a0 + b0))) 1) + m0) - start2)))), .any, .any])), [], h14⟩ ((True) ∧ AV.bool (decide (start2 < m0)) = AV.bool true ∧ True) (by kernel_rfl) ⟨trivial, ⟨congrArg AV.bool c11, trivial⟩⟩ ?_
          refine ends_cond (decide (m0 < (i64.wrap (i64.wrap (i64.wrap (shR .u64 (u64.wrap (i64.wrap (a0 + b0))) 1) + m0) - start2)))) (by kernel_rfl) (fun c12 => ?_) (fun c12 => ?_)
          · have H := ifp c12 H
            obtain ⟨x0, e26, H⟩ := bsi H
            obtain ⟨h15, e27, o15⟩ := S122_ _ _ _ _ _ _ e26 h14 _ _ _ (o14) g4_ cap4_ hc4_ (fun h' K' o' => Hp4_ h' (K' ++ []) (by simpa only [List.append_assoc, List.cons_append, List.nil_append] using o')) [.rs ad0 0 data0.length 1, .int .i64 start2, .int .i64 m0, .int .i64 (i64.wrap (i64.wrap (i64.wrap (shR .u64 (u64.wrap (i64.wrap (a0 + b0))) 1) + m0) - start2)), .fn g4_ cap4_] (can_cons (rfl) (can_cons (can_pure (pu_int)) (can_cons (can_pure (pu_int)) (can_cons (can_pure (pu_int)) (can_cons (hc4_) (can_nil))))))
            refine er [] [(5, .tup [], some h15)] ⟨.rs ad0 0 data0.length 1 :: .int .i64 a0 :: .any :: .int .i64 b0 :: .fn g4_ cap4_ :: Ay8 (.int .i64 (i64.wrap (shR .u64 (u64.wrap (i64.wrap (a0 + b0))) 1)) :: .any :: .int .i64 start2 :: Ay3 (.int .i64 (i64.wrap (i64.wrap (i64.wrap (shR .u64 (u64.wrap (i64.wrap (a0 + b0))) 1) + m0) - start2)) :: Ay14 [])), [], h15⟩ ((True) ∧ callO cf (.fn 122 []) [.rs ad0 0 data0.length 1, .int .i64 start2, .int .i64 m0, .int .i64 (i64.wrap (i64.wrap (i64.wrap (shR .u64 (u64.wrap (i64.wrap (a0 + b0))) 1) + m0) - start2)), .fn g4_ cap4_] h14 = some (.tup [], h15) ∧ True) (by kernel_rfl) ⟨trivial, ⟨callO_of (by kernel_rfl) e27, trivial⟩⟩ ?_
            exact jn1_ x0 _ ⟨.any, .any, h15, rfl, o15⟩ H
          · have H := ifn c12 H
            refine ends_skip ?_
            exact jn1_ data0 _ ⟨.int .i64 m0, .bool (decide (m0 < (i64.wrap (i64.wrap (i64.wrap (shR .u64 (u64.wrap (i64.wrap (a0 + b0))) 1) + m0) - start2)))), h14, rfl, o14⟩ H
        · have H := ifn c11 H
          refine er [] [(3, .bool false, none)] ⟨.rs ad0 0 data0.length 1 :: .int .i64 a0 :: .int .i64 m0 :: .int .i64 b0 :: .fn g4_ cap4_ :: Ay8 (.int .i64 (i64.wrap (shR .u64 (u64.wrap (i64.wrap (a0 + b0))) 1)) :: .any :: .int .i64 start2 :: Ay3 (.int .i64 (i64.wrap (i64.wrap (i64.wrap (shR .u64 (u64.wrap (i64.wrap (a0 + b0))) 1) + m0) - start2)) :: Ay11 [.bool false, .any, .any])), [], h14⟩ ((True) ∧ AV.bool (decide (start2 < m0)) = AV.bool false ∧ True) (by kernel_rfl) ⟨trivial, ⟨congrArg AV.bool c11, trivial⟩⟩ ?_
          refine ends_cond false (by kernel_rfl) (fun c13 => ?_) (fun c13 => ?_)
          · cases c13
          refine ends_skip ?_
          exact jn1_ data0 _ ⟨.int .i64 m0, .bool false, h14, rfl, o14⟩ H
      clear hj0
      intro jn0_
      refine ends_seq ?_
      refine sr [] [] ⟨.rs ad0 0 data0.length 1 :: .int .i64 a0 :: .int .i64 m0 :: .int .i64 b0 :: .fn g4_ cap4_ :: Ay8 (.int .i64 (i64.wrap (shR .u64 (u64.wrap (i64.wrap (a0 + b0))) 1)) :: .int .i64 (i64.wrap (i64.wrap (shR .u64 (u64.wrap (i64.wrap (a0 + b0))) 1) + m0)) :: Ay13 (.bool (decide (m0 > (i64.wrap (shR .u64 (u64.wrap (i64.wrap (a0 + b0))) 1)))) :: Ay5 [])), [], h⟩ ((True) ∧ True) (by kernel_rfl) ⟨trivial, trivial⟩ ?_
      refine ends_cond (decide (m0 > (i64.wrap (shR .u64 (u64.wrap (i64.wrap (a0 + b0))) 1)))) (by kernel_rfl) (fun c8 => ?_) (fun c8 => ?_)
      · have H := ifp c8 H
        refine sr [] [] ⟨.rs ad0 0 data0.length 1 :: .int .i64 a0 :: .int .i64 m0 :: .int .i64 b0 :: .fn g4_ cap4_ :: Ay8 (.int .i64 (i64.wrap (shR .u64 (u64.wrap (i64.wrap (a0 + b0))) 1)) :: .int .i64 (i64.wrap (i64.wrap (shR .u64 (u64.wrap (i64.wrap (a0 + b0))) 1) + m0)) :: .int .i64 (i64.wrap (i64.wrap (i64.wrap (shR .u64 (u64.wrap (i64.wrap (a0 + b0))) 1) + m0) - b0)) :: Ay18 []), [], h⟩ ((True) ∧ True) (by kernel_rfl) ⟨trivial, trivial⟩ ?_
        refine er [] [] ⟨.rs ad0 0 data0.length 1 :: .int .i64 a0 :: .int .i64 m0 :: .int .i64 b0 :: .fn g4_ cap4_ :: Ay8 (.int .i64 (i64.wrap (shR .u64 (u64.wrap (i64.wrap (a0 + b0))) 1)) :: .int .i64 (i64.wrap (i64.wrap (shR .u64 (u64.wrap (i64.wrap (a0 + b0))) 1) + m0)) :: .int .i64 (i64.wrap (i64.wrap (i64.wrap (shR .u64 (u64.wrap (i64.wrap (a0 + b0))) 1) + m0) - b0)) :: .int .i64 (i64.wrap (shR .u64 (u64.wrap (i64.wrap (a0 + b0))) 1)) :: Ay17 []), [], h⟩ ((True) ∧ True) (by kernel_rfl) ⟨trivial, trivial⟩ ?_
        exact jn0_ (i64.wrap (i64.wrap (i64.wrap (shR .u64 (u64.wrap (i64.wrap (a0 + b0))) 1) + m0) - b0), i64.wrap (shR .u64 (u64.wrap (i64.wrap (a0 + b0))) 1)) _ ⟨h, rfl, o⟩ H
      · have H := ifn c8 H
        refine sr [] [] ⟨.rs ad0 0 data0.length 1 :: .int .i64 a0 :: .int .i64 m0 :: .int .i64 b0 :: .fn g4_ cap4_ :: Ay8 (.int .i64 (i64.wrap (shR .u64 (u64.wrap (i64.wrap (a0 + b0))) 1)) :: .int .i64 (i64.wrap (i64.wrap (shR .u64 (u64.wrap (i64.wrap (a0 + b0))) 1) + m0)) :: .int .i64 a0 :: Ay18 []), [], h⟩ ((True) ∧ True) (by kernel_rfl) ⟨trivial, trivial⟩ ?_
        refine er [] [] ⟨.rs ad0 0 data0.length 1 :: .int .i64 a0 :: .int .i64 m0 :: .int .i64 b0 :: .fn g4_ cap4_ :: Ay8 (.int .i64 (i64.wrap (shR .u64 (u64.wrap (i64.wrap (a0 + b0))) 1)) :: .int .i64 (i64.wrap (i64.wrap (shR .u64 (u64.wrap (i64.wrap (a0 + b0))) 1) + m0)) :: .int .i64 a0 :: .int .i64 m0 :: Ay17 []), [], h⟩ ((True) ∧ True) (by kernel_rfl) ⟨trivial, trivial⟩ ?_
        exact jn0_ (a0, m0) _ ⟨h, rfl, o⟩ H
end
end Go.Proofs.YtmekcfdllhphlaaDoor

namespace Go.Proofs.YtmekcfdllhphlaaDoor
open Go Go.R
open Go.IntKind (i64 u64 u8 u32)
theorem jn_opt {α β : Type} {B : α → Option β} {c1 c2 : Bool} {X : Option α} {d0 : α} {G : β → Prop} (D : α → Prop) (h1 : c1 = true → c2 = true → ∃ x, X = some x ∧ D x) (h0 : ¬ (c1 = true ∧ c2 = true) → D d0)
    (h : ∀ x, D x → ∃ d, B x = some d ∧ G d) : ∃ d, jn B (fun j => if c1 = true then (if c2 = true then (X.bind fun x0 => j x0) else j d0) else j d0) = some d ∧ G d := by
  unfold jn
  dsimp only
  by_cases a1 : c1 = true
  · by_cases a2 : c2 = true
    · obtain ⟨x, e, hx⟩ := h1 a1 a2
      rw [if_pos a1, if_pos a2, e]; exact h x hx
    · rw [if_pos a1, if_neg a2]; exact h _ (h0 fun z => a2 z.2)
  · rw [if_neg a1]; exact h _ (h0 fun z => a1 z.1)
theorem opt2 {α : Type} {c1 c2 : Bool} {X : Option α} {d0 : α} {G : α → Prop} (h1 : c1 = true → c2 = true → ∃ x, X = some x ∧ G x) (h0 : ¬ (c1 = true ∧ c2 = true) → G d0) :
    ∃ d, (if c1 = true then (if c2 = true then (X.bind fun x0 => some x0) else some d0) else some d0) = some d ∧ G d := by
  by_cases a1 : c1 = true
  · by_cases a2 : c2 = true
    · obtain ⟨x, e, hx⟩ := h1 a1 a2
      rw [if_pos a1, if_pos a2, e]; exact ⟨x, rfl, hx⟩
    · rw [if_pos a1, if_neg a2]; exact ⟨_, rfl, h0 fun z => a2 z.2⟩
  · rw [if_neg a1]; exact ⟨_, rfl, h0 fun z => a1 z.1⟩
theorem jn_alt {α β : Type} {B : α → Option β} {c : Bool} {x y : α} {G : β → Prop} (h : ∀ z, (c = true ∧ z = x) ∨ (c = false ∧ z = y) → ∃ d, B z = some d ∧ G d) : ∃ d, jn B (fun j => if c = true then j x else j y) = some d ∧ G d := by
  unfold jn
  dsimp only
  cases c with
  | true => exact h _ (.inl ⟨rfl, rfl⟩)
  | false => exact h _ (.inr ⟨rfl, rfl⟩)
theorem Ord.refl {c : Int → Int → Int} {l : List Int} (O : Ord c l) {x : Int} (hx : x ∈ l) : 0 ≤ c x x := by
  by_cases h : c x x < 0
  · exact O.asy x hx x hx h
  · omega
theorem Sg.le {c : Int → Int → Int} {l : List Int} {a b : Nat} (S : Sg c l a b) (O : Ord c l) {i j : Nat} (h1 : a ≤ i) (h2 : i ≤ j) (h3 : j < b) (h4 : b ≤ l.length) : 0 ≤ c (gt l j) (gt l i) := by
  by_cases h : i = j
  · subst h; exact O.refl (gt_mem (by omega))
  · exact S i j h1 (by omega) h3
section
variable {m : Nat} {cmp : Int → Int → Option Int} {c : Int → Int → Int}
theorem sym_l0 {l : List Int} {a : Nat} (ha : a < l.length) (hs : l.length < 2 ^ 40) (C : Cm cmp c l) : ∀ (f i j : Nat), j - i < f → i ≤ j → j ≤ l.length →
    ∃ x : Nat, symMergeC.l0 m l (a : Int) cmp f (i : Int) (j : Int) = some ((x : Int), (x : Int)) ∧ i ≤ x ∧ x ≤ j ∧ (i < x → c (gt l (x - 1)) (gt l a) < 0) ∧ (x < j → 0 ≤ c (gt l x) (gt l a))
  | 0, i, j, hf, _, _ => absurd hf (by omega)
  | f + 1, i, j, hf, h1, h2 => by
    have p40 : (2 : Nat) ^ 40 = 1099511627776 := by decide
    unfold symMergeC.l0
    by_cases h : i < j
    · have hh := hf_eq (a := i) (b := j) (by omega)
      rw [if_pos (by simp; omega), hh, ix_gt (by omega), ix_gt ha, Option.bind_some, Option.bind_some, C.at (by omega) ha, Option.bind_some]
      by_cases g : c (gt l ((i + j) / 2)) (gt l a) < 0
      · obtain ⟨x, e, x1, x2, x3, x4⟩ := sym_l0 ha hs C f ((i + j) / 2 + 1) j (by omega) (by omega) h2
        rw [if_pos (by simpa using g), i64_id (by omega) (by omega), show (((i + j) / 2 : Nat) : Int) + 1 = (((i + j) / 2 + 1 : Nat) : Int) by omega, e]
        refine ⟨x, rfl, by omega, x2, fun _ => ?_, x4⟩
        by_cases hx : x = (i + j) / 2 + 1
        · rw [hx]; simpa using g
        · exact x3 (by omega)
      · obtain ⟨x, e, x1, x2, x3, x4⟩ := sym_l0 ha hs C f i ((i + j) / 2) (by omega) (by omega) (by omega)
        rw [if_neg (by simpa using g), e]
        refine ⟨x, rfl, x1, by omega, x3, fun _ => ?_⟩
        by_cases hx : x = (i + j) / 2
        · rw [hx]; omega
        · exact x4 (by omega)
    · have : i = j := by omega
      subst this
      exact ⟨i, by rw [if_neg (by simp)], Nat.le_refl _, Nat.le_refl _, fun h => absurd h (by omega), fun h => absurd h (by omega)⟩
theorem sym_l2 {l : List Int} {q : Nat} (hq : q < l.length) (hs : l.length < 2 ^ 40) (C : Cm cmp c l) : ∀ (f i j : Nat), j - i < f → i ≤ j → j ≤ l.length →
    ∃ x : Nat, symMergeC.l2 m l (q : Int) cmp f (i : Int) (j : Int) = some ((x : Int), (x : Int)) ∧ i ≤ x ∧ x ≤ j ∧ (i < x → 0 ≤ c (gt l q) (gt l (x - 1))) ∧ (x < j → c (gt l q) (gt l x) < 0)
  | 0, i, j, hf, _, _ => absurd hf (by omega)
  | f + 1, i, j, hf, h1, h2 => by
    have p40 : (2 : Nat) ^ 40 = 1099511627776 := by decide
    unfold symMergeC.l2
    by_cases h : i < j
    · have hh := hf_eq (a := i) (b := j) (by omega)
      rw [if_pos (by simp; omega), hh, ix_gt hq, ix_gt (by omega), Option.bind_some, Option.bind_some, C.at hq (by omega), Option.bind_some]
      by_cases g : c (gt l q) (gt l ((i + j) / 2)) < 0
      · obtain ⟨x, e, x1, x2, x3, x4⟩ := sym_l2 hq hs C f i ((i + j) / 2) (by omega) (by omega) (by omega)
        rw [if_neg (by simpa using g), e]
        refine ⟨x, rfl, x1, by omega, x3, fun _ => ?_⟩
        by_cases hx : x = (i + j) / 2
        · rw [hx]; omega
        · exact x4 (by omega)
      · obtain ⟨x, e, x1, x2, x3, x4⟩ := sym_l2 hq hs C f ((i + j) / 2 + 1) j (by omega) (by omega) h2
        rw [if_pos (by simpa using g), i64_id (by omega) (by omega), show (((i + j) / 2 : Nat) : Int) + 1 = (((i + j) / 2 + 1 : Nat) : Int) by omega, e]
        refine ⟨x, rfl, by omega, x2, fun _ => ?_, x4⟩
        by_cases hx : x = (i + j) / 2 + 1
        · rw [hx]; simp; omega
        · exact x3 (by omega)
    · have : i = j := by omega
      subst this
      exact ⟨i, by rw [if_neg (by simp)], Nat.le_refl _, Nat.le_refl _, fun h => absurd h (by omega), fun h => absurd h (by omega)⟩
theorem sym_l1 {l : List Int} {a x : Nat} (hx : x ≤ l.length) (hax : a < x) (hs : l.length < 2 ^ 40) : ∀ (f k : Nat) (d : List Int), x - k < f → a ≤ k → k < x → Mv a x l d →
    (∀ t, gt d t = if a ≤ t ∧ t < k then gt l (t + 1) else if t = k then gt l a else gt l t) →
    ∃ d' y, symMergeC.l1 m (x : Int) f d (k : Int) = some (d', y) ∧ Mv a x l d' ∧ ∀ t, gt d' t = if a ≤ t ∧ t + 1 < x then gt l (t + 1) else if t + 1 = x then gt l a else gt l t
  | 0, k, d, hf, _, _, _, _ => absurd hf (by omega)
  | f + 1, k, d, hf, h1, h2, M, hg => by
    have p40 : (2 : Nat) ^ 40 = 1099511627776 := by decide
    have hl := M.length
    unfold symMergeC.l1
    have e0 : i64.wrap ((x : Int) - 1) = ((x - 1 : Nat) : Int) := by rw [i64_id (by omega) (by omega)]; omega
    rw [e0]
    by_cases h : k < x - 1
    · have e1 : i64.wrap ((k : Int) + 1) = ((k + 1 : Nat) : Int) := by rw [i64_id (by omega) (by omega)]; omega
      rw [if_pos (by simp; omega), e1, ix_gt (by omega), ix_gt (by omega), Option.bind_some, Option.bind_some, Option.bind_some, Int.toNat_natCast, Int.toNat_natCast, ix_gt (by simp; omega), Option.bind_some]
      refine sym_l1 hx hax hs f (k + 1) (swp d k (k + 1)) (by omega) (by omega) (by omega) (M.trans (mv_swp (by omega) (by omega) (by omega) (by omega) (by omega))) fun t => ?_
      rw [gt_swp (by omega) (by omega), hg k, hg (k + 1), hg t]
      by_cases t1 : t = k + 1
      · subst t1; rw [if_pos rfl, if_neg (by omega), if_pos rfl, if_neg (by omega), if_pos rfl]
      · rw [if_neg t1]
        by_cases t2 : t = k
        · subst t2; rw [if_pos rfl, if_neg (by omega), if_neg (by omega), if_pos (by omega)]
        · rw [if_neg t2, if_neg t2, if_neg t1]
          by_cases t3 : a ≤ t ∧ t < k
          · rw [if_pos t3, if_pos (by omega)]
          · rw [if_neg t3, if_neg (by omega)]
    · refine ⟨d, k, by rw [if_neg (by simp; omega)], M, fun t => ?_⟩
      rw [hg]
      by_cases t3 : a ≤ t ∧ t < k
      · rw [if_pos t3, if_pos (by omega)]
      · rw [if_neg t3, if_neg (show ¬ (a ≤ t ∧ t + 1 < x) by omega)]
        by_cases t4 : t = k
        · rw [if_pos t4, if_pos (by omega)]
        · rw [if_neg t4, if_neg (by omega)]
theorem sym_l3 {l : List Int} {q x : Nat} (hx : q < l.length) (hax : x ≤ q) (hs : l.length < 2 ^ 40) : ∀ (f k : Nat) (d : List Int), k - x < f → x ≤ k → k ≤ q → Mv x (q + 1) l d →
    (∀ t, gt d t = if k < t ∧ t ≤ q then gt l (t - 1) else if t = k then gt l q else gt l t) →
    ∃ d' y, symMergeC.l3 m (x : Int) f d (k : Int) = some (d', y) ∧ Mv x (q + 1) l d' ∧ ∀ t, gt d' t = if x < t ∧ t ≤ q then gt l (t - 1) else if t = x then gt l q else gt l t
  | 0, k, d, hf, _, _, _, _ => absurd hf (by omega)
  | f + 1, k, d, hf, h1, h2, M, hg => by
    have p40 : (2 : Nat) ^ 40 = 1099511627776 := by decide
    have hl := M.length
    unfold symMergeC.l3
    by_cases h : x < k
    · have e1 : i64.wrap ((k : Int) - 1) = ((k - 1 : Nat) : Int) := by rw [i64_id (by omega) (by omega)]; omega
      rw [if_pos (by simp; omega), e1, ix_gt (by omega), ix_gt (by omega), Option.bind_some, Option.bind_some, Option.bind_some, Int.toNat_natCast, Int.toNat_natCast, ix_gt (by simp; omega), Option.bind_some]
      refine sym_l3 hx hax hs f (k - 1) (swp d k (k - 1)) (by omega) (by omega) (by omega) (M.trans (mv_swp (by omega) (by omega) (by omega) (by omega) (by omega))) fun t => ?_
      rw [gt_swp (by omega) (by omega), hg k, hg (k - 1), hg t]
      by_cases t1 : t = k - 1
      · subst t1; rw [if_pos rfl, if_neg (by omega), if_pos rfl, if_neg (by omega), if_pos rfl]
      · rw [if_neg t1]
        by_cases t2 : t = k
        · subst t2; rw [if_pos rfl, if_neg (by omega), if_neg (by omega), if_pos (by omega)]
        · rw [if_neg t2, if_neg t2, if_neg t1]
          by_cases t3 : k < t ∧ t ≤ q
          · rw [if_pos t3, if_pos (by omega)]
          · rw [if_neg t3, if_neg (by omega)]
    · have : k = x := by omega
      subst this
      exact ⟨d, k, by rw [if_neg (by simp)], M, hg⟩
theorem sym_l4 {l : List Int} {a b q : Nat} (hab : a + b < 2 ^ 42) (hs : l.length < 2 ^ 40) (C : Cm cmp c l) : ∀ (f s r : Nat), r - s < f → s ≤ r → r ≤ l.length → r ≤ (a + b) / 2 + q → (a + b) / 2 + q ≤ l.length + s →
    ∃ x : Nat, symMergeC.l4 m l (a : Int) (q : Int) (b : Int) cmp f (s : Int) (r : Int) = some ((x : Int), (x : Int)) ∧ s ≤ x ∧ x ≤ r ∧ (s < x → 0 ≤ c (gt l ((a + b) / 2 + q - x)) (gt l (x - 1))) ∧ (x < r → c (gt l ((a + b) / 2 + q - x - 1)) (gt l x) < 0)
  | 0, i, j, hf, _, _, _, _ => absurd hf (by omega)
  | f + 1, s, r, hf, h1, h2, h3, h4 => by
    have p40 : (2 : Nat) ^ 40 = 1099511627776 := by decide
    have p42 : (2 : Nat) ^ 42 = 4398046511104 := by decide
    unfold symMergeC.l4
    by_cases h : s < r
    · have hh := hf_eq (a := s) (b := r) (by omega)
      have hab := hf_eq (a := a) (b := b) (by omega)
      have e1 : i64.wrap (i64.wrap (i64.wrap ((((a + b) / 2 : Nat) : Int) + (q : Int)) - 1) - (((s + r) / 2 : Nat) : Int)) = (((a + b) / 2 + q - (s + r) / 2 - 1 : Nat) : Int) := by
        rw [i64_id (x := (((a + b) / 2 : Nat) : Int) + (q : Int)) (by omega) (by omega), i64_id (x := (((a + b) / 2 : Nat) : Int) + (q : Int) - 1) (by omega) (by omega), i64_id (by omega) (by omega)]
        omega
      rw [if_pos (by simp; omega), hh, hab, e1, ix_gt (by omega), ix_gt (by omega), Option.bind_some, Option.bind_some, C.at (by omega) (by omega), Option.bind_some]
      by_cases g : c (gt l ((a + b) / 2 + q - (s + r) / 2 - 1)) (gt l ((s + r) / 2)) < 0
      · obtain ⟨x, e, x1, x2, x3, x4⟩ := sym_l4 (a := a) (b := b) (q := q) (by omega) hs C f s ((s + r) / 2) (by omega) (by omega) (by omega) (by omega) (by omega)
        rw [if_neg (by simpa using g), e]
        refine ⟨x, rfl, x1, by omega, x3, fun _ => ?_⟩
        by_cases hx : x = (s + r) / 2
        · rw [hx]; exact g
        · exact x4 (by omega)
      · obtain ⟨x, e, x1, x2, x3, x4⟩ := sym_l4 (a := a) (b := b) (q := q) (by omega) hs C f ((s + r) / 2 + 1) r (by omega) (by omega) h2 h3 (by omega)
        rw [if_pos (by simpa using g), i64_id (by omega) (by omega), show (((s + r) / 2 : Nat) : Int) + 1 = (((s + r) / 2 + 1 : Nat) : Int) by omega, e]
        refine ⟨x, rfl, by omega, x2, fun _ => ?_, x4⟩
        by_cases hx : x = (s + r) / 2 + 1
        · rw [hx, show (a + b) / 2 + q - ((s + r) / 2 + 1) = (a + b) / 2 + q - (s + r) / 2 - 1 by omega, Nat.add_sub_cancel]; omega
        · exact x3 (by omega)
    · have : s = r := by omega
      subst this
      exact ⟨s, by rw [if_neg (by simp)], Nat.le_refl _, Nat.le_refl _, fun h => absurd h (by omega), fun h => absurd h (by omega)⟩
end
end Go.Proofs.YtmekcfdllhphlaaDoor

namespace Go.Proofs.YtmekcfdllhphlaaDoor
open Go Go.R
open Go.IntKind (i64 u64 u8 u32)
section
variable {m : Nat} {cmp : Int → Int → Option Int} {c : Int → Int → Int}
theorem rot_sg {l d : List Int} {a q b M E x : Nat} (h1 : a ≤ x) (h2 : x ≤ M) (h3 : x ≤ q) (h4 : q ≤ E) (h5 : E ≤ b) (h6 : E + x = M + q) (hb : b ≤ l.length)
    (R : Rot l d x (q - x) (E - q)) (O : Ord c l) (F1 : a < x → E < b → 0 ≤ c (gt l E) (gt l (x - 1))) (F2 : x < q → q < E → c (gt l (E - 1)) (gt l x) < 0)
    (S1 : Sg c l a q) (S2 : Sg c l q b) :
    Sg c d a x ∧ Sg c d x M ∧ Sg c d M E ∧ Sg c d E b ∧ (∀ i j, a ≤ i → i < M → M ≤ j → j < b → 0 ≤ c (gt d j) (gt d i)) := by
  obtain ⟨R1, R2, R3, R4⟩ := R
  have g1 : ∀ k, k < x → gt d k = gt l k := fun k hk => R4 k (.inl hk)
  have g2 : ∀ k, x ≤ k → k < M → gt d k = gt l (q + (k - x)) := fun k hk hk2 => by
    have := R2 (k - x) (by omega)
    rw [show x + (k - x) = k by omega, show x + (q - x) + (k - x) = q + (k - x) by omega] at this
    exact this
  have g3 : ∀ k, M ≤ k → k < E → gt d k = gt l (x + (k - M)) := fun k hk hk2 => by
    have := R3 (k - M) (by omega)
    rw [show x + (E - q) + (k - M) = k by omega] at this
    exact this
  have g4 : ∀ k, E ≤ k → gt d k = gt l k := fun k hk => R4 k (.inr (by omega))
  refine ⟨fun i j k1 k2 k3 => ?_, fun i j k1 k2 k3 => ?_, fun i j k1 k2 k3 => ?_, fun i j k1 k2 k3 => ?_, fun i j k1 k2 k3 k4 => ?_⟩
  · rw [g1 i (by omega), g1 j (by omega)]; exact S1 _ _ k1 k2 (by omega)
  · rw [g2 i (by omega) (by omega), g2 j (by omega) (by omega)]; exact S2 _ _ (by omega) (by omega) (by omega)
  · rw [g3 i (by omega) (by omega), g3 j (by omega) (by omega)]; exact S1 _ _ (by omega) (by omega) (by omega)
  · rw [g4 i (by omega), g4 j (by omega)]; exact S2 _ _ (by omega) (by omega) (by omega)
  · by_cases hi : i < x
    · rw [g1 i hi]
      by_cases hj : j < E
      · rw [g3 j k3 hj]; exact S1 _ _ k1 (by omega) (by omega)
      · rw [g4 j (by omega)]
        have f1 := F1 (by omega) (by omega)
        have f2 := S1.le O k1 (show i ≤ x - 1 by omega) (by omega) (by omega)
        have f3 := S2.le O (show q ≤ E from h4) (show E ≤ j by omega) k4 hb
        exact O.tr _ (gt_mem (by omega)) _ (gt_mem (show E < l.length by omega)) _ (gt_mem (by omega)) (O.tr _ (gt_mem (by omega)) _ (gt_mem (show x - 1 < l.length by omega)) _ (gt_mem (by omega)) f2 f1) f3
    · rw [g2 i (by omega) k2]
      by_cases hj : j < E
      · rw [g3 j k3 hj]
        have f1 := O.asy _ (gt_mem (show E - 1 < l.length by omega)) _ (gt_mem (show x < l.length by omega)) (F2 (by omega) (by omega))
        have f2 := S2.le O (show q ≤ q + (i - x) by omega) (show q + (i - x) ≤ E - 1 by omega) (by omega) hb
        have f3 := S1.le O h1 (show x ≤ x + (j - M) by omega) (by omega) (by omega)
        exact O.tr _ (gt_mem (by omega)) _ (gt_mem (show x < l.length by omega)) _ (gt_mem (by omega)) (O.tr _ (gt_mem (by omega)) _ (gt_mem (show E - 1 < l.length by omega)) _ (gt_mem (by omega)) f2 f1) f3
      · rw [g4 j (by omega)]; exact S2 _ _ (by omega) (by omega) k4
theorem rot_refl {l : List Int} {x i j : Nat} (h : i = 0 ∨ j = 0) : Rot l l x i j :=
  ⟨List.Perm.refl _, fun k hk => by rw [show i = 0 by omega, Nat.add_zero], fun k hk => by rw [show j = 0 by omega, Nat.add_zero], fun _ _ => rfl⟩
theorem rot_mv {l d : List Int} {x i j a b : Nat} (R : Rot l d x i j) (h1 : a ≤ x) (h2 : x + i + j ≤ b) : Mv a b l d := by
  obtain ⟨R1, R2, R3, R4⟩ := R
  refine ⟨R1, fun k hk => R4 k (by omega), fun k k1 k2 => ?_⟩
  by_cases g1 : k < x ∨ x + i + j ≤ k
  · exact ⟨k, k1, k2, R4 k g1⟩
  · by_cases g2 : k < x + j
    · have := R2 (k - x) (by omega)
      rw [show x + (k - x) = k by omega] at this
      exact ⟨_, by omega, by omega, this⟩
    · have := R3 (k - x - j) (by omega)
      rw [show x + j + (k - x - j) = k by omega] at this
      exact ⟨_, by omega, by omega, this⟩
theorem sym_spec (hm : 2 ^ 41 ≤ m) : ∀ (f : Nat) (l : List Int) (a q b : Nat), b - a < f → a < q → q < b → b ≤ l.length → l.length < 2 ^ 40 → Cm cmp c l →
    ∃ d, symMergeC.f m f l (a : Int) (q : Int) (b : Int) cmp = some d ∧ Mv a b l d ∧ (Ord c l → Sg c l a q → Sg c l q b → Sg c d a b)
  | 0, l, a, q, b, hf, _, _, _, _, _ => absurd hf (by omega)
  | f + 1, l, a, q, b, hf, h1, h2, h3, hs, C => by
    have p40 : (2 : Nat) ^ 40 = 1099511627776 := by decide
    have p41 : (2 : Nat) ^ 41 = 2199023255552 := by decide
    have p42 : (2 : Nat) ^ 42 = 4398046511104 := by decide
    unfold symMergeC.f
    unfold symMergeC.b
    have e1 : i64.wrap ((q : Int) - (a : Int)) = ((q - a : Nat) : Int) := by rw [i64_id (by omega) (by omega)]; omega
    have e2 : i64.wrap ((b : Int) - (q : Int)) = ((b - q : Nat) : Int) := by rw [i64_id (by omega) (by omega)]; omega
    have hM := hf_eq (a := a) (b := b) (by omega)
    rw [e1, e2, hM]
    by_cases hq1 : q - a = 1
    · obtain ⟨x, k1, k2, k3, k4, k5⟩ := sym_l0 (m := m) (a := a) (by omega) hs C m q b (by omega) (by omega) h3
      obtain ⟨d, y, g1, g2, g3⟩ := sym_l1 (m := m) (l := l) (a := a) (x := x) (by omega) (by omega) hs m a l (by omega) (Nat.le_refl _) (by omega) Mv.refl (fun t => by rw [if_neg (by omega)]; split <;> simp_all)
      rw [if_pos (by simp; omega), k1, Option.bind_some]
      dsimp only
      rw [g1]
      refine ⟨d, rfl, g2.wide (Nat.le_refl _) k3, fun O S1 S2 i j r1 r2 r3 => ?_⟩
      have A1 : ∀ t, a ≤ t → t + 1 < x → gt d t = gt l (t + 1) := fun t w1 w2 => by rw [g3 t, if_pos ⟨w1, w2⟩]
      have A2 : ∀ t, t + 1 = x → gt d t = gt l a := fun t w1 => by rw [g3 t, if_neg (by omega), if_pos w1]
      have A3 : ∀ t, x ≤ t → gt d t = gt l t := fun t w1 => by rw [g3 t, if_neg (by omega), if_neg (by omega)]
      by_cases i1 : i + 1 < x
      · rw [A1 i r1 i1]
        by_cases j1 : j + 1 < x
        · rw [A1 j (by omega) j1]; exact S2 _ _ (by omega) (by omega) (by omega)
        · have f1 := O.asy _ (gt_mem (show x - 1 < l.length by omega)) _ (gt_mem (show a < l.length by omega)) (k4 (by omega))
          have f2 := S2.le O (show q ≤ i + 1 by omega) (show i + 1 ≤ x - 1 by omega) (by omega) h3
          by_cases j2 : j + 1 = x
          · rw [A2 j j2]
            exact O.tr _ (gt_mem (by omega)) _ (gt_mem (show x - 1 < l.length by omega)) _ (gt_mem (by omega)) f2 f1
          · rw [A3 j (by omega)]; exact S2 _ _ (by omega) (by omega) (by omega)
      · rw [A3 j (by omega)]
        by_cases i2 : i + 1 = x
        · rw [A2 i i2]
          have f1 := k5 (by omega)
          have f2 := S2.le O (show q ≤ x by omega) (show x ≤ j by omega) r3 h3
          exact O.tr _ (gt_mem (by omega)) _ (gt_mem (show x < l.length by omega)) _ (gt_mem (by omega)) f1 f2
        · rw [A3 i (by omega)]; exact S2 _ _ (by omega) r2 r3
    rw [if_neg (by simp; omega)]
    by_cases hb1 : b - q = 1
    · obtain ⟨x, k1, k2, k3, k4, k5⟩ := sym_l2 (m := m) (q := q) (by omega) hs C m a q (by omega) (by omega) (by omega)
      obtain ⟨d, y, g1, g2, g3⟩ := sym_l3 (m := m) (l := l) (q := q) (x := x) (by omega) (by omega) hs m q l (by omega) (by omega) (Nat.le_refl _) Mv.refl (fun t => by rw [if_neg (by omega)]; split <;> simp_all)
      rw [if_pos (by simp; omega), k1, Option.bind_some]
      dsimp only
      rw [g1]
      refine ⟨d, rfl, g2.wide k2 (by omega), fun O S1 S2 i j r1 r2 r3 => ?_⟩
      have A1 : ∀ t, x < t → t ≤ q → gt d t = gt l (t - 1) := fun t w1 w2 => by rw [g3 t, if_pos ⟨w1, w2⟩]
      have A2 : gt d x = gt l q := by rw [g3 x, if_neg (by omega), if_pos rfl]
      have A3 : ∀ t, t < x → gt d t = gt l t := fun t w1 => by rw [g3 t, if_neg (by omega), if_neg (by omega)]
      by_cases i1 : x < i
      · rw [A1 i i1 (by omega), A1 j (by omega) (by omega)]
        exact S1 _ _ (by omega) (by omega) (by omega)
      · by_cases i2 : i = x
        · subst i2
          rw [A2, A1 j (by omega) (by omega)]
          have f1 := O.asy _ (gt_mem (show q < l.length by omega)) _ (gt_mem (show i < l.length by omega)) (k5 (by omega))
          have f2 := S1.le O r1 (show i ≤ j - 1 by omega) (by omega) (by omega)
          exact O.tr _ (gt_mem (by omega)) _ (gt_mem (show i < l.length by omega)) _ (gt_mem (by omega)) f1 f2
        · rw [A3 i (by omega)]
          by_cases j1 : x < j
          · rw [A1 j j1 (by omega)]
            exact S1.le O r1 (by omega) (by omega) (by omega)
          · have f1 := k4 (by omega)
            have f2 := S1.le O r1 (show i ≤ x - 1 by omega) (by omega) (by omega)
            by_cases j2 : j = x
            · subst j2
              rw [A2]
              exact O.tr _ (gt_mem (by omega)) _ (gt_mem (show j - 1 < l.length by omega)) _ (gt_mem (by omega)) f2 f1
            · rw [A3 j (by omega)]; exact S1 _ _ r1 r2 (by omega)
    rw [if_neg (by simp; omega)]
    refine jn_alt ?_
    intro z hz
    have hsr : ∃ s r : Nat, z = ((s : Int), (r : Int)) ∧ ((q > (a + b) / 2 ∧ s = (a + b) / 2 + q - b ∧ r = (a + b) / 2) ∨ (q ≤ (a + b) / 2 ∧ s = a ∧ r = q)) := by
      rcases hz with ⟨hc, rfl⟩ | ⟨hc, rfl⟩
      · refine ⟨(a + b) / 2 + q - b, (a + b) / 2, ?_, .inl ⟨by simp only [decide_eq_true_eq] at hc; omega, rfl, rfl⟩⟩
        simp only [Prod.mk.injEq, and_true]
        simp only [decide_eq_true_eq] at hc
        rw [i64_id (x := (((a + b) / 2 : Nat) : Int) + (q : Int)) (by omega) (by omega), i64_id (by omega) (by omega)]
        omega
      · refine ⟨a, q, rfl, .inr ⟨?_, rfl, rfl⟩⟩
        simp only [decide_eq_false_iff_not] at hc
        omega
    obtain ⟨s, r, rfl, hsr⟩ := hsr
    clear hz
    dsimp only
    obtain ⟨x, k1, k2, k3, k4, k5⟩ := sym_l4 (m := m) (a := a) (b := b) (q := q) (by omega) hs C m s r (by omega) (by omega) (by omega) (by omega) (by omega)
    rw [k1, Option.bind_some]
    dsimp only
    generalize hMM : (a + b) / 2 = M at *
    obtain ⟨E, hE⟩ : ∃ E, E = M + q - x := ⟨_, rfl⟩
    have eE : i64.wrap (i64.wrap ((M : Int) + (q : Int)) - (x : Int)) = (E : Int) := by
      rw [i64_id (x := (M : Int) + (q : Int)) (by omega) (by omega), i64_id (by omega) (by omega)]
      omega
    rw [eE]
    rw [← hE] at k4 k5
    have c1 : a ≤ x := by omega
    have c2 : x ≤ M := by omega
    have c3 : x ≤ q := by omega
    have c4 : q ≤ E := by omega
    have c5 : E ≤ b := by omega
    have c6 : E + x = M + q := by omega
    have c7 : M ≤ E := by omega
    have F1 : a < x → E < b → 0 ≤ c (gt l E) (gt l (x - 1)) := fun _ _ => k4 (by omega)
    have F2 : x < q → q < E → c (gt l (E - 1)) (gt l x) < 0 := fun _ _ => k5 (by omega)
    refine jn_opt (fun d => Rot l d x (q - x) (E - q)) (fun u1 u2 => ?_) (fun u => ?_) ?_
    · simp only [decide_eq_true_eq] at u1 u2
      exact rot_spec hm (by omega) (by omega) (by omega) hs
    · simp only [decide_eq_true_eq] at u
      exact rot_refl (by omega)
    intro d5 R
    try dsimp only
    have M5 : Mv a b l d5 := rot_mv R c1 (by omega)
    have l5 := M5.length
    refine jn_opt (fun d => Mv a M d5 d ∧ (Ord c l → Sg c l a q → Sg c l q b → Sg c d a M)) (fun u1 u2 => ?_) (fun u => ?_) ?_
    · simp only [decide_eq_true_eq] at u1 u2
      obtain ⟨d, g1, g2, g3⟩ := sym_spec hm f d5 a x M (by omega) (by omega) (by omega) (by omega) (by omega) (C.perm M5.perm)
      refine ⟨d, g1, g2, fun O S1 S2 => ?_⟩
      obtain ⟨v1, v2, v3, v4, v5⟩ := rot_sg c1 c2 c3 c4 c5 c6 h3 R O F1 F2 S1 S2
      exact g3 (O.perm M5.perm) v1 v2
    · simp only [decide_eq_true_eq] at u
      refine ⟨Mv.refl, fun O S1 S2 => ?_⟩
      obtain ⟨v1, v2, v3, v4, v5⟩ := rot_sg c1 c2 c3 c4 c5 c6 h3 R O F1 F2 S1 S2
      by_cases ua : a = x
      · rw [ua]; exact v2
      · rw [show M = x by omega]; exact v1
    rintro d6 ⟨M6, S6⟩
    try dsimp only
    have l6 := M6.length
    have M56 := M5.trans (M6.wide (Nat.le_refl _) (by omega))
    have fin : ∀ d, Mv M b d6 d → (Ord c l → Sg c l a q → Sg c l q b → Sg c d M b) → Mv a b l d ∧ (Ord c l → Sg c l a q → Sg c l q b → Sg c d a b) := by
      intro d M7 S7
      refine ⟨M56.trans (M7.wide (by omega) (Nat.le_refl _)), fun O S1 S2 i j r1 r2 r3 => ?_⟩
      obtain ⟨v1, v2, v3, v4, v5⟩ := rot_sg c1 c2 c3 c4 c5 c6 h3 R O F1 F2 S1 S2
      by_cases hj : j < M
      · rw [M7.out i (by omega), M7.out j (by omega)]
        exact S6 O S1 S2 _ _ r1 r2 hj
      · by_cases hi : M ≤ i
        · exact S7 O S1 S2 _ _ hi r2 r3
        · obtain ⟨j', y1, y2, y3⟩ := M7.im j (by omega) r3
          obtain ⟨i', w1, w2, w3⟩ := M6.im i r1 (by omega)
          rw [M7.out i (by omega), y3, M6.out j' (by omega), w3]
          exact v5 _ _ w1 w2 y1 y2
    refine opt2 (fun u1 u2 => ?_) (fun u => ?_)
    · simp only [decide_eq_true_eq] at u1 u2
      obtain ⟨d, g1, g2, g3⟩ := sym_spec hm f d6 M E b (by omega) (by omega) (by omega) (by omega) (by omega) (C.perm M56.perm)
      refine ⟨d, g1, fin d g2 fun O S1 S2 => ?_⟩
      obtain ⟨v1, v2, v3, v4, v5⟩ := rot_sg c1 c2 c3 c4 c5 c6 h3 R O F1 F2 S1 S2
      refine g3 (O.perm M56.perm) (fun i j y1 y2 y3 => ?_) (fun i j y1 y2 y3 => ?_)
      · rw [M6.out i (by omega), M6.out j (by omega)]; exact v3 _ _ y1 y2 y3
      · rw [M6.out i (by omega), M6.out j (by omega)]; exact v4 _ _ y1 y2 y3
    · simp only [decide_eq_true_eq] at u
      refine fin d6 Mv.refl fun O S1 S2 i j y1 y2 y3 => ?_
      obtain ⟨v1, v2, v3, v4, v5⟩ := rot_sg c1 c2 c3 c4 c5 c6 h3 R O F1 F2 S1 S2
      rw [M6.out i (by omega), M6.out j (by omega)]
      by_cases ue : M = E
      · exact v4 _ _ (by omega) y2 y3
      · exact v3 _ _ y1 y2 (by omega)
end
end Go.Proofs.YtmekcfdllhphlaaDoor

