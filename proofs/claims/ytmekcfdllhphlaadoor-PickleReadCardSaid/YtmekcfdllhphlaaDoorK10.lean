/- Part of the proof: Q67, PT8, PT9. -/
import Derived.Test.YtmekcfdllhphlaaDoorK9
set_option linter.unusedVariables false
set_option linter.unusedSimpArgs false
set_option maxRecDepth 100000
namespace Go.Proofs.YtmekcfdllhphlaaDoor
open Go Go.R
open Go.IntKind (i64 u64 u8 u32)
def ann67 : Ann := { keep := [0, 1, 2, 3, 4, 5, 6, 7, 8, 9, 10, 11, 12, 13, 14, 15, 17, 22, 23, 24, 37, 38, 39, 40, 61, 73, 74, 75, 76, 87, 88, 89, 90, 110, 126], locs := [12], dead := [(0, [0, 2, 3, 4, 5, 6, 7, 8, 9, 10, 11, 12, 13, 14, 15, 17, 22, 23, 24, 37, 38, 39, 40, 61, 73, 74, 75, 76, 87, 88, 89, 90, 110, 126]), (1, [0, 2, 4, 5, 6, 7, 8, 9, 10, 11, 12, 13, 14, 15, 17, 22, 23, 24, 37, 38, 39, 40, 61, 73, 74, 75, 76, 87, 88, 89, 90, 110, 126]), (2, [0, 2, 4, 5, 6, 7, 8, 9, 10, 11, 12, 13, 14, 15, 17, 24, 37, 38, 39, 40, 61, 73, 74, 75, 76, 87, 88, 89, 90, 110, 126]), (3, [0, 2, 4, 5, 6, 7, 8, 9, 10, 11, 12, 13, 14, 15, 17, 37, 38, 39, 40, 61, 73, 74, 75, 76, 87, 88, 89, 90, 110, 126]), (4, [0, 2, 5, 6, 7, 8, 9, 10, 11, 12, 13, 14, 15, 17, 24, 37, 38, 39, 40, 61, 73, 74, 75, 76, 87, 88, 89, 90, 110, 126]), (5, [0, 2, 4, 5, 6, 7, 8, 9, 10, 11, 12, 13, 14, 15, 17, 24, 37, 38, 39, 40, 61, 73, 74, 75, 76, 87, 88, 89, 90, 110, 126]), (6, [0, 2, 4, 5, 6, 7, 8, 9, 10, 11, 12, 13, 14, 15, 17, 24, 37, 38, 39, 40, 61, 73, 74, 75, 76, 87, 88, 89, 90, 110, 126]), (7, [0, 2, 4, 5, 6, 7, 8, 9, 10, 11, 12, 13, 14, 15, 17, 22, 23, 24, 37, 38, 39, 40, 61, 73, 74, 75, 76, 87, 88, 89, 90, 110, 126]), (8, [0, 2, 4, 6, 7, 8, 9, 10, 11, 12, 13, 14, 15, 17, 22, 23, 24, 37, 38, 39, 40, 61, 73, 74, 75, 76, 87, 88, 89, 90, 110, 126]), (9, [0, 2, 4, 7, 8, 9, 10, 11, 12, 13, 14, 15, 17, 22, 23, 24, 37, 38, 39, 40, 61, 73, 74, 75, 76, 87, 88, 89, 90, 110, 126]), (10, [0, 2, 4, 7, 8, 9, 10, 11, 12, 13, 14, 15, 17, 22, 23, 24, 40, 61, 73, 74, 75, 76, 87, 88, 89, 90, 110, 126]), (11, [0, 2, 4, 7, 8, 9, 10, 11, 12, 13, 14, 15, 17, 22, 23, 24, 61, 73, 74, 75, 76, 87, 88, 89, 90, 110, 126]), (12, [0, 2, 4, 9, 10, 11, 12, 13, 14, 15, 17, 22, 23, 24, 40, 61, 73, 74, 75, 76, 87, 88, 89, 90, 110, 126]), (13, [0, 2, 4, 7, 9, 10, 11, 12, 13, 14, 15, 17, 22, 23, 24, 40, 73, 74, 75, 76, 87, 88, 89, 90, 110, 126]), (14, [0, 2, 4, 7, 9, 10, 11, 12, 13, 14, 15, 17, 22, 23, 24, 40, 61, 73, 74, 75, 76, 87, 88, 89, 90, 110, 126]), (15, [0, 2, 4, 7, 8, 9, 10, 11, 12, 13, 14, 15, 17, 22, 23, 24, 40, 61, 73, 74, 75, 76, 87, 88, 89, 90, 110, 126]), (16, [0, 2, 4, 7, 8, 9, 10, 11, 12, 13, 14, 15, 17, 22, 23, 24, 40, 61, 73, 74, 75, 76, 87, 88, 89, 90, 110, 126]), (17, [0, 2, 3, 4, 7, 8, 10, 11, 12, 13, 14, 15, 17, 22, 23, 24, 37, 38, 39, 40, 61, 73, 74, 75, 76, 87, 88, 89, 90, 110, 126]), (18, [0, 2, 3, 4, 7, 8, 11, 12, 13, 14, 15, 17, 22, 23, 24, 37, 38, 39, 40, 61, 73, 74, 75, 76, 87, 88, 89, 90, 110, 126]), (19, [0, 2, 3, 4, 7, 8, 11, 12, 13, 14, 15, 17, 22, 23, 24, 37, 38, 39, 40, 61, 76, 87, 88, 89, 90, 110, 126]), (20, [0, 2, 3, 4, 7, 8, 11, 12, 13, 14, 15, 17, 22, 23, 24, 37, 38, 39, 40, 61, 87, 88, 89, 90, 110, 126]), (21, [0, 2, 3, 4, 7, 8, 13, 14, 15, 17, 22, 23, 24, 37, 38, 39, 40, 61, 76, 87, 88, 89, 90, 110, 126]), (22, [0, 2, 3, 4, 7, 8, 14, 15, 17, 22, 23, 24, 37, 38, 39, 40, 61, 76, 87, 88, 89, 90, 110, 126]), (23, [0, 2, 3, 4, 7, 8, 12, 14, 15, 17, 22, 23, 24, 37, 38, 39, 40, 61, 76, 90, 110, 126]), (24, [0, 2, 3, 4, 7, 8, 12, 14, 15, 17, 22, 23, 24, 37, 38, 39, 40, 61, 76, 110, 126]), (25, [0, 2, 3, 4, 7, 8, 12, 17, 22, 23, 24, 37, 38, 39, 40, 61, 76, 90, 110, 126]), (26, [0, 2, 3, 4, 7, 8, 12, 14, 15, 17, 22, 23, 24, 37, 38, 39, 40, 61, 76, 90, 110, 126]), (27, [0, 2, 3, 4, 7, 8, 12, 14, 15, 17, 22, 23, 24, 37, 38, 39, 40, 61, 76, 90, 110, 126]), (28, [0, 2, 3, 4, 7, 8, 12, 14, 15, 22, 23, 24, 37, 38, 39, 40, 61, 76, 87, 88, 89, 90, 110, 126]), (29, [0, 2, 3, 4, 7, 8, 12, 14, 15, 17, 22, 23, 24, 37, 38, 39, 40, 61, 76, 87, 88, 89, 90, 126]), (30, [0, 2, 3, 4, 7, 8, 12, 14, 15, 17, 22, 23, 24, 37, 38, 39, 40, 61, 76, 87, 88, 89, 90, 110, 126]), (31, [0, 2, 3, 4, 7, 8, 11, 12, 13, 14, 15, 17, 22, 23, 24, 37, 38, 39, 40, 61, 76, 87, 88, 89, 90, 110, 126]), (32, [0, 2, 3, 4, 7, 8, 11, 12, 13, 14, 15, 17, 22, 23, 24, 37, 38, 39, 40, 61, 76, 87, 88, 89, 90, 110, 126]), (33, [0, 2, 3, 4, 6, 7, 8, 11, 12, 13, 14, 15, 17, 22, 23, 24, 37, 38, 39, 40, 61, 73, 74, 75, 76, 87, 88, 89, 90, 110]), (34, [0, 1, 3, 4, 5, 6, 7, 8, 9, 10, 11, 12, 13, 14, 15, 17, 22, 23, 24, 37, 38, 39, 40, 61, 73, 74, 75, 76, 87, 88, 89, 90, 110, 126]), (35, [0, 2, 3, 4, 7, 8, 9, 10, 11, 12, 13, 14, 15, 17, 22, 23, 24, 37, 38, 39, 40, 61, 73, 74, 75, 76, 87, 88, 89, 90, 110, 126])], frz := [], frz2 := [] }
noncomputable def g67R0 := sub [0] (codeOf Tryd.f67)
noncomputable def g67R1 := sub [1, 0] (codeOf Tryd.f67)
noncomputable def g67R2 := sub [1, 1, 0, 0] (codeOf Tryd.f67)
noncomputable def g67L0 := sub [1, 1, 0, 1, 0, 0] (codeOf Tryd.f67)
noncomputable def g67R3 := sub [1, 1, 0, 1, 0, 0, 0] (codeOf Tryd.f67)
noncomputable def g67R4 := sub [1, 1, 0, 1, 0, 0, 1, 1, 0, 0, 0] (codeOf Tryd.f67)
noncomputable def g67R5 := sub [1, 1, 0, 1, 0, 0, 1, 1, 0, 0, 1] (codeOf Tryd.f67)
noncomputable def g67R6 := sub [1, 1, 0, 1, 0, 0, 1, 1, 1] (codeOf Tryd.f67)
noncomputable def g67R7 := sub [1, 1, 1, 0] (codeOf Tryd.f67)
noncomputable def g67R8 := sub [1, 1, 1, 1, 0] (codeOf Tryd.f67)
noncomputable def g67R9 := sub [1, 1, 1, 1, 1, 0] (codeOf Tryd.f67)
noncomputable def g67R10 := sub [1, 1, 1, 1, 1, 1, 0, 0] (codeOf Tryd.f67)
noncomputable def g67L1 := sub [1, 1, 1, 1, 1, 1, 0, 1, 0, 0] (codeOf Tryd.f67)
noncomputable def g67R11 := sub [1, 1, 1, 1, 1, 1, 0, 1, 0, 0, 0] (codeOf Tryd.f67)
noncomputable def g67R12 := sub [1, 1, 1, 1, 1, 1, 0, 1, 0, 0, 1, 1, 0, 0, 0] (codeOf Tryd.f67)
noncomputable def g67R13 := sub [1, 1, 1, 1, 1, 1, 0, 1, 0, 0, 1, 1, 0, 0, 1, 0, 0] (codeOf Tryd.f67)
noncomputable def g67R14 := sub [1, 1, 1, 1, 1, 1, 0, 1, 0, 0, 1, 1, 0, 0, 1, 0, 1, 0] (codeOf Tryd.f67)
noncomputable def g67R15 := sub [1, 1, 1, 1, 1, 1, 0, 1, 0, 0, 1, 1, 0, 0, 1, 1] (codeOf Tryd.f67)
noncomputable def g67R16 := sub [1, 1, 1, 1, 1, 1, 0, 1, 0, 0, 1, 1, 1] (codeOf Tryd.f67)
noncomputable def g67L2 := sub [1, 1, 1, 1, 1, 1, 1, 0, 0] (codeOf Tryd.f67)
noncomputable def g67R17 := sub [1, 1, 1, 1, 1, 1, 1, 0, 0, 0, 0] (codeOf Tryd.f67)
noncomputable def g67R18 := sub [1, 1, 1, 1, 1, 1, 1, 0, 0, 0, 1, 0] (codeOf Tryd.f67)
noncomputable def g67R19 := sub [1, 1, 1, 1, 1, 1, 1, 0, 0, 0, 1, 1, 0, 0] (codeOf Tryd.f67)
noncomputable def g67L3 := sub [1, 1, 1, 1, 1, 1, 1, 0, 0, 0, 1, 1, 0, 1, 0, 0] (codeOf Tryd.f67)
noncomputable def g67R20 := sub [1, 1, 1, 1, 1, 1, 1, 0, 0, 0, 1, 1, 0, 1, 0, 0, 0] (codeOf Tryd.f67)
noncomputable def g67R21 := sub [1, 1, 1, 1, 1, 1, 1, 0, 0, 0, 1, 1, 0, 1, 0, 0, 1, 1, 0, 0, 0] (codeOf Tryd.f67)
noncomputable def g67R22 := sub [1, 1, 1, 1, 1, 1, 1, 0, 0, 0, 1, 1, 0, 1, 0, 0, 1, 1, 0, 0, 1, 0] (codeOf Tryd.f67)
noncomputable def g67R23 := sub [1, 1, 1, 1, 1, 1, 1, 0, 0, 0, 1, 1, 0, 1, 0, 0, 1, 1, 0, 0, 1, 1, 0, 0] (codeOf Tryd.f67)
noncomputable def g67L4 := sub [1, 1, 1, 1, 1, 1, 1, 0, 0, 0, 1, 1, 0, 1, 0, 0, 1, 1, 0, 0, 1, 1, 0, 1, 0, 0] (codeOf Tryd.f67)
noncomputable def g67R24 := sub [1, 1, 1, 1, 1, 1, 1, 0, 0, 0, 1, 1, 0, 1, 0, 0, 1, 1, 0, 0, 1, 1, 0, 1, 0, 0, 0] (codeOf Tryd.f67)
noncomputable def g67R25 := sub [1, 1, 1, 1, 1, 1, 1, 0, 0, 0, 1, 1, 0, 1, 0, 0, 1, 1, 0, 0, 1, 1, 0, 1, 0, 0, 1, 1, 0, 0, 0] (codeOf Tryd.f67)
noncomputable def g67R26 := sub [1, 1, 1, 1, 1, 1, 1, 0, 0, 0, 1, 1, 0, 1, 0, 0, 1, 1, 0, 0, 1, 1, 0, 1, 0, 0, 1, 1, 0, 0, 1] (codeOf Tryd.f67)
noncomputable def g67R27 := sub [1, 1, 1, 1, 1, 1, 1, 0, 0, 0, 1, 1, 0, 1, 0, 0, 1, 1, 0, 0, 1, 1, 0, 1, 0, 0, 1, 1, 1] (codeOf Tryd.f67)
noncomputable def g67R28 := sub [1, 1, 1, 1, 1, 1, 1, 0, 0, 0, 1, 1, 0, 1, 0, 0, 1, 1, 0, 0, 1, 1, 1, 0, 0] (codeOf Tryd.f67)
noncomputable def g67R29 := sub [1, 1, 1, 1, 1, 1, 1, 0, 0, 0, 1, 1, 0, 1, 0, 0, 1, 1, 0, 0, 1, 1, 1, 0, 1, 0] (codeOf Tryd.f67)
noncomputable def g67R30 := sub [1, 1, 1, 1, 1, 1, 1, 0, 0, 0, 1, 1, 0, 1, 0, 0, 1, 1, 0, 0, 1, 1, 1, 0, 1, 1, 0] (codeOf Tryd.f67)
noncomputable def g67R31 := sub [1, 1, 1, 1, 1, 1, 1, 0, 0, 0, 1, 1, 0, 1, 0, 0, 1, 1, 0, 0, 1, 1, 1, 1] (codeOf Tryd.f67)
noncomputable def g67R32 := sub [1, 1, 1, 1, 1, 1, 1, 0, 0, 0, 1, 1, 0, 1, 0, 0, 1, 1, 1] (codeOf Tryd.f67)
noncomputable def g67R33 := sub [1, 1, 1, 1, 1, 1, 1, 0, 0, 0, 1, 1, 1, 0, 0] (codeOf Tryd.f67)
noncomputable def g67R34 := sub [1, 1, 1, 1, 1, 1, 1, 0, 0, 0, 1, 1, 1, 0, 1, 0, 0] (codeOf Tryd.f67)
noncomputable def g67R35 := sub [1, 1, 1, 1, 1, 1, 1, 0, 0, 0, 1, 1, 1, 1] (codeOf Tryd.f67)
theorem g67L0_eq : g67L0 = (.seq g67R3 (.seq (.cond (.tmp 24) .skip (.exit 0)) (.seq (.block 1 (.seq g67R4 g67R5)) g67R6))) := by kernel_rfl
theorem g67L1_eq : g67L1 = (.seq g67R11 (.seq (.cond (.tmp 40) .skip (.exit 2)) (.seq (.block 3 (.seq g67R12 (.seq (.seq g67R13 (.cond (.tmp 61) g67R14 .skip)) g67R15))) g67R16))) := by kernel_rfl
theorem g67L4_eq : g67L4 = (.seq g67R24 (.seq (.cond (.tmp 90) .skip (.exit 8)) (.seq (.block 9 (.seq g67R25 g67R26)) g67R27))) := by kernel_rfl
theorem g67L3_eq : g67L3 = (.seq g67R20 (.seq (.cond (.tmp 76) .skip (.exit 6)) (.seq (.block 7 (.seq g67R21 (.seq g67R22 (.seq (.seq g67R23 (.block 8 (.loop g67L4))) (.seq (.seq g67R28 (.seq g67R29 (.cond (.tmp 110) g67R30 .skip))) g67R31))))) g67R32))) := by kernel_rfl
theorem g67L2_eq : g67L2 = (.block 5 (.seq g67R17 (.seq g67R18 (.seq (.seq g67R19 (.block 6 (.loop g67L3))) (.seq (.seq g67R33 (.cond (.tmp 126) (.seq g67R34 .ret) .skip)) g67R35))))) := by kernel_rfl
theorem g67_eq : codeOf Tryd.f67 = (.seq g67R0 (.seq g67R1 (.seq (.seq g67R2 (.block 0 (.loop g67L0))) (.seq g67R7 (.seq g67R8 (.seq g67R9 (.seq (.seq g67R10 (.block 2 (.loop g67L1))) (.block 4 (.loop g67L2))))))))) := by kernel_rfl
def tree_classes.l0 (m : Nat) (x0 : List Int) : Nat → (List Int) → Int → Option ((List Int) × Int)
  | 0, _, _ => none
  | k + 1, order0, x1 => if (decide (x1 < (x0.length : Int))) = true then ((ix order0 x1).bind fun v0 => tree_classes.l0 m x0 k (order0.set x1.toNat x1) (i64.wrap (x1 + (1 : Int)))) else (some ((order0, x1)))
def tree_classes.l1 (m : Nat) (nodes0 : List VNode) (order1 : List Int) (x3 : (List Int)) : Nat → (List Int) → Int → Int → Option ((List Int) × Int × Int)
  | 0, _, _, _ => none
  | k + 1, out1, many0, x5 => if (decide (x5 < (order1.length : Int))) = true then ((ix x3 x5).bind fun v1 => if (decide (x5 > (0 : Int))) = true then ((ix x3 (i64.wrap (x5 - (1 : Int)))).bind fun v2 => (ix nodes0 v2).bind fun v3 => (ix nodes0 v1).bind fun v4 => (tree_compareTop.f m v3 v4).bind fun x6 => if (!(x6 == (0 : Int))) = true then ((ix out1 v1).bind fun v5 => tree_classes.l1 m nodes0 order1 x3 k (out1.set v1.toNat (i64.wrap (many0 + (1 : Int)))) (i64.wrap (many0 + (1 : Int))) (i64.wrap (x5 + (1 : Int)))) else ((ix out1 v1).bind fun v6 => tree_classes.l1 m nodes0 order1 x3 k (out1.set v1.toNat many0) many0 (i64.wrap (x5 + (1 : Int))))) else ((ix out1 v1).bind fun v7 => tree_classes.l1 m nodes0 order1 x3 k (out1.set v1.toNat many0) many0 (i64.wrap (x5 + (1 : Int))))) else (some ((out1, many0, x5)))
def tree_classes.l4 (m : Nat) (out4 : List Int) (v8 : VNode) : Nat → (List Int) → Int → Option ((List Int) × Int)
  | 0, _, _ => none
  | k + 1, k0, x10 => if (decide (x10 < (v8.args.length : Int))) = true then ((ix v8.args x10).bind fun v10 => (ix out4 v10).bind fun v11 => (ix k0 (i64.wrap (x10 + (1 : Int)))).bind fun v12 => tree_classes.l4 m out4 v8 k (k0.set (i64.wrap (x10 + (1 : Int))).toNat (i64.wrap (v11 + (1 : Int)))) (i64.wrap (x10 + (1 : Int)))) else (some ((k0, x10)))
def tree_classes.l3 (m : Nat) (nodes0 : List VNode) (out4 : List Int) : Nat → (List (List Int × Int)) → (List Int) → Int → Option ((List (List Int × Int)) × (List Int) × Int)
  | 0, _, _, _ => none
  | k + 1, seen0, next0, x9 => if (decide (x9 < (nodes0.length : Int))) = true then ((ix nodes0 x9).bind fun v8 => (ix out4 x9).bind fun v9 => (tree_classes.l4 m out4 v8 m ([i64.wrap (v9 + (1 : Int)), (0 : Int), (0 : Int), (0 : Int), (0 : Int), (0 : Int), (0 : Int), (0 : Int), (0 : Int)]) (0 : Int)).bind fun out5 => match out5 with | (k1, x11) => (mgA 9 seen0 k1).bind fun r0 => if (!r0.2) = true then ((msA 9 seen0 k1 (seen0.length : Int)).bind fun mp0 => (mgA 9 mp0 k1).bind fun r1 => (ix next0 x9).bind fun v13 => tree_classes.l3 m nodes0 out4 k mp0 (next0.set x9.toNat r1.1) (i64.wrap (x9 + (1 : Int)))) else ((mgA 9 seen0 k1).bind fun r2 => (ix next0 x9).bind fun v14 => tree_classes.l3 m nodes0 out4 k seen0 (next0.set x9.toNat r2.1) (i64.wrap (x9 + (1 : Int))))) else (some ((seen0, next0, x9)))
def tree_classes.l2 (m : Nat) (nodes0 : List VNode) : Nat → (List Int) → Int → Option (Sum (List Int) ((List Int) × Int))
  | 0, _, _ => none
  | k + 1, out4, many2 => (mkl 8 (nodes0.length : Int) (0 : Int)).bind fun x8 => (tree_classes.l3 m nodes0 out4 m ([] : List (List Int × Int)) x8 (0 : Int)).bind fun out6 => match out6 with | (seen1, next1, x12) => if ((seen1.length : Int) == (i64.wrap (many2 + (1 : Int)))) = true then (some (.inl out4)) else (tree_classes.l2 m nodes0 k next1 (i64.wrap ((seen1.length : Int) - (1 : Int))))
def tree_classes.f (m : Nat) (nodes0 : List VNode) : Option ((List Int)) := (mkl 8 (nodes0.length : Int) (0 : Int)).bind fun x0 => (tree_classes.l0 m x0 m x0 (0 : Int)).bind fun out0 => match out0 with | (order1, x2) => (SortStableFI.f m order1 (fun y0 y1 => tree_classes_1.f m y0 y1 nodes0)).bind fun x3 => (mkl 8 (nodes0.length : Int) (0 : Int)).bind fun x4 => (tree_classes.l1 m nodes0 order1 x3 m x4 (0 : Int) (0 : Int)).bind fun out3 => match out3 with | (out2, many1, x7) => (tree_classes.l2 m nodes0 m out2 many1).bind fun out8 => match out8 with | .inl r3 => some r3 | .inr (out7, many3) => none
def tree_classes.fin (L : Mem) (r : (List Int)) (s : St) : Prop := ∃ av, resultA Tryd.prog (s.open ann67) Tryd.f67.results.toList = some av ∧ Frb s.h av (eInt.fz r)
def S67 (cf : CallF) (m : Nat) : Prop := ∀ (nodes0 : List VNode) (r : (List Int)), tree_classes.f m nodes0 = some r → ∀ h xs, FrzS 1000 h xs [eNode.fz nodes0] → cf 67 xs h = some (eInt.fz r, h)
section
variable {cf : CallF} {m : Nat}
def tree_classes.l0.R (L : Mem) (nodes0 : List VNode) (ad0 : Nat) (x0 : List Int) (σ : (List Int) × Int) (s : St) : Prop :=
  match σ with
  | (order0, x1) => ∃ (g0 : AV) (g1 : AV) (g2 : AV) (g3 : AV) (g4 : AV) (g5 : AV) (g6 : AV) (ad2 : Nat) (h2 : AHeap), s = ⟨.any :: .ptr ad0 0 :: .any :: .rs ad2 0 order0.length 1 :: Ay13 (.int .i64 (x0.length : Int) :: .int .i64 x1 :: g0 :: Ay3 (g1 :: g2 :: Ay3 (g3 :: Ay3 [g4, g5, g6]))), [none], h2⟩ ∧ Has h2 ((ad2, .sl order0.length 1 (eInt.l order0)) :: (ad0, .ob [eNode.fz nodes0]) :: L)
def tree_classes.l0.Q (L : Mem) (nodes0 : List VNode) (ad0 : Nat) (x0 : List Int) (out : (List Int) × Int) (e : Ex) (s : St) : Prop :=
  (e = .exit 0 ∧ ∃ (order0 : List Int) (x1 : Int), (order0, x1) = out ∧ ∃ (x22_ : AV) (x23_ : AV) (x24_ : AV) (x40_ : AV) (x61_ : AV) (x76_ : AV) (x90_ : AV) (x110_ : AV) (x126_ : AV) (ad2 : Nat) (h2 : AHeap), s = ⟨.any :: .ptr ad0 0 :: .any :: .rs ad2 0 order0.length 1 :: Ay13 (x22_ :: x23_ :: x24_ :: Ay3 (x40_ :: x61_ :: Ay3 (x76_ :: Ay3 [x90_, x110_, x126_]))), [none], h2⟩ ∧ Has h2 ((ad2, .sl order0.length 1 (eInt.l order0)) :: (ad0, .ob [eNode.fz nodes0]) :: L))
theorem tree_classes.l0_ok (L : Mem) (nodes0 : List VNode) (ad0 : Nat) (x0 : List Int)   {σ : (List Int) × Int} {s : St} {out : (List Int) × Int} (hr : tree_classes.l0.R L nodes0 ad0 x0 σ s) (H : (fun k σ => tree_classes.l0 m x0 k σ.1 σ.2) m σ = some out) : Enz Tryd.prog cf ann67 m (.loop g67L0) s (tree_classes.l0.Q L nodes0 ad0 x0 out) := by
  refine ends_loop (fun k σ => tree_classes.l0 m x0 k σ.1 σ.2) (tree_classes.l0.R L nodes0 ad0 x0) (tree_classes.l0.Q L nodes0 ad0 x0) (fun _ => rfl) ?_ hr H (fun _ _ _ h => h)
  clear hr H σ s out
  rintro k ⟨order0, x1⟩ s out ⟨g0, g1, g2, g3, g4, g5, g6, ad2, h2, rfl, o2⟩ H
  have H : tree_classes.l0 m x0 (k + 1) order0 x1 = some out := H
  refine ends_of_eq g67L0_eq ?_
  refine sr [] [] ⟨.any :: .ptr ad0 0 :: .any :: .rs ad2 0 order0.length 1 :: Ay13 (.int .i64 (x0.length : Int) :: .int .i64 x1 :: .bool (decide (x1 < (x0.length : Int))) :: Ay15 []), [none], h2⟩ ((True) ∧ True) (by kernel_rfl) ⟨trivial, trivial⟩ ?_
  refine ends_seq ?_
  refine ends_cond (decide (x1 < (x0.length : Int))) (by kernel_rfl) (fun c0 => ?_) (fun c0 => ?_)
  · have H := ifp c0 H
    refine ends_skip ?_
    refine ends_seq ?_
    refine ends_block ?_
    refine sr [] [] ⟨.any :: .ptr ad0 0 :: .any :: .rs ad2 0 order0.length 1 :: .int .i64 x1 :: Ay12 (.int .i64 (x0.length : Int) :: .int .i64 x1 :: Ay16 []), [none], h2⟩ ((True) ∧ True) (by kernel_rfl) ⟨trivial, trivial⟩ ?_
    obtain ⟨v0, e3, H⟩ := bsi H
    obtain ⟨h3, e4, o3⟩ := st_own (P := Tryd.prog) (tf := 3) (E := eInt) (l := order0) (q := 0) (v := x1) (x := .int .i64 x1) o2 rfl Z3 e3 rfl rfl
    refine er [] [(3, .ptr ad2 (0 + x1.toNat * 1), none), (4, .any, some h3)] ⟨.any :: .ptr ad0 0 :: .any :: .rs ad2 0 order0.length 1 :: Ay13 (.int .i64 (x0.length : Int) :: .int .i64 x1 :: Ay16 []), [none], h3⟩ ((True) ∧ indexAddrA Tryd.prog 42 (.rs ad2 0 order0.length 1) (.int .i64 x1) = some (.ptr ad2 (0 + x1.toNat * 1)) ∧ storeH Tryd.prog h2 3 (.ptr ad2 (0 + x1.toNat * 1)) (.int .i64 x1) = some h3 ∧ True) (by kernel_rfl) ⟨trivial, ⟨ia_ownL (E := eInt) (l := order0) (q := 0) T42 o2 rfl e3, e4, trivial⟩⟩ ?_
    refine er [] [] ⟨.any :: .ptr ad0 0 :: .any :: .rs ad2 0 order0.length 1 :: Ay13 (.int .i64 (x0.length : Int) :: .int .i64 (i64.wrap (x1 + (1 : Int))) :: Ay16 []), [none], h3⟩ ((True) ∧ True) (by kernel_rfl) ⟨trivial, trivial⟩ ?_
    exact ⟨(order0.set x1.toNat x1, i64.wrap (x1 + (1 : Int))), ⟨.any, .any, .any, .any, .any, .any, .any, ad2, h3, (by simp only [List.length_set]), (by have o : Has h3 ((ad2, .sl order0.length 1 (eInt.l (order0.set x1.toNat x1))) :: (ad0, .ob [eNode.fz nodes0]) :: L) := o3; simpa only [List.length_set] using o)⟩, H⟩
  · have H := ifn c0 H
    refine ends_exit ?_
    have H := Option.some.inj H
    exact ⟨rfl, order0, x1, H, .int .i64 (x0.length : Int), .int .i64 x1, .bool (decide (x1 < (x0.length : Int))), .any, .any, .any, .any, .any, .any, ad2, h2, rfl, o2⟩
def tree_classes.l1.R (L : Mem) (nodes0 : List VNode) (ad0 : Nat) (ad3 : Nat) (order1 : List Int) (ad3 : Nat) (x3 : (List Int)) (σ : (List Int) × Int × Int) (s : St) : Prop :=
  match σ with
  | (out1, many0, x5) => ∃ (g16 : AV) (g17 : AV) (g18 : AV) (g19 : AV) (g20 : AV) (g21 : AV) (g22 : AV) (ad5 : Nat) (h7 : AHeap), s = ⟨.any :: .ptr ad0 0 :: .any :: .rs ad3 0 order1.length 1 :: .any :: .rs ad5 0 out1.length 1 :: .int .i64 many0 :: Ay12 (g16 :: .rs ad3 0 order1.length 1 :: .int .i64 (order1.length : Int) :: .int .i64 x5 :: g17 :: g18 :: Ay3 (g19 :: Ay3 [g20, g21, g22])), [none], h7⟩ ∧ Has h7 ((ad5, .sl out1.length 1 (eInt.l out1)) :: (ad3, .sl order1.length 1 (eInt.l x3)) :: (ad0, .ob [eNode.fz nodes0]) :: L)
def tree_classes.l1.Q (L : Mem) (nodes0 : List VNode) (ad0 : Nat) (ad3 : Nat) (order1 : List Int) (ad3 : Nat) (x3 : (List Int)) (out : (List Int) × Int × Int) (e : Ex) (s : St) : Prop :=
  (e = .exit 2 ∧ ∃ (out1 : List Int) (many0 : Int) (x5 : Int), (out1, many0, x5) = out ∧ ∃ (x3_ : AV) (x24_ : AV) (x37_ : AV) (x38_ : AV) (x39_ : AV) (x40_ : AV) (x61_ : AV) (x76_ : AV) (x90_ : AV) (x110_ : AV) (x126_ : AV) (ad5 : Nat) (h7 : AHeap), s = ⟨.any :: .ptr ad0 0 :: .any :: x3_ :: .any :: .rs ad5 0 out1.length 1 :: .int .i64 many0 :: Ay12 (x24_ :: x37_ :: x38_ :: x39_ :: x40_ :: x61_ :: Ay3 (x76_ :: Ay3 [x90_, x110_, x126_])), [none], h7⟩ ∧ Has h7 ((ad5, .sl out1.length 1 (eInt.l out1)) :: (ad3, .sl order1.length 1 (eInt.l x3)) :: (ad0, .ob [eNode.fz nodes0]) :: L))
theorem tree_classes.l1_ok (L : Mem) (nodes0 : List VNode) (ad0 : Nat) (ad3 : Nat) (order1 : List Int) (ad3 : Nat) (x3 : (List Int))  (S65_ : S65 cf m) {σ : (List Int) × Int × Int} {s : St} {out : (List Int) × Int × Int} (hr : tree_classes.l1.R L nodes0 ad0 ad3 order1 ad3 x3 σ s) (H : (fun k σ => tree_classes.l1 m nodes0 order1 x3 k σ.1 σ.2.1 σ.2.2) m σ = some out) : Enz Tryd.prog cf ann67 m (.loop g67L1) s (tree_classes.l1.Q L nodes0 ad0 ad3 order1 ad3 x3 out) := by
  refine ends_loop (fun k σ => tree_classes.l1 m nodes0 order1 x3 k σ.1 σ.2.1 σ.2.2) (tree_classes.l1.R L nodes0 ad0 ad3 order1 ad3 x3) (tree_classes.l1.Q L nodes0 ad0 ad3 order1 ad3 x3) (fun _ => rfl) ?_ hr H (fun _ _ _ h => h)
  clear hr H σ s out
  rintro k ⟨out1, many0, x5⟩ s out ⟨g16, g17, g18, g19, g20, g21, g22, ad5, h7, rfl, o7⟩ H
  have H : tree_classes.l1 m nodes0 order1 x3 (k + 1) out1 many0 x5 = some out := H
  refine ends_of_eq g67L1_eq ?_
  refine sr [] [] ⟨.any :: .ptr ad0 0 :: .any :: .rs ad3 0 order1.length 1 :: .any :: .rs ad5 0 out1.length 1 :: .int .i64 many0 :: Ay13 (.rs ad3 0 order1.length 1 :: .int .i64 (order1.length : Int) :: .int .i64 x5 :: .bool (decide (x5 < (order1.length : Int))) :: Ay11 []), [none], h7⟩ ((True) ∧ True) (by kernel_rfl) ⟨trivial, trivial⟩ ?_
  refine ends_seq ?_
  refine ends_cond (decide (x5 < (order1.length : Int))) (by kernel_rfl) (fun c1 => ?_) (fun c1 => ?_)
  · have H := ifp c1 H
    refine ends_skip ?_
    refine ends_seq ?_
    refine ends_block ?_
    refine ends_seq ?_
    obtain ⟨v1, e10, H⟩ := bsi H
    refine er [] [(1, .ptr ad3 (0 + x5.toNat * 1), none), (2, .int .i64 v1, none)] ⟨.any :: .ptr ad0 0 :: .any :: .rs ad3 0 order1.length 1 :: .any :: .rs ad5 0 out1.length 1 :: .int .i64 many0 :: .int .i64 x5 :: .int .i64 v1 :: Ay11 (.rs ad3 0 order1.length 1 :: .int .i64 (order1.length : Int) :: .int .i64 x5 :: Ay12 []), [none], h7⟩ ((True) ∧ indexAddrA Tryd.prog 42 (.rs ad3 0 order1.length 1) (.int .i64 x5) = some (.ptr ad3 (0 + x5.toNat * 1)) ∧ loadH Tryd.prog h7 3 (.ptr ad3 (0 + x5.toNat * 1)) = some (.int .i64 v1) ∧ True) (by kernel_rfl) ⟨trivial, ⟨ia_ownL (E := eInt) (l := x3) (q := 1) T42 o7 rfl e10, ld_own0 (E := eInt) (l := x3) (q := 1) o7 rfl A3 e10 rfl, trivial⟩⟩ ?_
    refine ends_seq ?_
    refine ends_seq ?_
    rcases bft (decide (x5 > (0 : Int))) with c2 | c2
    · have H := ifp c2 H
      obtain ⟨v2, e11, H⟩ := bsi H
      obtain ⟨v3, e12, H⟩ := bsi H
      obtain ⟨v4, e13, H⟩ := bsi H
      obtain ⟨x6, e14, H⟩ := bsi H
      refine er [] [(2, .bool true, none), (3, eNode.fz nodes0, none), (7, .ptr ad3 (0 + (i64.wrap (x5 - (1 : Int))).toNat * 1), none), (8, .int .i64 v2, none), (9, .fp (eNode.l nodes0) (v2.toNat * 4), none), (10, .agg [.int .i64 v3.kind, .int .i64 v3.int, .str v3.label, eInt.fz v3.args], none), (11, eNode.fz nodes0, none), (13, .fp (eNode.l nodes0) (v1.toNat * 4), none), (14, .agg [.int .i64 v4.kind, .int .i64 v4.int, .str v4.label, eInt.fz v4.args], none), (15, .int .i64 x6, some h7)] ⟨.any :: .ptr ad0 0 :: .any :: .rs ad3 0 order1.length 1 :: .any :: .rs ad5 0 out1.length 1 :: .int .i64 many0 :: .any :: .int .i64 v1 :: Ay11 (.rs ad3 0 order1.length 1 :: .int .i64 (order1.length : Int) :: .int .i64 x5 :: .any :: .bool (!(x6 == (0 : Int))) :: Ay10 []), [none], h7⟩ ((True) ∧ AV.bool (decide (x5 > (0 : Int))) = AV.bool true ∧ loadH Tryd.prog h7 29 (.ptr ad0 0) = some (eNode.fz nodes0) ∧ indexAddrA Tryd.prog 42 (.rs ad3 0 order1.length 1) (.int .i64 (i64.wrap (x5 - (1 : Int)))) = some (.ptr ad3 (0 + (i64.wrap (x5 - (1 : Int))).toNat * 1)) ∧ loadH Tryd.prog h7 3 (.ptr ad3 (0 + (i64.wrap (x5 - (1 : Int))).toNat * 1)) = some (.int .i64 v2) ∧ indexAddrA Tryd.prog 29 (eNode.fz nodes0) (.int .i64 v2) = some (.fp (eNode.l nodes0) (v2.toNat * 4)) ∧ loadH Tryd.prog h7 48 (.fp (eNode.l nodes0) (v2.toNat * 4)) = some (.agg [.int .i64 v3.kind, .int .i64 v3.int, .str v3.label, eInt.fz v3.args]) ∧ loadH Tryd.prog h7 29 (.ptr ad0 0) = some (eNode.fz nodes0) ∧ indexAddrA Tryd.prog 29 (eNode.fz nodes0) (.int .i64 v1) = some (.fp (eNode.l nodes0) (v1.toNat * 4)) ∧ loadH Tryd.prog h7 48 (.fp (eNode.l nodes0) (v1.toNat * 4)) = some (.agg [.int .i64 v4.kind, .int .i64 v4.int, .str v4.label, eInt.fz v4.args]) ∧ callO cf (.fn 65 []) [.agg [.int .i64 v3.kind, .int .i64 v3.int, .str v3.label, eInt.fz v3.args], .agg [.int .i64 v4.kind, .int .i64 v4.int, .str v4.label, eInt.fz v4.args]] h7 = some (.int .i64 x6, h7) ∧ True) (by kernel_rfl) ⟨trivial, ⟨congrArg AV.bool c2, ld_ob (q := 2) (cs := [eNode.fz nodes0]) o7 rfl (by kernel_rfl), ia_ownL (E := eInt) (l := x3) (q := 1) T42 o7 rfl e11, ld_own0 (E := eInt) (l := x3) (q := 1) o7 rfl A3 e11 rfl, ia_fz (E := eNode) (l := nodes0) T29 e12, ld_fzA (E := eNode) (l := nodes0) h7 A48 Z48 e12, ld_ob (q := 2) (cs := [eNode.fz nodes0]) o7 rfl (by kernel_rfl), ia_fz (E := eNode) (l := nodes0) T29 e13, ld_fzA (E := eNode) (l := nodes0) h7 A48 Z48 e13, callO_of (by kernel_rfl) (S65_ _ _ _ e14 _ _ (frs (fr_cons (fr_agg (fr_cons (fr_int) (fr_cons (fr_int) (fr_cons (fr_str) (fr_cons (fr_fz (E := eInt)) (fr_nil)))))) (fr_cons (fr_agg (fr_cons (fr_int) (fr_cons (fr_int) (fr_cons (fr_str) (fr_cons (fr_fz (E := eInt)) (fr_nil)))))) (fr_nil))))), trivial⟩⟩ ?_
      refine ends_cond (!(x6 == (0 : Int))) (by kernel_rfl) (fun c3 => ?_) (fun c3 => ?_)
      · have H := ifp c3 H
        refine er [] [] ⟨.any :: .ptr ad0 0 :: .any :: .rs ad3 0 order1.length 1 :: .any :: .rs ad5 0 out1.length 1 :: .int .i64 (i64.wrap (many0 + (1 : Int))) :: .any :: .int .i64 v1 :: Ay11 (.rs ad3 0 order1.length 1 :: .int .i64 (order1.length : Int) :: .int .i64 x5 :: Ay12 []), [none], h7⟩ ((True) ∧ True) (by kernel_rfl) ⟨trivial, trivial⟩ ?_
        obtain ⟨v5, e15, H⟩ := bsi H
        obtain ⟨h8, e16, o8⟩ := st_own (P := Tryd.prog) (tf := 3) (E := eInt) (l := out1) (q := 0) (v := (i64.wrap (many0 + (1 : Int)))) (x := .int .i64 (i64.wrap (many0 + (1 : Int)))) o7 rfl Z3 e15 rfl rfl
        refine er [] [(3, .ptr ad5 (0 + v1.toNat * 1), none), (4, .any, some h8)] ⟨.any :: .ptr ad0 0 :: .any :: .rs ad3 0 order1.length 1 :: .any :: .rs ad5 0 out1.length 1 :: .int .i64 (i64.wrap (many0 + (1 : Int))) :: Ay13 (.rs ad3 0 order1.length 1 :: .int .i64 (order1.length : Int) :: .int .i64 x5 :: Ay12 []), [none], h8⟩ ((True) ∧ indexAddrA Tryd.prog 42 (.rs ad5 0 out1.length 1) (.int .i64 v1) = some (.ptr ad5 (0 + v1.toNat * 1)) ∧ storeH Tryd.prog h7 3 (.ptr ad5 (0 + v1.toNat * 1)) (.int .i64 (i64.wrap (many0 + (1 : Int)))) = some h8 ∧ True) (by kernel_rfl) ⟨trivial, ⟨ia_ownL (E := eInt) (l := out1) (q := 0) T42 o7 rfl e15, e16, trivial⟩⟩ ?_
        refine er [] [] ⟨.any :: .ptr ad0 0 :: .any :: .rs ad3 0 order1.length 1 :: .any :: .rs ad5 0 out1.length 1 :: .int .i64 (i64.wrap (many0 + (1 : Int))) :: Ay13 (.rs ad3 0 order1.length 1 :: .int .i64 (order1.length : Int) :: .int .i64 (i64.wrap (x5 + (1 : Int))) :: Ay12 []), [none], h8⟩ ((True) ∧ True) (by kernel_rfl) ⟨trivial, trivial⟩ ?_
        exact ⟨(out1.set v1.toNat (i64.wrap (many0 + (1 : Int))), i64.wrap (many0 + (1 : Int)), i64.wrap (x5 + (1 : Int))), ⟨.any, .any, .any, .any, .any, .any, .any, ad5, h8, (by simp only [List.length_set]), (by have o : Has h8 ((ad5, .sl out1.length 1 (eInt.l (out1.set v1.toNat (i64.wrap (many0 + (1 : Int)))))) :: (ad3, .sl order1.length 1 (eInt.l x3)) :: (ad0, .ob [eNode.fz nodes0]) :: L) := o8; simpa only [List.length_set] using o)⟩, H⟩
      · have H := ifn c3 H
        refine ends_skip ?_
        obtain ⟨v6, e17, H⟩ := bsi H
        obtain ⟨h9, e18, o9⟩ := st_own (P := Tryd.prog) (tf := 3) (E := eInt) (l := out1) (q := 0) (v := many0) (x := .int .i64 many0) o7 rfl Z3 e17 rfl rfl
        refine er [] [(3, .ptr ad5 (0 + v1.toNat * 1), none), (4, .any, some h9)] ⟨.any :: .ptr ad0 0 :: .any :: .rs ad3 0 order1.length 1 :: .any :: .rs ad5 0 out1.length 1 :: .int .i64 many0 :: Ay13 (.rs ad3 0 order1.length 1 :: .int .i64 (order1.length : Int) :: .int .i64 x5 :: Ay12 []), [none], h9⟩ ((True) ∧ indexAddrA Tryd.prog 42 (.rs ad5 0 out1.length 1) (.int .i64 v1) = some (.ptr ad5 (0 + v1.toNat * 1)) ∧ storeH Tryd.prog h7 3 (.ptr ad5 (0 + v1.toNat * 1)) (.int .i64 many0) = some h9 ∧ True) (by kernel_rfl) ⟨trivial, ⟨ia_ownL (E := eInt) (l := out1) (q := 0) T42 o7 rfl e17, e18, trivial⟩⟩ ?_
        refine er [] [] ⟨.any :: .ptr ad0 0 :: .any :: .rs ad3 0 order1.length 1 :: .any :: .rs ad5 0 out1.length 1 :: .int .i64 many0 :: Ay13 (.rs ad3 0 order1.length 1 :: .int .i64 (order1.length : Int) :: .int .i64 (i64.wrap (x5 + (1 : Int))) :: Ay12 []), [none], h9⟩ ((True) ∧ True) (by kernel_rfl) ⟨trivial, trivial⟩ ?_
        exact ⟨(out1.set v1.toNat many0, many0, i64.wrap (x5 + (1 : Int))), ⟨.any, .any, .any, .any, .any, .any, .any, ad5, h9, (by simp only [List.length_set]), (by have o : Has h9 ((ad5, .sl out1.length 1 (eInt.l (out1.set v1.toNat many0))) :: (ad3, .sl order1.length 1 (eInt.l x3)) :: (ad0, .ob [eNode.fz nodes0]) :: L) := o9; simpa only [List.length_set] using o)⟩, H⟩
    · have H := ifn c2 H
      refine er [] [(2, .bool false, none)] ⟨.any :: .ptr ad0 0 :: .any :: .rs ad3 0 order1.length 1 :: .any :: .rs ad5 0 out1.length 1 :: .int .i64 many0 :: .any :: .int .i64 v1 :: Ay11 (.rs ad3 0 order1.length 1 :: .int .i64 (order1.length : Int) :: .int .i64 x5 :: .any :: .bool false :: Ay10 []), [none], h7⟩ ((True) ∧ AV.bool (decide (x5 > (0 : Int))) = AV.bool false ∧ True) (by kernel_rfl) ⟨trivial, ⟨congrArg AV.bool c2, trivial⟩⟩ ?_
      refine ends_cond false (by kernel_rfl) (fun c4 => ?_) (fun c4 => ?_)
      · cases c4
      refine ends_skip ?_
      obtain ⟨v7, e19, H⟩ := bsi H
      obtain ⟨h10, e20, o10⟩ := st_own (P := Tryd.prog) (tf := 3) (E := eInt) (l := out1) (q := 0) (v := many0) (x := .int .i64 many0) o7 rfl Z3 e19 rfl rfl
      refine er [] [(3, .ptr ad5 (0 + v1.toNat * 1), none), (4, .any, some h10)] ⟨.any :: .ptr ad0 0 :: .any :: .rs ad3 0 order1.length 1 :: .any :: .rs ad5 0 out1.length 1 :: .int .i64 many0 :: Ay13 (.rs ad3 0 order1.length 1 :: .int .i64 (order1.length : Int) :: .int .i64 x5 :: Ay12 []), [none], h10⟩ ((True) ∧ indexAddrA Tryd.prog 42 (.rs ad5 0 out1.length 1) (.int .i64 v1) = some (.ptr ad5 (0 + v1.toNat * 1)) ∧ storeH Tryd.prog h7 3 (.ptr ad5 (0 + v1.toNat * 1)) (.int .i64 many0) = some h10 ∧ True) (by kernel_rfl) ⟨trivial, ⟨ia_ownL (E := eInt) (l := out1) (q := 0) T42 o7 rfl e19, e20, trivial⟩⟩ ?_
      refine er [] [] ⟨.any :: .ptr ad0 0 :: .any :: .rs ad3 0 order1.length 1 :: .any :: .rs ad5 0 out1.length 1 :: .int .i64 many0 :: Ay13 (.rs ad3 0 order1.length 1 :: .int .i64 (order1.length : Int) :: .int .i64 (i64.wrap (x5 + (1 : Int))) :: Ay12 []), [none], h10⟩ ((True) ∧ True) (by kernel_rfl) ⟨trivial, trivial⟩ ?_
      exact ⟨(out1.set v1.toNat many0, many0, i64.wrap (x5 + (1 : Int))), ⟨.any, .any, .any, .any, .any, .any, .any, ad5, h10, (by simp only [List.length_set]), (by have o : Has h10 ((ad5, .sl out1.length 1 (eInt.l (out1.set v1.toNat many0))) :: (ad3, .sl order1.length 1 (eInt.l x3)) :: (ad0, .ob [eNode.fz nodes0]) :: L) := o10; simpa only [List.length_set] using o)⟩, H⟩
  · have H := ifn c1 H
    refine ends_exit ?_
    have H := Option.some.inj H
    exact ⟨rfl, out1, many0, x5, H, .rs ad3 0 order1.length 1, .any, .rs ad3 0 order1.length 1, .int .i64 (order1.length : Int), .int .i64 x5, .bool (decide (x5 < (order1.length : Int))), .any, .any, .any, .any, .any, ad5, h7, (by simp only [List.length_set]), (by have o : Has h7 ((ad5, .sl out1.length 1 (eInt.l out1)) :: (ad3, .sl order1.length 1 (eInt.l x3)) :: (ad0, .ob [eNode.fz nodes0]) :: L) := o7; simpa only [List.length_set] using o)⟩
def tree_classes.l4.R (L : Mem) (nodes0 : List VNode) (ad0 : Nat) (ad7 : Nat) (out4 : List Int) (many2 : Int) (ad7 : Nat) (ad8 : Nat) (ad10 : Nat) (seen0 : List (List Int × Int)) (next0 : List Int) (x9 : Int) (ad10 : Nat) (v8 : VNode) (ad11 : Nat) (σ : (List Int) × Int) (s : St) : Prop :=
  match σ with
  | (k0, x10) => ∃ (g52 : AV) (g53 : AV) (g54 : AV) (g55 : AV) (g56 : AV) (g57 : AV) (g58 : AV) (h18 : AHeap), s = ⟨.any :: .ptr ad0 0 :: Ay3 (.rs ad7 0 out4.length 1 :: .int .i64 many2 :: .any :: .any :: .mp ad8 :: .rs ad10 0 next0.length 1 :: .int .i64 x9 :: .any :: .ptr ad11 0 :: Ay5 (g52 :: Ay3 [g53, g54, eNode.fz nodes0, .int .i64 (nodes0.length : Int), .int .i64 x9, g55, eInt.fz v8.args, .int .i64 (v8.args.length : Int), .int .i64 x10, g56, g57, g58])), [none], h18⟩ ∧ Has h18 ((ad11, .sl 9 1 (eInt.l k0)) :: (ad10, .sl next0.length 1 (eInt.l next0)) :: (ad8, .mp (mpA seen0)) :: (ad7, .sl out4.length 1 (eInt.l out4)) :: (ad0, .ob [eNode.fz nodes0]) :: L)
def tree_classes.l4.Q (L : Mem) (nodes0 : List VNode) (ad0 : Nat) (ad7 : Nat) (out4 : List Int) (many2 : Int) (ad7 : Nat) (ad8 : Nat) (ad10 : Nat) (seen0 : List (List Int × Int)) (next0 : List Int) (x9 : Int) (ad10 : Nat) (v8 : VNode) (ad11 : Nat) (out : (List Int) × Int) (e : Ex) (s : St) : Prop :=
  (e = .exit 8 ∧ ∃ (k0 : List Int) (x10 : Int), (k0, x10) = out ∧ ∃ (x24_ : AV) (x40_ : AV) (x61_ : AV) (x76_ : AV) (x87_ : AV) (x88_ : AV) (x89_ : AV) (x90_ : AV) (x110_ : AV) (x126_ : AV) (h18 : AHeap), s = ⟨.any :: .ptr ad0 0 :: Ay3 (.rs ad7 0 out4.length 1 :: .int .i64 many2 :: .any :: .any :: .mp ad8 :: .rs ad10 0 next0.length 1 :: .int .i64 x9 :: .any :: .ptr ad11 0 :: Ay5 (x24_ :: Ay3 [x40_, x61_, eNode.fz nodes0, .int .i64 (nodes0.length : Int), .int .i64 x9, x76_, x87_, x88_, x89_, x90_, x110_, x126_])), [none], h18⟩ ∧ Has h18 ((ad11, .sl 9 1 (eInt.l k0)) :: (ad10, .sl next0.length 1 (eInt.l next0)) :: (ad8, .mp (mpA seen0)) :: (ad7, .sl out4.length 1 (eInt.l out4)) :: (ad0, .ob [eNode.fz nodes0]) :: L))
theorem tree_classes.l4_ok (L : Mem) (nodes0 : List VNode) (ad0 : Nat) (ad7 : Nat) (out4 : List Int) (many2 : Int) (ad7 : Nat) (ad8 : Nat) (ad10 : Nat) (seen0 : List (List Int × Int)) (next0 : List Int) (x9 : Int) (ad10 : Nat) (v8 : VNode) (ad11 : Nat)   {σ : (List Int) × Int} {s : St} {out : (List Int) × Int} (hr : tree_classes.l4.R L nodes0 ad0 ad7 out4 many2 ad7 ad8 ad10 seen0 next0 x9 ad10 v8 ad11 σ s) (H : (fun k σ => tree_classes.l4 m out4 v8 k σ.1 σ.2) m σ = some out) : Enz Tryd.prog cf ann67 m (.loop g67L4) s (tree_classes.l4.Q L nodes0 ad0 ad7 out4 many2 ad7 ad8 ad10 seen0 next0 x9 ad10 v8 ad11 out) := by
  refine ends_loop (fun k σ => tree_classes.l4 m out4 v8 k σ.1 σ.2) (tree_classes.l4.R L nodes0 ad0 ad7 out4 many2 ad7 ad8 ad10 seen0 next0 x9 ad10 v8 ad11) (tree_classes.l4.Q L nodes0 ad0 ad7 out4 many2 ad7 ad8 ad10 seen0 next0 x9 ad10 v8 ad11) (fun _ => rfl) ?_ hr H (fun _ _ _ h => h)
  clear hr H σ s out
  rintro k ⟨k0, x10⟩ s out ⟨g52, g53, g54, g55, g56, g57, g58, h18, rfl, o19⟩ H
  have H : tree_classes.l4 m out4 v8 (k + 1) k0 x10 = some out := H
  refine ends_of_eq g67L4_eq ?_
  refine sr [] [] ⟨.any :: .ptr ad0 0 :: Ay3 (.rs ad7 0 out4.length 1 :: .int .i64 many2 :: .any :: .any :: .mp ad8 :: .rs ad10 0 next0.length 1 :: .int .i64 x9 :: .any :: .ptr ad11 0 :: Ay11 [eNode.fz nodes0, .int .i64 (nodes0.length : Int), .int .i64 x9, .any, eInt.fz v8.args, .int .i64 (v8.args.length : Int), .int .i64 x10, .bool (decide (x10 < (v8.args.length : Int))), .any, .any]), [none], h18⟩ ((True) ∧ True) (by kernel_rfl) ⟨trivial, trivial⟩ ?_
  refine ends_seq ?_
  refine ends_cond (decide (x10 < (v8.args.length : Int))) (by kernel_rfl) (fun c6 => ?_) (fun c6 => ?_)
  · have H := ifp c6 H
    refine ends_skip ?_
    refine ends_seq ?_
    refine ends_block ?_
    refine ends_seq ?_
    obtain ⟨v10, e29, H⟩ := bsi H
    refine er [] [(1, .fp (eInt.l v8.args) (x10.toNat * 1), none), (2, .int .i64 v10, none)] ⟨.any :: .ptr ad0 0 :: Ay3 (.rs ad7 0 out4.length 1 :: .int .i64 many2 :: .any :: .any :: .mp ad8 :: .rs ad10 0 next0.length 1 :: .int .i64 x9 :: .any :: .ptr ad11 0 :: .int .i64 x10 :: .int .i64 v10 :: Ay9 (eNode.fz nodes0 :: .int .i64 (nodes0.length : Int) :: .int .i64 x9 :: .any :: eInt.fz v8.args :: .int .i64 (v8.args.length : Int) :: .int .i64 x10 :: Ay3 [])), [none], h18⟩ ((True) ∧ indexAddrA Tryd.prog 42 (eInt.fz v8.args) (.int .i64 x10) = some (.fp (eInt.l v8.args) (x10.toNat * 1)) ∧ loadH Tryd.prog h18 3 (.fp (eInt.l v8.args) (x10.toNat * 1)) = some (.int .i64 v10) ∧ True) (by kernel_rfl) ⟨trivial, ⟨ia_fz (E := eInt) (l := v8.args) T42 e29, ld_fz0 (E := eInt) (l := v8.args) h18 A3 e29 rfl, trivial⟩⟩ ?_
    obtain ⟨v11, e30, H⟩ := bsi H
    obtain ⟨v12, e31, H⟩ := bsi H
    obtain ⟨h19, e32, o20⟩ := st_own (P := Tryd.prog) (tf := 3) (E := eInt) (l := k0) (q := 0) (v := (i64.wrap (v11 + (1 : Int)))) (x := .int .i64 (i64.wrap (v11 + (1 : Int)))) o19 rfl Z3 e31 rfl rfl
    refine er [] [(4, .ptr ad7 (0 + v10.toNat * 1), none), (5, .int .i64 v11, none), (7, .ptr ad11 (0 + (i64.wrap (x10 + (1 : Int))).toNat * 1), none), (8, .any, some h19)] ⟨.any :: .ptr ad0 0 :: Ay3 (.rs ad7 0 out4.length 1 :: .int .i64 many2 :: .any :: .any :: .mp ad8 :: .rs ad10 0 next0.length 1 :: .int .i64 x9 :: .any :: .ptr ad11 0 :: Ay11 (eNode.fz nodes0 :: .int .i64 (nodes0.length : Int) :: .int .i64 x9 :: .any :: eInt.fz v8.args :: .int .i64 (v8.args.length : Int) :: .int .i64 x10 :: Ay3 [])), [none], h19⟩ ((True) ∧ indexAddrA Tryd.prog 42 (.rs ad7 0 out4.length 1) (.int .i64 v10) = some (.ptr ad7 (0 + v10.toNat * 1)) ∧ loadH Tryd.prog h18 3 (.ptr ad7 (0 + v10.toNat * 1)) = some (.int .i64 v11) ∧ indexAddrA Tryd.prog 116 (.ptr ad11 0) (.int .i64 (i64.wrap (x10 + (1 : Int)))) = some (.ptr ad11 (0 + (i64.wrap (x10 + (1 : Int))).toNat * 1)) ∧ storeH Tryd.prog h18 3 (.ptr ad11 (0 + (i64.wrap (x10 + (1 : Int))).toNat * 1)) (.int .i64 (i64.wrap (v11 + (1 : Int)))) = some h19 ∧ True) (by kernel_rfl) ⟨trivial, ⟨ia_ownL (E := eInt) (l := out4) (q := 3) T42 o19 rfl e30, ld_own0 (E := eInt) (l := out4) (q := 3) o19 rfl A3 e30 rfl, ia_arr (q := 0) (l := k0) AR116 o19 rfl e31, e32, trivial⟩⟩ ?_
    refine er [] [] ⟨.any :: .ptr ad0 0 :: Ay3 (.rs ad7 0 out4.length 1 :: .int .i64 many2 :: .any :: .any :: .mp ad8 :: .rs ad10 0 next0.length 1 :: .int .i64 x9 :: .any :: .ptr ad11 0 :: Ay11 (eNode.fz nodes0 :: .int .i64 (nodes0.length : Int) :: .int .i64 x9 :: .any :: eInt.fz v8.args :: .int .i64 (v8.args.length : Int) :: .int .i64 (i64.wrap (x10 + (1 : Int))) :: Ay3 [])), [none], h19⟩ ((True) ∧ True) (by kernel_rfl) ⟨trivial, trivial⟩ ?_
    exact ⟨(k0.set (i64.wrap (x10 + (1 : Int))).toNat (i64.wrap (v11 + (1 : Int))), i64.wrap (x10 + (1 : Int))), ⟨.any, .any, .any, .any, .any, .any, .any, h19, rfl, o20⟩, H⟩
  · have H := ifn c6 H
    refine ends_exit ?_
    have H := Option.some.inj H
    exact ⟨rfl, k0, x10, H, .any, .any, .any, .any, eInt.fz v8.args, .int .i64 (v8.args.length : Int), .int .i64 x10, .bool (decide (x10 < (v8.args.length : Int))), .any, .any, h18, rfl, o19⟩
def tree_classes.l3.R (L : Mem) (nodes0 : List VNode) (ad0 : Nat) (ad7 : Nat) (out4 : List Int) (many2 : Int) (ad7 : Nat) (ad8 : Nat) (σ : (List (List Int × Int)) × (List Int) × Int) (s : St) : Prop :=
  match σ with
  | (seen0, next0, x9) => ∃ (g45 : AV) (g46 : AV) (g47 : AV) (g48 : AV) (g49 : AV) (g50 : AV) (g51 : AV) (ad10 : Nat) (h15 : AHeap), s = ⟨.any :: .ptr ad0 0 :: Ay3 (.rs ad7 0 out4.length 1 :: .int .i64 many2 :: .any :: .any :: .mp ad8 :: .rs ad10 0 next0.length 1 :: Ay8 (g45 :: Ay3 (g46 :: g47 :: eNode.fz nodes0 :: .int .i64 (nodes0.length : Int) :: .int .i64 x9 :: g48 :: Ay3 [g49, g50, g51]))), [none], h15⟩ ∧ Has h15 ((ad10, .sl next0.length 1 (eInt.l next0)) :: (ad8, .mp (mpA seen0)) :: (ad7, .sl out4.length 1 (eInt.l out4)) :: (ad0, .ob [eNode.fz nodes0]) :: L)
def tree_classes.l3.Q (L : Mem) (nodes0 : List VNode) (ad0 : Nat) (ad7 : Nat) (out4 : List Int) (many2 : Int) (ad7 : Nat) (ad8 : Nat) (out : (List (List Int × Int)) × (List Int) × Int) (e : Ex) (s : St) : Prop :=
  (e = .exit 6 ∧ ∃ (seen0 : List (List Int × Int)) (next0 : List Int) (x9 : Int), (seen0, next0, x9) = out ∧ ∃ (x24_ : AV) (x40_ : AV) (x61_ : AV) (x73_ : AV) (x74_ : AV) (x75_ : AV) (x76_ : AV) (x90_ : AV) (x110_ : AV) (x126_ : AV) (ad10 : Nat) (h15 : AHeap), s = ⟨.any :: .ptr ad0 0 :: Ay3 (.rs ad7 0 out4.length 1 :: .int .i64 many2 :: .any :: .any :: .mp ad8 :: .rs ad10 0 next0.length 1 :: Ay8 (x24_ :: Ay3 (x40_ :: x61_ :: x73_ :: x74_ :: x75_ :: x76_ :: Ay3 [x90_, x110_, x126_]))), [none], h15⟩ ∧ Has h15 ((ad10, .sl next0.length 1 (eInt.l next0)) :: (ad8, .mp (mpA seen0)) :: (ad7, .sl out4.length 1 (eInt.l out4)) :: (ad0, .ob [eNode.fz nodes0]) :: L))
theorem tree_classes.l3_ok (L : Mem) (nodes0 : List VNode) (ad0 : Nat) (ad7 : Nat) (out4 : List Int) (many2 : Int) (ad7 : Nat) (ad8 : Nat)   {σ : (List (List Int × Int)) × (List Int) × Int} {s : St} {out : (List (List Int × Int)) × (List Int) × Int} (hr : tree_classes.l3.R L nodes0 ad0 ad7 out4 many2 ad7 ad8 σ s) (H : (fun k σ => tree_classes.l3 m nodes0 out4 k σ.1 σ.2.1 σ.2.2) m σ = some out) : Enz Tryd.prog cf ann67 m (.loop g67L3) s (tree_classes.l3.Q L nodes0 ad0 ad7 out4 many2 ad7 ad8 out) := by
  refine ends_loop (fun k σ => tree_classes.l3 m nodes0 out4 k σ.1 σ.2.1 σ.2.2) (tree_classes.l3.R L nodes0 ad0 ad7 out4 many2 ad7 ad8) (tree_classes.l3.Q L nodes0 ad0 ad7 out4 many2 ad7 ad8) (fun _ => rfl) ?_ hr H (fun _ _ _ h => h)
  clear hr H σ s out
  rintro k ⟨seen0, next0, x9⟩ s out ⟨g45, g46, g47, g48, g49, g50, g51, ad10, h15, rfl, o16⟩ H
  have H : tree_classes.l3 m nodes0 out4 (k + 1) seen0 next0 x9 = some out := H
  refine ends_of_eq g67L3_eq ?_
  refine sr [] [] ⟨.any :: .ptr ad0 0 :: Ay3 (.rs ad7 0 out4.length 1 :: .int .i64 many2 :: .any :: .any :: .mp ad8 :: .rs ad10 0 next0.length 1 :: Ay14 (eNode.fz nodes0 :: .int .i64 (nodes0.length : Int) :: .int .i64 x9 :: .bool (decide (x9 < (nodes0.length : Int))) :: Ay6 [])), [none], h15⟩ ((True) ∧ True) (by kernel_rfl) ⟨trivial, trivial⟩ ?_
  refine ends_seq ?_
  refine ends_cond (decide (x9 < (nodes0.length : Int))) (by kernel_rfl) (fun c5 => ?_) (fun c5 => ?_)
  · have H := ifp c5 H
    refine ends_skip ?_
    refine ends_seq ?_
    refine ends_block ?_
    refine ends_seq ?_
    obtain ⟨v8, e25, H⟩ := bsi H
    refine er [] [(1, .fp (eNode.l nodes0) (x9.toNat * 4), none), (2, .agg [.int .i64 v8.kind, .int .i64 v8.int, .str v8.label, eInt.fz v8.args], none)] ⟨.any :: .ptr ad0 0 :: Ay3 (.rs ad7 0 out4.length 1 :: .int .i64 many2 :: .any :: .any :: .mp ad8 :: .rs ad10 0 next0.length 1 :: .int .i64 x9 :: .lp 12 0 :: Ay12 (eNode.fz nodes0 :: .int .i64 (nodes0.length : Int) :: .int .i64 x9 :: Ay7 [])), [some [.int .i64 v8.kind, .int .i64 v8.int, .str v8.label, eInt.fz v8.args]], h15⟩ ((True) ∧ indexAddrA Tryd.prog 29 (eNode.fz nodes0) (.int .i64 x9) = some (.fp (eNode.l nodes0) (x9.toNat * 4)) ∧ loadH Tryd.prog h15 48 (.fp (eNode.l nodes0) (x9.toNat * 4)) = some (.agg [.int .i64 v8.kind, .int .i64 v8.int, .str v8.label, eInt.fz v8.args]) ∧ True) (by kernel_rfl) ⟨trivial, ⟨ia_fz (E := eNode) (l := nodes0) T29 e25, ld_fzA (E := eNode) (l := nodes0) h15 A48 Z48 e25, trivial⟩⟩ ?_
    refine ends_seq ?_
    obtain ⟨v9, e26, H⟩ := bsi H
    obtain ⟨ad11, h16, e27, o17⟩ := arr_new (cs := [.int .i64 (0 : Int), .int .i64 (0 : Int), .int .i64 (0 : Int), .int .i64 (0 : Int), .int .i64 (0 : Int), .int .i64 (0 : Int), .int .i64 (0 : Int), .int .i64 (0 : Int), .int .i64 (0 : Int)]) (l := [(0 : Int), (0 : Int), (0 : Int), (0 : Int), (0 : Int), (0 : Int), (0 : Int), (0 : Int), (0 : Int)]) o16 (by kernel_rfl)
    obtain ⟨h17, e28, o18⟩ := st_arr (q := 0) (l := ([(0 : Int), (0 : Int), (0 : Int), (0 : Int), (0 : Int), (0 : Int), (0 : Int), (0 : Int), (0 : Int)])) (l' := [i64.wrap (v9 + (1 : Int)), (0 : Int), (0 : Int), (0 : Int), (0 : Int), (0 : Int), (0 : Int), (0 : Int), (0 : Int)]) (x := .agg [.int .i64 (i64.wrap (v9 + (1 : Int))), .int .i64 (0 : Int), .int .i64 (0 : Int), .int .i64 (0 : Int), .int .i64 (0 : Int), .int .i64 (0 : Int), .int .i64 (0 : Int), .int .i64 (0 : Int), .int .i64 (0 : Int)]) AR116 o17 rfl rfl rfl
    refine er [] [(2, .ptr ad7 (0 + x9.toNat * 1), none), (3, .int .i64 v9, none), (6, .ptr ad11 0, some h16), (7, .any, some h17)] ⟨.any :: .ptr ad0 0 :: Ay3 (.rs ad7 0 out4.length 1 :: .int .i64 many2 :: .any :: .any :: .mp ad8 :: .rs ad10 0 next0.length 1 :: .int .i64 x9 :: .lp 12 0 :: .ptr ad11 0 :: Ay11 (eNode.fz nodes0 :: .int .i64 (nodes0.length : Int) :: .int .i64 x9 :: Ay7 [])), [some [.int .i64 v8.kind, .int .i64 v8.int, .str v8.label, eInt.fz v8.args]], h17⟩ ((True) ∧ indexAddrA Tryd.prog 42 (.rs ad7 0 out4.length 1) (.int .i64 x9) = some (.ptr ad7 (0 + x9.toNat * 1)) ∧ loadH Tryd.prog h15 3 (.ptr ad7 (0 + x9.toNat * 1)) = some (.int .i64 v9) ∧ boxH h15 [.int .i64 (0 : Int), .int .i64 (0 : Int), .int .i64 (0 : Int), .int .i64 (0 : Int), .int .i64 (0 : Int), .int .i64 (0 : Int), .int .i64 (0 : Int), .int .i64 (0 : Int), .int .i64 (0 : Int)] = some (.ptr ad11 0, h16) ∧ storeH Tryd.prog h16 116 (.ptr ad11 0) (.agg [.int .i64 (i64.wrap (v9 + (1 : Int))), .int .i64 (0 : Int), .int .i64 (0 : Int), .int .i64 (0 : Int), .int .i64 (0 : Int), .int .i64 (0 : Int), .int .i64 (0 : Int), .int .i64 (0 : Int), .int .i64 (0 : Int)]) = some h17 ∧ True) (by kernel_rfl) ⟨trivial, ⟨ia_ownL (E := eInt) (l := out4) (q := 2) T42 o16 rfl e26, ld_own0 (E := eInt) (l := out4) (q := 2) o16 rfl A3 e26 rfl, e27, e28, trivial⟩⟩ ?_
    refine ends_seq ?_
    refine sr [] [] ⟨.any :: .ptr ad0 0 :: Ay3 (.rs ad7 0 out4.length 1 :: .int .i64 many2 :: .any :: .any :: .mp ad8 :: .rs ad10 0 next0.length 1 :: .int .i64 x9 :: .any :: .ptr ad11 0 :: Ay11 (eNode.fz nodes0 :: .int .i64 (nodes0.length : Int) :: .int .i64 x9 :: .any :: eInt.fz v8.args :: .int .i64 (v8.args.length : Int) :: .int .i64 (0 : Int) :: Ay3 [])), [none], h17⟩ ((True) ∧ True) (by kernel_rfl) ⟨trivial, trivial⟩ ?_
    refine ends_block ?_
    obtain ⟨out5, e33, H⟩ := bsi H
    refine ends_mono (tree_classes.l4_ok L nodes0 ad0 ad7 out4 many2 ad7 ad8 ad10 seen0 next0 x9 ad10 v8 ad11   (σ := ([i64.wrap (v9 + (1 : Int)), (0 : Int), (0 : Int), (0 : Int), (0 : Int), (0 : Int), (0 : Int), (0 : Int), (0 : Int)], (0 : Int))) ⟨.any, .any, .any, .any, .any, .any, .any, h17, rfl, o18⟩ e33) ?_
    rintro e s ⟨rfl, k1, x11, rfl, g59, g60, g61, g62, g63, g64, g65, g66, g67, g68, h20, rfl, o21⟩
    try dsimp only at H
    refine ends_seq ?_
    refine ends_seq ?_
    obtain ⟨r0, e34, H⟩ := bsi H
    refine er [] [(1, .agg (eInt.l k1), none), (2, .tup [.int .i64 r0.1, .bool r0.2], none)] ⟨.any :: .ptr ad0 0 :: Ay3 (.rs ad7 0 out4.length 1 :: .int .i64 many2 :: .any :: .any :: .mp ad8 :: .rs ad10 0 next0.length 1 :: .int .i64 x9 :: .any :: .ptr ad11 0 :: .any :: .any :: .bool r0.2 :: Ay8 (eNode.fz nodes0 :: .int .i64 (nodes0.length : Int) :: .int .i64 x9 :: Ay7 [])), [none], h20⟩ ((True) ∧ loadH Tryd.prog h20 116 (.ptr ad11 0) = some (.agg (eInt.l k1)) ∧ lookupA Tryd.prog h20 114 (.mp ad8) (.agg (eInt.l k1)) true = some (.tup [.int .i64 r0.1, .bool r0.2]) ∧ True) (by kernel_rfl) ⟨trivial, ⟨ld_arr (q := 0) (l := k1) AR116 o21 rfl, (lk_A (q := 2) (l := seen0) (k := k1) MP114 o21 rfl e34).1, trivial⟩⟩ ?_
    refine sr [] [] ⟨.any :: .ptr ad0 0 :: Ay3 (.rs ad7 0 out4.length 1 :: .int .i64 many2 :: .any :: .any :: .mp ad8 :: .rs ad10 0 next0.length 1 :: .int .i64 x9 :: .any :: .ptr ad11 0 :: Ay11 (eNode.fz nodes0 :: .int .i64 (nodes0.length : Int) :: .int .i64 x9 :: Ay5 [.bool (!r0.2), .any])), [none], h20⟩ ((True) ∧ True) (by kernel_rfl) ⟨trivial, trivial⟩ ?_
    refine ends_cond (!r0.2) (by kernel_rfl) (fun c7 => ?_) (fun c7 => ?_)
    · have H := ifp c7 H
      obtain ⟨mp0, e35, H⟩ := bsi H
      obtain ⟨h21, e36, o22⟩ := mu_A (q := 2) (l := seen0) (k := k1) (v := (seen0.length : Int)) MP114 o21 rfl e35
      refine er [] [(1, .agg (eInt.l k1), none), (3, .int .i64 (seen0.length : Int), none), (4, .any, some h21)] ⟨.any :: .ptr ad0 0 :: Ay3 (.rs ad7 0 out4.length 1 :: .int .i64 many2 :: .any :: .any :: .mp ad8 :: .rs ad10 0 next0.length 1 :: .int .i64 x9 :: .any :: .ptr ad11 0 :: Ay11 (eNode.fz nodes0 :: .int .i64 (nodes0.length : Int) :: .int .i64 x9 :: Ay7 [])), [none], h21⟩ ((True) ∧ loadH Tryd.prog h20 116 (.ptr ad11 0) = some (.agg (eInt.l k1)) ∧ lenA Tryd.prog h20 114 (.mp ad8) = some (.int .i64 (seen0.length : Int)) ∧ mapUpdA Tryd.prog h20 114 (.mp ad8) (.agg (eInt.l k1)) (.int .i64 (seen0.length : Int)) = some h21 ∧ True) (by kernel_rfl) ⟨trivial, ⟨ld_arr (q := 0) (l := k1) AR116 o21 rfl, ln_A (q := 2) (l := seen0) MU114 o21 rfl, e36, trivial⟩⟩ ?_
      obtain ⟨r1, e37, H⟩ := bsi H
      obtain ⟨v13, e38, H⟩ := bsi H
      obtain ⟨h22, e39, o23⟩ := st_own (P := Tryd.prog) (tf := 3) (E := eInt) (l := next0) (q := 1) (v := r1.1) (x := .int .i64 r1.1) o22 rfl Z3 e38 rfl rfl
      refine er [] [(3, .agg (eInt.l k1), none), (4, .int .i64 r1.1, none), (5, .ptr ad10 (0 + x9.toNat * 1), none), (6, .any, some h22)] ⟨.any :: .ptr ad0 0 :: Ay3 (.rs ad7 0 out4.length 1 :: .int .i64 many2 :: .any :: .any :: .mp ad8 :: .rs ad10 0 next0.length 1 :: Ay14 (eNode.fz nodes0 :: .int .i64 (nodes0.length : Int) :: .int .i64 x9 :: Ay7 [])), [none], h22⟩ ((True) ∧ loadH Tryd.prog h21 116 (.ptr ad11 0) = some (.agg (eInt.l k1)) ∧ lookupA Tryd.prog h21 114 (.mp ad8) (.agg (eInt.l k1)) false = some (.int .i64 r1.1) ∧ indexAddrA Tryd.prog 42 (.rs ad10 0 next0.length 1) (.int .i64 x9) = some (.ptr ad10 (0 + x9.toNat * 1)) ∧ storeH Tryd.prog h21 3 (.ptr ad10 (0 + x9.toNat * 1)) (.int .i64 r1.1) = some h22 ∧ True) (by kernel_rfl) ⟨trivial, ⟨ld_arr (q := 0) (l := k1) AR116 o22 rfl, (lk_A (q := 2) (l := mp0) (k := k1) MP114 o22 rfl e37).2, ia_ownL (E := eInt) (l := next0) (q := 1) T42 o22 rfl e38, e39, trivial⟩⟩ ?_
      have o24 : Has h22 ((ad10, .sl next0.length 1 (eInt.l (next0.set x9.toNat r1.1))) :: (ad8, .mp (mpA mp0)) :: (ad7, .sl out4.length 1 (eInt.l out4)) :: (ad0, .ob [eNode.fz nodes0]) :: L) := Has.del o23 0
      refine er [] [] ⟨.any :: .ptr ad0 0 :: Ay3 (.rs ad7 0 out4.length 1 :: .int .i64 many2 :: .any :: .any :: .mp ad8 :: .rs ad10 0 next0.length 1 :: Ay14 (eNode.fz nodes0 :: .int .i64 (nodes0.length : Int) :: .int .i64 (i64.wrap (x9 + (1 : Int))) :: Ay7 [])), [none], h22⟩ ((True) ∧ True) (by kernel_rfl) ⟨trivial, trivial⟩ ?_
      exact ⟨(mp0, next0.set x9.toNat r1.1, i64.wrap (x9 + (1 : Int))), ⟨.any, .any, .any, .any, .any, .any, .any, ad10, h22, (by simp only [List.length_set]), (by have o : Has h22 ((ad10, .sl next0.length 1 (eInt.l (next0.set x9.toNat r1.1))) :: (ad8, .mp (mpA mp0)) :: (ad7, .sl out4.length 1 (eInt.l out4)) :: (ad0, .ob [eNode.fz nodes0]) :: L) := o24; simpa only [List.length_set] using o)⟩, H⟩
    · have H := ifn c7 H
      refine ends_skip ?_
      obtain ⟨r2, e40, H⟩ := bsi H
      obtain ⟨v14, e41, H⟩ := bsi H
      obtain ⟨h23, e42, o25⟩ := st_own (P := Tryd.prog) (tf := 3) (E := eInt) (l := next0) (q := 1) (v := r2.1) (x := .int .i64 r2.1) o21 rfl Z3 e41 rfl rfl
      refine er [] [(3, .agg (eInt.l k1), none), (4, .int .i64 r2.1, none), (5, .ptr ad10 (0 + x9.toNat * 1), none), (6, .any, some h23)] ⟨.any :: .ptr ad0 0 :: Ay3 (.rs ad7 0 out4.length 1 :: .int .i64 many2 :: .any :: .any :: .mp ad8 :: .rs ad10 0 next0.length 1 :: Ay14 (eNode.fz nodes0 :: .int .i64 (nodes0.length : Int) :: .int .i64 x9 :: Ay7 [])), [none], h23⟩ ((True) ∧ loadH Tryd.prog h20 116 (.ptr ad11 0) = some (.agg (eInt.l k1)) ∧ lookupA Tryd.prog h20 114 (.mp ad8) (.agg (eInt.l k1)) false = some (.int .i64 r2.1) ∧ indexAddrA Tryd.prog 42 (.rs ad10 0 next0.length 1) (.int .i64 x9) = some (.ptr ad10 (0 + x9.toNat * 1)) ∧ storeH Tryd.prog h20 3 (.ptr ad10 (0 + x9.toNat * 1)) (.int .i64 r2.1) = some h23 ∧ True) (by kernel_rfl) ⟨trivial, ⟨ld_arr (q := 0) (l := k1) AR116 o21 rfl, (lk_A (q := 2) (l := seen0) (k := k1) MP114 o21 rfl e40).2, ia_ownL (E := eInt) (l := next0) (q := 1) T42 o21 rfl e41, e42, trivial⟩⟩ ?_
      have o26 : Has h23 ((ad10, .sl next0.length 1 (eInt.l (next0.set x9.toNat r2.1))) :: (ad8, .mp (mpA seen0)) :: (ad7, .sl out4.length 1 (eInt.l out4)) :: (ad0, .ob [eNode.fz nodes0]) :: L) := Has.del o25 0
      refine er [] [] ⟨.any :: .ptr ad0 0 :: Ay3 (.rs ad7 0 out4.length 1 :: .int .i64 many2 :: .any :: .any :: .mp ad8 :: .rs ad10 0 next0.length 1 :: Ay14 (eNode.fz nodes0 :: .int .i64 (nodes0.length : Int) :: .int .i64 (i64.wrap (x9 + (1 : Int))) :: Ay7 [])), [none], h23⟩ ((True) ∧ True) (by kernel_rfl) ⟨trivial, trivial⟩ ?_
      exact ⟨(seen0, next0.set x9.toNat r2.1, i64.wrap (x9 + (1 : Int))), ⟨.any, .any, .any, .any, .any, .any, .any, ad10, h23, (by simp only [List.length_set]), (by have o : Has h23 ((ad10, .sl next0.length 1 (eInt.l (next0.set x9.toNat r2.1))) :: (ad8, .mp (mpA seen0)) :: (ad7, .sl out4.length 1 (eInt.l out4)) :: (ad0, .ob [eNode.fz nodes0]) :: L) := o26; simpa only [List.length_set] using o)⟩, H⟩
  · have H := ifn c5 H
    refine ends_exit ?_
    have H := Option.some.inj H
    exact ⟨rfl, seen0, next0, x9, H, .any, .any, .any, eNode.fz nodes0, .int .i64 (nodes0.length : Int), .int .i64 x9, .bool (decide (x9 < (nodes0.length : Int))), .any, .any, .any, ad10, h15, rfl, o16⟩
def tree_classes.l2.R (L : Mem) (nodes0 : List VNode) (ad0 : Nat) (σ : (List Int) × Int) (s : St) : Prop :=
  match σ with
  | (out4, many2) => ∃ (g34 : AV) (g35 : AV) (g36 : AV) (g37 : AV) (g38 : AV) (g39 : AV) (g40 : AV) (g41 : AV) (g42 : AV) (g43 : AV) (g44 : AV) (ad7 : Nat) (h12 : AHeap), s = ⟨.any :: .ptr ad0 0 :: .any :: g34 :: .any :: .rs ad7 0 out4.length 1 :: .int .i64 many2 :: Ay12 (g35 :: g36 :: g37 :: g38 :: g39 :: g40 :: Ay3 (g41 :: Ay3 [g42, g43, g44])), [none], h12⟩ ∧ Has h12 ((ad7, .sl out4.length 1 (eInt.l out4)) :: (ad0, .ob [eNode.fz nodes0]) :: L)
def tree_classes.l2.Q (L : Mem) (nodes0 : List VNode) (ad0 : Nat) (out : Sum (List Int) ((List Int) × Int)) (e : Ex) (s : St) : Prop :=
  (e = .exit 4 ∧ ∃ (out4 : List Int) (many2 : Int), .inr (out4, many2) = out ∧ ∃ (x1_ : AV) (x3_ : AV) (x5_ : AV) (x6_ : AV) (x24_ : AV) (x37_ : AV) (x38_ : AV) (x39_ : AV) (x40_ : AV) (x61_ : AV) (x76_ : AV) (x90_ : AV) (x110_ : AV) (x126_ : AV) (ad7 : Nat) (h12 : AHeap), s = ⟨.any :: x1_ :: .any :: x3_ :: .any :: x5_ :: x6_ :: Ay12 (x24_ :: x37_ :: x38_ :: x39_ :: x40_ :: x61_ :: Ay3 (x76_ :: Ay3 [x90_, x110_, x126_])), [none], h12⟩ ∧ Has h12 ((ad7, .sl out4.length 1 (eInt.l out4)) :: (ad0, .ob [eNode.fz nodes0]) :: L)) ∨ (e = .ret ∧ ∃ r, .inl r = out ∧ tree_classes.fin L r s)
theorem tree_classes.l2_ok (L : Mem) (nodes0 : List VNode) (ad0 : Nat)   {σ : (List Int) × Int} {s : St} {out : Sum (List Int) ((List Int) × Int)} (hr : tree_classes.l2.R L nodes0 ad0 σ s) (H : (fun k σ => tree_classes.l2 m nodes0 k σ.1 σ.2) m σ = some out) : Enz Tryd.prog cf ann67 m (.loop g67L2) s (tree_classes.l2.Q L nodes0 ad0 out) := by
  refine ends_loop (fun k σ => tree_classes.l2 m nodes0 k σ.1 σ.2) (tree_classes.l2.R L nodes0 ad0) (tree_classes.l2.Q L nodes0 ad0) (fun _ => rfl) ?_ hr H (fun _ _ _ h => h)
  clear hr H σ s out
  rintro k ⟨out4, many2⟩ s out ⟨g34, g35, g36, g37, g38, g39, g40, g41, g42, g43, g44, ad7, h12, rfl, o13⟩ H
  have H : tree_classes.l2 m nodes0 (k + 1) out4 many2 = some out := H
  refine ends_of_eq g67L2_eq ?_
  refine ends_block ?_
  refine ends_seq ?_
  obtain ⟨ad8, h13, e22, o14⟩ := mp_new o13
  refine er [] [(0, .mp ad8, some h13)] ⟨.any :: .ptr ad0 0 :: Ay3 (.rs ad7 0 out4.length 1 :: .int .i64 many2 :: .any :: .any :: .mp ad8 :: Ay25 []), [none], h13⟩ ((True) ∧ (AV.mp h12.next, h12.alloc (.map [])) = (.mp ad8, h13) ∧ True) (by kernel_rfl) ⟨trivial, ⟨e22, trivial⟩⟩ ?_
  refine ends_seq ?_
  obtain ⟨x8, e23, H⟩ := bsi H
  obtain ⟨ad9, h14, e24, o15⟩ := mk_own (P := Tryd.prog) (E := eInt) (z := (0 : Int)) (zv := .int .i64 (0 : Int)) T42 o14 3 rfl rfl rfl rfl e23
  refine er [] [(0, eNode.fz nodes0, none), (2, .rs ad9 0 x8.length 1, some h14)] ⟨.any :: .ptr ad0 0 :: Ay3 (.rs ad7 0 out4.length 1 :: .int .i64 many2 :: .any :: .any :: .mp ad8 :: .rs ad9 0 x8.length 1 :: Ay24 []), [none], h14⟩ ((True) ∧ loadH Tryd.prog h13 29 (.ptr ad0 0) = some (eNode.fz nodes0) ∧ makeSliceA Tryd.prog h13 42 (.int .i64 (nodes0.length : Int)) (.int .i64 (nodes0.length : Int)) = some (.rs ad9 0 x8.length 1, h14) ∧ True) (by kernel_rfl) ⟨trivial, ⟨ld_ob (q := 2) (cs := [eNode.fz nodes0]) o14 rfl (by kernel_rfl), e24, trivial⟩⟩ ?_
  refine ends_seq ?_
  refine sr [] [(0, eNode.fz nodes0, none)] ⟨.any :: .ptr ad0 0 :: Ay3 (.rs ad7 0 out4.length 1 :: .int .i64 many2 :: .any :: .any :: .mp ad8 :: .rs ad9 0 x8.length 1 :: Ay14 (eNode.fz nodes0 :: .int .i64 (nodes0.length : Int) :: .int .i64 (0 : Int) :: Ay7 [])), [none], h14⟩ ((True) ∧ loadH Tryd.prog h14 29 (.ptr ad0 0) = some (eNode.fz nodes0) ∧ True) (by kernel_rfl) ⟨trivial, ⟨ld_ob (q := 3) (cs := [eNode.fz nodes0]) o15 rfl (by kernel_rfl), trivial⟩⟩ ?_
  refine ends_block ?_
  obtain ⟨out6, e43, H⟩ := bsi H
  refine ends_mono (tree_classes.l3_ok L nodes0 ad0 ad7 out4 many2 ad7 ad8   (σ := (([] : List (List Int × Int)), x8, (0 : Int))) ⟨.any, .any, .any, .any, .any, .any, .any, ad9, h14, rfl, o15⟩ e43) ?_
  rintro e s ⟨rfl, seen1, next1, x12, rfl, g69, g70, g71, g72, g73, g74, g75, g76, g77, g78, ad12, h24, rfl, o27⟩
  try dsimp only at H
  refine ends_seq ?_
  refine sr [] [(1, .int .i64 (seen1.length : Int), none)] ⟨.any :: .ptr ad0 0 :: Ay3 (.rs ad7 0 out4.length 1 :: Ay3 (.mp ad8 :: .rs ad12 0 next1.length 1 :: Ay23 [.bool ((seen1.length : Int) == (i64.wrap (many2 + (1 : Int))))])), [none], h24⟩ ((True) ∧ lenA Tryd.prog h24 114 (.mp ad8) = some (.int .i64 (seen1.length : Int)) ∧ True) (by kernel_rfl) ⟨trivial, ⟨ln_A (q := 1) (l := seen1) MU114 o27 rfl, trivial⟩⟩ ?_
  refine ends_cond ((seen1.length : Int) == (i64.wrap (many2 + (1 : Int)))) (by kernel_rfl) (fun c8 => ?_) (fun c8 => ?_)
  · have H := ifp c8 H
    refine sr [] [] ⟨.any :: .any :: .rs ad7 0 out4.length 1 :: Ay32 [], [none], h24⟩ ((True) ∧ True) (by kernel_rfl) ⟨trivial, trivial⟩ ?_
    have o28 : Has h24 ((ad12, .sl next1.length 1 (eInt.l next1)) :: (ad8, .mp (mpA seen1)) :: (ad7, .sl out4.length 1 (eInt.l out4)) :: L) := Has.del o27 3
    have o29 : Has h24 ((ad12, .sl next1.length 1 (eInt.l next1)) :: (ad7, .sl out4.length 1 (eInt.l out4)) :: L) := Has.del o28 1
    have o30 : Has h24 ((ad7, .sl out4.length 1 (eInt.l out4)) :: L) := Has.del o29 0
    refine ends_ret ?_
    have H := Option.some.inj H
    exact Or.inr (⟨rfl, _, H, ⟨.rs ad7 0 out4.length 1, by kernel_rfl, frb (fb_rs (E := eInt) (l := out4) (q := 0) o30 rfl (fun _ => rfl))⟩⟩)
  · have H := ifn c8 H
    refine ends_skip ?_
    refine er [] [(2, .int .i64 (seen1.length : Int), none)] ⟨.any :: .ptr ad0 0 :: Ay3 (.rs ad12 0 next1.length 1 :: .int .i64 (i64.wrap ((seen1.length : Int) - (1 : Int))) :: Ay28 []), [none], h24⟩ ((True) ∧ lenA Tryd.prog h24 114 (.mp ad8) = some (.int .i64 (seen1.length : Int)) ∧ True) (by kernel_rfl) ⟨trivial, ⟨ln_A (q := 1) (l := seen1) MU114 o27 rfl, trivial⟩⟩ ?_
    have o31 : Has h24 ((ad12, .sl next1.length 1 (eInt.l next1)) :: (ad8, .mp (mpA seen1)) :: (ad0, .ob [eNode.fz nodes0]) :: L) := Has.del o27 2
    have o32 : Has h24 ((ad12, .sl next1.length 1 (eInt.l next1)) :: (ad0, .ob [eNode.fz nodes0]) :: L) := Has.del o31 1
    exact ⟨(next1, i64.wrap ((seen1.length : Int) - (1 : Int))), ⟨.any, .any, .any, .any, .any, .any, .any, .any, .any, .any, .any, ad12, h24, rfl, o32⟩, H⟩
theorem tree_classes_body {ann : FuncId → Ann} (ha : ann 67 = ann67) (S65_ : S65 cf m) (S84_ : S84 cf m) (S85_ : S85 cf m) (nodes0 : List VNode) (h : AHeap) (L : Mem)  (o : Has h (L)) {out : (List Int)} (H : tree_classes.f m nodes0 = some out) :
    ∃ r h', bodyA Tryd.prog ann cf m 67 [eNode.fz nodes0] h = some (r, h') ∧ Frb h' r (eInt.fz out) := by
  refine body_of_ends2 (fn := Tryd.f67) ha Tryd.func67 (by kernel_rfl) (by kernel_rfl) ?_
  refine ends_fin (Q := fun s => tree_classes.fin L out s) (fun _ _ h => h) ?_
  refine ends_of_eq g67_eq ?_
  have H : _ = some out := H
  unfold tree_classes.f at H
  show Enz _ cf ann67 m _ ⟨eNode.fz nodes0 :: Ay34 [], [none], h⟩ _
  refine ends_seq ?_
  obtain ⟨ad0, h0, e0, o0⟩ := bx_new (cs := [eNode.fz nodes0]) o (by kernel_rfl)
  refine er [] [(0, .ptr ad0 0, some h0)] ⟨.any :: .ptr ad0 0 :: Ay33 [], [none], h0⟩ ((True) ∧ boxH h [eNode.fz nodes0] = some (.ptr ad0 0, h0) ∧ True) (by kernel_rfl) ⟨trivial, ⟨e0, trivial⟩⟩ ?_
  refine ends_seq ?_
  obtain ⟨x0, e1, H⟩ := bsi H
  obtain ⟨ad1, h1, e2, o1⟩ := mk_own (P := Tryd.prog) (E := eInt) (z := (0 : Int)) (zv := .int .i64 (0 : Int)) T42 o0 3 rfl rfl rfl rfl e1
  refine er [] [(0, eNode.fz nodes0, none), (2, .rs ad1 0 x0.length 1, some h1)] ⟨.any :: .ptr ad0 0 :: .any :: .rs ad1 0 x0.length 1 :: Ay31 [], [none], h1⟩ ((True) ∧ loadH Tryd.prog h0 29 (.ptr ad0 0) = some (eNode.fz nodes0) ∧ makeSliceA Tryd.prog h0 42 (.int .i64 (nodes0.length : Int)) (.int .i64 (nodes0.length : Int)) = some (.rs ad1 0 x0.length 1, h1) ∧ True) (by kernel_rfl) ⟨trivial, ⟨ld_ob (q := 0) (cs := [eNode.fz nodes0]) o0 rfl (by kernel_rfl), e2, trivial⟩⟩ ?_
  refine ends_seq ?_
  refine sr [] [] ⟨.any :: .ptr ad0 0 :: .any :: .rs ad1 0 x0.length 1 :: Ay13 (.int .i64 (x0.length : Int) :: .int .i64 (0 : Int) :: Ay16 []), [none], h1⟩ ((True) ∧ True) (by kernel_rfl) ⟨trivial, trivial⟩ ?_
  refine ends_block ?_
  obtain ⟨out0, e5, H⟩ := bsi H
  refine ends_mono (tree_classes.l0_ok L nodes0 ad0 x0   (σ := (x0, (0 : Int))) ⟨.any, .any, .any, .any, .any, .any, .any, ad1, h1, rfl, o1⟩ e5) ?_
  rintro e s ⟨rfl, order1, x2, rfl, g7, g8, g9, g10, g11, g12, g13, g14, g15, ad3, h4, rfl, o4⟩
  try dsimp only at H
  refine ends_seq ?_
  obtain ⟨x3, e6, H⟩ := bsi H
  obtain ⟨h5, e7, o5⟩ := S84_ _ _ _ e6 h4 _ _ _ (o4) 85 [.ptr ad0 0] rfl (fun h' K' o' y0 y1 r hr => S85_ y0 y1 _ r hr h' _ (K'.length + 0) _ o' (app_at rfl)) [.rs ad3 0 order1.length 1, .fn 85 [.ptr ad0 0]] (can_cons (rfl) (can_cons (rfl) (can_nil)))
  refine er [] [(2, .tup [], some h5)] ⟨.any :: .ptr ad0 0 :: .any :: .rs ad3 0 order1.length 1 :: Ay31 [], [none], h5⟩ ((True) ∧ callO cf (.fn 84 []) [.rs ad3 0 order1.length 1, .fn 85 [.ptr ad0 0]] h4 = some (.tup [], h5) ∧ True) (by kernel_rfl) ⟨trivial, ⟨callO_of (by kernel_rfl) e7, trivial⟩⟩ ?_
  refine ends_seq ?_
  obtain ⟨x4, e8, H⟩ := bsi H
  obtain ⟨ad4, h6, e9, o6⟩ := mk_own (P := Tryd.prog) (E := eInt) (z := (0 : Int)) (zv := .int .i64 (0 : Int)) T42 o5 3 rfl rfl rfl rfl e8
  refine er [] [(0, eNode.fz nodes0, none), (2, .rs ad4 0 x4.length 1, some h6)] ⟨.any :: .ptr ad0 0 :: .any :: .rs ad3 0 order1.length 1 :: .any :: .rs ad4 0 x4.length 1 :: Ay29 [], [none], h6⟩ ((True) ∧ loadH Tryd.prog h5 29 (.ptr ad0 0) = some (eNode.fz nodes0) ∧ makeSliceA Tryd.prog h5 42 (.int .i64 (nodes0.length : Int)) (.int .i64 (nodes0.length : Int)) = some (.rs ad4 0 x4.length 1, h6) ∧ True) (by kernel_rfl) ⟨trivial, ⟨ld_ob (q := 1) (cs := [eNode.fz nodes0]) o5 rfl (by kernel_rfl), e9, trivial⟩⟩ ?_
  refine sr [] [] ⟨.any :: .ptr ad0 0 :: .any :: .rs ad3 0 order1.length 1 :: .any :: .rs ad4 0 x4.length 1 :: .int .i64 (0 : Int) :: Ay28 [], [none], h6⟩ ((True) ∧ True) (by kernel_rfl) ⟨trivial, trivial⟩ ?_
  refine ends_seq ?_
  refine sr [] [] ⟨.any :: .ptr ad0 0 :: .any :: .rs ad3 0 order1.length 1 :: .any :: .rs ad4 0 x4.length 1 :: .int .i64 (0 : Int) :: Ay13 (.rs ad3 0 order1.length 1 :: .int .i64 (order1.length : Int) :: .int .i64 (0 : Int) :: Ay12 []), [none], h6⟩ ((True) ∧ True) (by kernel_rfl) ⟨trivial, trivial⟩ ?_
  refine ends_block ?_
  obtain ⟨out3, e21, H⟩ := bsi H
  refine ends_mono (tree_classes.l1_ok L nodes0 ad0 ad3 order1 ad3 x3  S65_ (σ := (x4, (0 : Int), (0 : Int))) ⟨.any, .any, .any, .any, .any, .any, .any, ad4, h6, (by simp only [List.length_set]), (by have o : Has h6 ((ad4, .sl x4.length 1 (eInt.l x4)) :: (ad3, .sl order1.length 1 (eInt.l x3)) :: (ad0, .ob [eNode.fz nodes0]) :: L) := o6; simpa only [List.length_set] using o)⟩ e21) ?_
  rintro e s ⟨rfl, out2, many1, x7, rfl, g23, g24, g25, g26, g27, g28, g29, g30, g31, g32, g33, ad6, h11, rfl, o11⟩
  try dsimp only at H
  refine ends_block ?_
  have o12 : Has h11 ((ad6, .sl out2.length 1 (eInt.l out2)) :: (ad0, .ob [eNode.fz nodes0]) :: L) := Has.del o11 1
  obtain ⟨out8, e44, H⟩ := bsi H
  refine ends_mono (tree_classes.l2_ok L nodes0 ad0   (σ := (out2, many1)) ⟨g23, g24, g25, g26, g27, g28, g29, g30, g31, g32, g33, ad6, h11, rfl, o12⟩ e44) ?_
  rintro e s (⟨rfl, out7, many3, rfl, g79, g80, g81, g82, g83, g84, g85, g86, g87, g88, g89, g90, g91, g92, ad13, h25, rfl, o33⟩ | ⟨rfl, r3, rfl, hf0⟩)
  · try dsimp only at H
    cases H
  · try dsimp only at H
    have H := Option.some.inj H
    subst H
    exact ⟨.inl rfl, hf0⟩
end
end Go.Proofs.YtmekcfdllhphlaaDoor

namespace Go.Proofs.YtmekcfdllhphlaaDoor
open Go Go.R
open Go.IntKind (i64 u64 u8 u32)
def key (out : List Int) (n : VNode) (i : Nat) : List Int := (gt out i + 1) :: ((n.args.map fun a => gt out a.toNat + 1) ++ List.replicate (8 - n.args.length) 0)
def enum : List (List Int) → Nat → List (List Int × Int)
  | [], _ => []
  | k :: ks, s => (k, (s : Int)) :: enum ks (s + 1)
theorem enum_length : ∀ (ks : List (List Int)) (s : Nat), (enum ks s).length = ks.length
  | [], _ => rfl
  | k :: ks, s => by simp [enum, enum_length ks]
theorem enum_get : ∀ (ks : List (List Int)) (s : Nat) (k : List Int), mgA' (enum ks s) k = if k ∈ ks then (((s + ks.idxOf k : Nat) : Int), true) else (0, false)
  | [], s, k => rfl
  | a :: ks, s, k => by
    simp only [enum, mgA', enum_get ks (s + 1) k, List.mem_cons, List.idxOf_cons]
    by_cases h : k = a
    · subst h; simp
    · have h' : (a == k) = false := by simpa using fun z : a = k => h z.symm
      rw [if_neg h, h']
      by_cases h2 : k ∈ ks
      · simp only [h2, if_true, or_true, cond_false]
        simp only [Prod.mk.injEq, and_true]
        omega
      · simp [h2, h]
theorem enum_set : ∀ (ks : List (List Int)) (s : Nat) (k : List Int), k ∉ ks → msA' (enum ks s) k ((s + ks.length : Nat) : Int) = enum (ks ++ [k]) s
  | [], s, k, _ => rfl
  | a :: ks, s, k, h => by
    have h1 : k ≠ a := fun z => h (by simp [z])
    have h2 : k ∉ ks := fun z => h (by simp [z])
    simp only [enum, msA', List.cons_append, if_neg h1, List.length_cons]
    rw [show s + (ks.length + 1) = s + 1 + ks.length by omega, enum_set ks (s + 1) k h2]
theorem enum_good {n : Nat} : ∀ (ks : List (List Int)) (s : Nat) (k : List Int), k.length = n → (∀ a ∈ ks, a.length = n) → goodA n (enum ks s) k = true
  | [], s, k, h, _ => by simp [goodA, enum, h]
  | a :: ks, s, k, h, h2 => by
    have := enum_good ks (s + 1) k h fun a ha => h2 a (by simp [ha])
    simp only [goodA, Bool.and_eq_true, beq_iff_eq, h, true_and] at this ⊢
    simp only [enum, List.all_cons, Bool.and_eq_true, beq_iff_eq]
    exact ⟨h2 a (by simp), this⟩
structure Part (n : Nat) (out : List Int) (many : Nat) : Prop where
  len : out.length = n
  rng : ∀ i, i < n → 0 ≤ gt out i ∧ gt out i ≤ many
  sur : ∀ v : Nat, v ≤ many → ∃ i, i < n ∧ gt out i = v
structure Keys (l : List VNode) (out : List Int) (p : Nat) (ks : List (List Int)) : Prop where
  nod : ks.Nodup
  mem : ∀ k, k ∈ ks ↔ ∃ i, i < p ∧ key out (nd l i) i = k
def Okl (l : List VNode) : Prop := l.length ≤ 8000 ∧ ∀ n ∈ l, n.args.length ≤ 8 ∧ ∀ a ∈ n.args, 0 ≤ a ∧ a < l.length
theorem rep_set {a : Int} {L : List Int} {t : Nat} {v : Int} (hL : L.length = t) (ht : t < 8) : (a :: (L ++ List.replicate (8 - t) 0)).set (t + 1) v = a :: ((L ++ [v]) ++ List.replicate (8 - (t + 1)) 0) := by
  rw [List.set_cons_succ, List.set_append_right _ _ (by omega), hL, Nat.sub_self, show 8 - t = (8 - (t + 1)) + 1 by omega, List.replicate_succ, List.set_cons_zero, List.append_assoc]
  rfl
theorem key_l4 {m : Nat} {out : List Int} {n : VNode} (h8 : n.args.length ≤ 8) (ha : ∀ a ∈ n.args, 0 ≤ a ∧ a < out.length) (ho : ∀ i, i < out.length → 0 ≤ gt out i ∧ gt out i < 2 ^ 40) (o : Int) : ∀ (f t : Nat), n.args.length - t < f → t ≤ n.args.length →
    ∃ x, tree_classes.l4 m out n f (o :: (((n.args.take t).map fun a => gt out a.toNat + 1) ++ List.replicate (8 - t) 0)) (t : Int) = some (o :: ((n.args.map fun a => gt out a.toNat + 1) ++ List.replicate (8 - n.args.length) 0), x)
  | 0, t, hf, _ => absurd hf (by omega)
  | f + 1, t, hf, ht => by
    have p40 : (2 : Nat) ^ 40 = 1099511627776 := by decide
    have i40 : (2 : Int) ^ 40 = 1099511627776 := by decide
    unfold tree_classes.l4
    by_cases h : t < n.args.length
    · have hx : ix n.args (t : Int) = some (gt n.args t) := ix_gt h
      obtain ⟨b0, b1⟩ := ha _ (gt_mem h)
      obtain ⟨c0, c1⟩ := ho (gt n.args t).toNat (by omega)
      have hy : ix out (gt n.args t) = some (gt out (gt n.args t).toNat) := ix_gt' (by omega) (by omega)
      have e1 : i64.wrap ((t : Int) + 1) = ((t + 1 : Nat) : Int) := by rw [i64_id (by omega) (by omega)]; omega
      have hT : ((n.args.take t).map fun a => gt out a.toNat + 1).length = t := by simp; omega
      have hz : ∃ z, ix (o :: (((n.args.take t).map fun a => gt out a.toNat + 1) ++ List.replicate (8 - t) 0)) ((t + 1 : Nat) : Int) = some z := ⟨_, ix_gt (by simp; omega)⟩
      obtain ⟨z, hz⟩ := hz
      obtain ⟨x, ih⟩ := key_l4 (m := m) h8 ha ho o f (t + 1) (by omega) (by omega)
      have hT1 : n.args.take (t + 1) = n.args.take t ++ [gt n.args t] := by rw [List.take_add_one, gt_some h]; rfl
      rw [hT1, List.map_append] at ih
      rw [if_pos (by simp only [decide_eq_true_eq]; omega), hx, Option.bind_some, hy, Option.bind_some, e1, hz, Option.bind_some, Int.toNat_natCast, i64_id (x := gt out (gt n.args t).toNat + 1) (by omega) (by omega), rep_set hT (by omega)]
      exact ⟨x, ih⟩
    · have : t = n.args.length := by omega
      subst this
      exact ⟨_, by rw [if_neg (by simp), List.take_length]⟩
theorem key_length {out : List Int} {n : VNode} {i : Nat} (h8 : n.args.length ≤ 8) : (key out n i).length = 9 := by simp [key]; omega
theorem nd_ok {l : List VNode} (ok : Okl l) {i : Nat} (h : i < l.length) : (nd l i).args.length ≤ 8 ∧ ∀ a ∈ (nd l i).args, 0 ≤ a ∧ a < l.length := ok.2 _ (nd_mem (by omega) (by omega))
theorem key_l3 {m : Nat} (hm : 2 ^ 30 ≤ m) {l : List VNode} {out : List Int} {many : Nat} (ok : Okl l) (P : Part l.length out many) (hmany : many < 2 ^ 30) : ∀ (f p : Nat) (ks : List (List Int)) (next : List Int), l.length - p < f → p ≤ l.length → Keys l out p ks → next.length = l.length →
    (∀ i, i < p → gt next i = (ks.idxOf (key out (nd l i) i) : Int)) →
    ∃ ks' next' x, tree_classes.l3 m l out f (enum ks 0) next (p : Int) = some (enum ks' 0, next', x) ∧ Keys l out l.length ks' ∧ next'.length = l.length ∧ ∀ i, i < l.length → gt next' i = (ks'.idxOf (key out (nd l i) i) : Int)
  | 0, p, ks, next, hf, _, _, _, _ => absurd hf (by omega)
  | f + 1, p, ks, next, hf, hp, K, hn, hg => by
    have p30 : (2 : Nat) ^ 30 = 1073741824 := by decide
    have p40 : (2 : Nat) ^ 40 = 1099511627776 := by decide
    have i40 : (2 : Int) ^ 40 = 1099511627776 := by decide
    have h8000 := ok.1
    have hol := P.len
    unfold tree_classes.l3
    by_cases h : p < l.length
    · obtain ⟨n1, n2⟩ := nd_ok ok h
      obtain ⟨r0, r1⟩ := P.rng p h
      have e1 : i64.wrap ((p : Int) + 1) = ((p + 1 : Nat) : Int) := by rw [i64_id (by omega) (by omega)]; omega
      obtain ⟨x, hk⟩ := key_l4 (m := m) (out := out) (n := nd l p) n1 (by rw [hol]; exact n2) (fun i hi => by have := P.rng i (by omega); omega) (gt out p + 1) m 0 (by omega) (by omega)
      have hk : tree_classes.l4 m out (nd l p) m [gt out p + 1, 0, 0, 0, 0, 0, 0, 0, 0] 0 = some (key out (nd l p) p, x) := hk
      have hl9 := key_length (out := out) (i := p) n1
      have hks : ∀ a ∈ ks, a.length = 9 := fun a ha => by
        obtain ⟨i, hi, rfl⟩ := (K.mem a).1 ha
        exact key_length (nd_ok ok (by omega)).1
      have hix : ∃ z, ix next (p : Int) = some z := ⟨_, ix_gt (by omega)⟩
      obtain ⟨z, hz⟩ := hix
      rw [if_pos (by simp only [decide_eq_true_eq]; omega), ix_nd (by omega) (by omega), Option.bind_some, ix_gt (by omega), Option.bind_some, i64_id (x := gt out p + 1) (by omega) (by omega), hk, Option.bind_some]
      dsimp only
      have hG : mgA 9 (enum ks 0) (key out (nd l p) p) = some (if key out (nd l p) p ∈ ks then (((ks.idxOf (key out (nd l p) p) : Nat) : Int), true) else (0, false)) := by
        unfold mgA; rw [if_pos (enum_good _ _ _ hl9 hks), enum_get, Nat.zero_add]
      rw [hG, Option.bind_some, e1, hz]
      by_cases hin : key out (nd l p) p ∈ ks
      · rw [if_pos hin, if_neg (by simp), Option.bind_some, Option.bind_some, Int.toNat_natCast]
        refine key_l3 hm ok P hmany f (p + 1) ks _ (by omega) (by omega) ⟨K.nod, fun k => ⟨fun hk => ?_, fun ⟨i, hi, hk2⟩ => ?_⟩⟩ (by simpa using hn) (fun i hi => ?_)
        · obtain ⟨i, hi, h⟩ := (K.mem k).1 hk; exact ⟨i, by omega, h⟩
        · by_cases hip : i = p
          · subst hip; rw [← hk2]; exact hin
          · exact (K.mem k).2 ⟨i, by omega, hk2⟩
        · rw [gt_set (by omega)]
          by_cases hip : i = p
          · subst hip; rw [if_pos rfl]
          · rw [if_neg hip]; exact hg i (by omega)
      · have hS : msA 9 (enum ks 0) (key out (nd l p) p) (((enum ks 0).length : Nat) : Int) = some (enum (ks ++ [key out (nd l p) p]) 0) := by
          unfold msA; rw [if_pos (enum_good _ _ _ hl9 hks), enum_length]
          have := enum_set ks 0 _ hin
          rw [Nat.zero_add] at this
          rw [this]
        have hid : (ks ++ [key out (nd l p) p]).idxOf (key out (nd l p) p) = ks.length := by
          rw [List.idxOf_append, if_neg hin, List.idxOf_cons_self, Nat.zero_add]
        have hG2 : mgA 9 (enum (ks ++ [key out (nd l p) p]) 0) (key out (nd l p) p) = some (((ks.length : Nat) : Int), true) := by
          unfold mgA
          rw [if_pos (enum_good _ _ _ hl9 (fun a ha => by rcases List.mem_append.1 ha with ha | ha; exact hks a ha; simp only [List.mem_singleton] at ha; rw [ha]; exact hl9)), enum_get, if_pos (by simp), Nat.zero_add, hid]
        rw [if_neg hin, if_pos (by simp), hS, Option.bind_some, hG2, Option.bind_some, Option.bind_some, Int.toNat_natCast]
        refine key_l3 hm ok P hmany f (p + 1) (ks ++ [key out (nd l p) p]) _ (by omega) (by omega) ⟨?_, fun k => ⟨fun hk => ?_, fun ⟨i, hi, hk2⟩ => ?_⟩⟩ (by simpa using hn) (fun i hi => ?_)
        · rw [List.nodup_append]
          refine ⟨K.nod, by simp, fun a ha b hb => ?_⟩
          simp only [List.mem_singleton] at hb
          subst hb; intro e; subst e; exact hin ha
        · rcases List.mem_append.1 hk with hk | hk
          · obtain ⟨i, hi, h⟩ := (K.mem k).1 hk; exact ⟨i, by omega, h⟩
          · simp only [List.mem_singleton] at hk; exact ⟨p, by omega, hk.symm⟩
        · by_cases hip : i = p
          · subst hip; rw [← hk2]; simp
          · exact List.mem_append_left _ ((K.mem k).2 ⟨i, by omega, hk2⟩)
        · rw [gt_set (by omega)]
          by_cases hip : i = p
          · subst hip; rw [if_pos rfl, hid]
          · rw [if_neg hip, List.idxOf_append, if_pos ((K.mem _).2 ⟨i, by omega, rfl⟩)]; exact hg i (by omega)
    · have : p = l.length := by omega
      subst this
      exact ⟨ks, next, _, by rw [if_neg (by simp)], K, hn, hg⟩
theorem keys_le {l : List VNode} {out : List Int} {ks : List (List Int)} (K : Keys l out l.length ks) : ks.length ≤ l.length := by
  have := K.nod.length_le_of_subset (l₂ := (List.range l.length).map fun i : Nat => key out (nd l i) i) (fun k hk => by
    obtain ⟨i, hi, h⟩ := (K.mem k).1 hk
    exact List.mem_map.2 ⟨i, List.mem_range.2 hi, h⟩)
  simpa using this
theorem keys_ge {l : List VNode} {out : List Int} {many : Nat} {ks : List (List Int)} (P : Part l.length out many) (K : Keys l out l.length ks) : many + 1 ≤ ks.length := by
  have hn : ((List.range (many + 1)).map fun v : Nat => ((v : Int) + 1)).Nodup := by
    unfold List.Nodup
    rw [List.pairwise_map]
    exact List.Pairwise.imp (fun h => by omega) List.nodup_range
  have := hn.length_le_of_subset (l₂ := ks.map fun k => k.headD 0) (fun x hx => by
    obtain ⟨v, hv, rfl⟩ := List.mem_map.1 hx
    obtain ⟨i, hi, h⟩ := P.sur v (by have := List.mem_range.1 hv; omega)
    exact List.mem_map.2 ⟨_, (K.mem _).2 ⟨i, hi, rfl⟩, by simp [key, h]⟩)
  simpa using this
theorem part_next {l : List VNode} {out next : List Int} {many : Nat} {ks : List (List Int)} (P : Part l.length out many) (K : Keys l out l.length ks) (hn : next.length = l.length) (hg : ∀ i, i < l.length → gt next i = (ks.idxOf (key out (nd l i) i) : Int)) : Part l.length next (ks.length - 1) := by
  have := keys_ge P K
  refine ⟨hn, fun i hi => ?_, fun v hv => ?_⟩
  · have := List.idxOf_lt_length_of_mem ((K.mem _).2 ⟨i, hi, rfl⟩)
    rw [hg i hi]; omega
  · have hv : v < ks.length := by omega
    obtain ⟨i, hi, h⟩ := (K.mem _).1 (List.getElem_mem hv)
    refine ⟨i, hi, ?_⟩
    rw [hg i hi, h, K.nod.idxOf_getElem]
theorem key_l2 {m : Nat} (hm : 2 ^ 30 ≤ m) {l : List VNode} (ok : Okl l) (Inv : List Int → Prop)
    (hI : ∀ out many ks next, Part l.length out many → Inv out → Keys l out l.length ks → next.length = l.length → (∀ i, i < l.length → gt next i = (ks.idxOf (key out (nd l i) i) : Int)) → Inv next) : ∀ (f : Nat) (out : List Int) (many : Nat), l.length - many < f → many < l.length → Part l.length out many → Inv out →
    ∃ r many' ks, tree_classes.l2 m l f out (many : Int) = some (.inl r) ∧ Part l.length r many' ∧ Inv r ∧ Keys l r l.length ks ∧ ks.length = many' + 1
  | 0, out, many, hf, _, _, _ => absurd hf (by omega)
  | f + 1, out, many, hf, hlt, P, I => by
    have p30 : (2 : Nat) ^ 30 = 1073741824 := by decide
    have h8000 := ok.1
    unfold tree_classes.l2
    have e0 : mkl 8 (l.length : Int) (0 : Int) = some (List.replicate l.length 0) := by unfold mkl; rw [if_pos ⟨by omega, by rw [Int.toNat_natCast]; omega⟩, Int.toNat_natCast]
    obtain ⟨ks, next, x, h1, K, hn, hg⟩ := key_l3 hm ok P (by omega) m 0 [] (List.replicate l.length 0) (by omega) (by omega) ⟨by simp, fun k => ⟨fun h => by simp at h, fun ⟨i, hi, _⟩ => absurd hi (by omega)⟩⟩ (by simp) (fun i hi => absurd hi (by omega))
    have h1 : tree_classes.l3 m l out m [] (List.replicate l.length 0) 0 = _ := h1
    have g1 := keys_le K
    have g2 := keys_ge P K
    rw [e0, Option.bind_some, h1, Option.bind_some]
    dsimp only
    rw [enum_length, i64_id (x := (many : Int) + 1) (by omega) (by omega), i64_id (x := (ks.length : Int) - 1) (by omega) (by omega)]
    by_cases h : ks.length = many + 1
    · rw [if_pos (by simp; omega)]
      exact ⟨out, many, ks, rfl, P, I, K, h⟩
    · rw [if_neg (by simp; omega), show (ks.length : Int) - 1 = ((ks.length - 1 : Nat) : Int) by omega]
      exact key_l2 hm ok Inv hI f next (ks.length - 1) (by omega) (by omega) (part_next P K hn hg) (hI _ _ _ _ P I K hn hg)
end Go.Proofs.YtmekcfdllhphlaaDoor

namespace Go.Proofs.YtmekcfdllhphlaaDoor
open Go Go.R
open Go.IntKind (i64 u64 u8 u32)
def ints (n : Nat) : List Int := (List.range n).map fun k : Nat => (k : Int)
theorem ints_length (n : Nat) : (ints n).length = n := by simp [ints]
theorem gt_ints {n k : Nat} (h : k < n) : gt (ints n) k = k := by
  have h1 := gt_some (l := ints n) (k := k) (by rw [ints_length]; exact h)
  have h2 : (ints n)[k]? = some (k : Int) := by
    unfold ints
    rw [List.getElem?_map, List.getElem?_eq_getElem (by simpa using h)]
    simp
  rw [h2] at h1; exact (Option.some.inj h1).symm
theorem mem_ints {n : Nat} {x : Int} : x ∈ ints n ↔ 0 ≤ x ∧ x < n := by
  unfold ints
  rw [List.mem_map]
  constructor
  · rintro ⟨k, hk, rfl⟩; have := List.mem_range.1 hk; omega
  · intro h; exact ⟨x.toNat, List.mem_range.2 (by omega), by omega⟩
theorem nodup_ints (n : Nat) : (ints n).Nodup := by
  unfold ints List.Nodup
  rw [List.pairwise_map]
  exact List.Pairwise.imp (fun h => by omega) List.nodup_range
theorem gt_inj {l : List Int} (h : l.Nodup) {i j : Nat} (hi : i < l.length) (hj : j < l.length) (e : gt l i = gt l j) : i = j := by
  have h1 := gt_some hi
  have h2 := gt_some hj
  rw [List.getElem?_eq_getElem hi] at h1
  rw [List.getElem?_eq_getElem hj] at h2
  have h1 := Option.some.inj h1
  have h2 := Option.some.inj h2
  exact (List.getElem_inj (h₀ := hi) (h₁ := hj) h).1 (by rw [h1, h2, e])
theorem gt_of_mem {l : List Int} {x : Int} (h : x ∈ l) : ∃ k, k < l.length ∧ gt l k = x := by
  obtain ⟨k, hk, e⟩ := List.getElem_of_mem h
  refine ⟨k, hk, ?_⟩
  have h1 := gt_some hk
  rw [List.getElem?_eq_getElem hk, e] at h1
  exact (Option.some.inj h1).symm
theorem cls_l0 {m : Nat} {z : List Int} (hz : z.length < 2 ^ 40) : ∀ (f i : Nat) (d : List Int), z.length - i < f → i ≤ z.length → d.length = z.length → (∀ k, k < i → gt d k = k) →
    ∃ x, tree_classes.l0 m z f d (i : Int) = some (ints z.length, x)
  | 0, i, d, hf, _, _, _ => absurd hf (by omega)
  | f + 1, i, d, hf, hi, hd, hg => by
    have p40 : (2 : Nat) ^ 40 = 1099511627776 := by decide
    unfold tree_classes.l0
    by_cases h : i < z.length
    · obtain ⟨v, hv⟩ : ∃ v, ix d (i : Int) = some v := ⟨_, ix_gt (by omega)⟩
      rw [if_pos (by simp only [decide_eq_true_eq]; omega), hv, Option.bind_some, Int.toNat_natCast, i64_id (by omega) (by omega), show (i : Int) + 1 = ((i + 1 : Nat) : Int) by omega]
      refine cls_l0 hz f (i + 1) _ (by omega) (by omega) (by simpa using hd) fun k hk => ?_
      rw [gt_set (by omega)]
      by_cases e : k = i
      · subst e; rw [if_pos rfl]
      · rw [if_neg e]; exact hg k (by omega)
    · refine ⟨i, ?_⟩
      rw [if_neg (by simp only [decide_eq_true_eq]; omega)]
      have : d = ints z.length := gt_ext (by rw [ints_length, hd]) fun k hk => by rw [hg k (by omega), gt_ints (by omega)]
      rw [this]
def rk (l : List VNode) (d : List Int) : Nat → Nat
  | 0 => 0
  | k + 1 => rk l d k + if cT (nd l (gt d k)) (nd l (gt d (k + 1))) = 0 then 0 else 1
theorem rk_le (l : List VNode) (d : List Int) : ∀ k, rk l d k ≤ k
  | 0 => Nat.le_refl _
  | k + 1 => by have := rk_le l d k; unfold rk; split <;> omega
theorem rk_mono (l : List VNode) (d : List Int) (i : Nat) : ∀ j, i ≤ j → rk l d i ≤ rk l d j
  | 0, h => by have : i = 0 := by omega
               subst this; exact Nat.le_refl _
  | j + 1, h => by
    by_cases e : i = j + 1
    · subst e; exact Nat.le_refl _
    · have := rk_mono l d i j (by omega)
      show _ ≤ rk l d j + _
      omega
theorem rk_sur (l : List VNode) (d : List Int) : ∀ (j v : Nat), v ≤ rk l d j → ∃ k, k ≤ j ∧ rk l d k = v
  | 0, v, h => ⟨0, Nat.le_refl _, by unfold rk at h ⊢; omega⟩
  | j + 1, v, h => by
    by_cases e : v = rk l d (j + 1)
    · exact ⟨j + 1, Nat.le_refl _, e.symm⟩
    · have h2 : rk l d (j + 1) ≤ rk l d j + 1 := by show rk l d j + _ ≤ _; split <;> omega
      obtain ⟨k, hk, e⟩ := rk_sur l d j v (by omega)
      exact ⟨k, by omega, e⟩
theorem cls_l1 {m : Nat} (hm : 3 ≤ m) {l : List VNode} {o d : List Int} (hl : l.length ≤ 8000) (ho : o.length = l.length) (hp : d.Perm (ints l.length)) : ∀ (f p : Nat) (out : List Int), l.length - p < f → p ≤ l.length → out.length = l.length → (∀ k, k < p → gt out (gt d k).toNat = rk l d k) →
    ∃ out' x, tree_classes.l1 m l o d f out ((rk l d (p - 1) : Nat) : Int) (p : Int) = some (out', ((rk l d (l.length - 1) : Nat) : Int), x) ∧ out'.length = l.length ∧ ∀ k, k < l.length → gt out' (gt d k).toNat = rk l d k
  | 0, p, out, hf, _, _, _ => absurd hf (by omega)
  | f + 1, p, out, hf, hpl, hout, hg => by
    have hdl : d.length = l.length := by rw [hp.length_eq, ints_length]
    have hd : ∀ k, k < l.length → 0 ≤ gt d k ∧ gt d k < l.length := fun k hk => mem_ints.1 (hp.mem_iff.1 (gt_mem (by omega)))
    have hnd : d.Nodup := hp.symm.nodup (nodup_ints _)
    unfold tree_classes.l1
    by_cases h : p < l.length
    · obtain ⟨d0, d1⟩ := hd p h
      have hset : ∀ k, k < p + 1 → gt (out.set (gt d p).toNat ((rk l d p : Nat) : Int)) (gt d k).toNat = rk l d k := fun k hk => by
        rw [gt_set (by omega)]
        by_cases e : k = p
        · subst e; rw [if_pos rfl]
        · have : gt d k ≠ gt d p := fun h => e (gt_inj hnd (by omega) (by omega) h)
          have := hd k (by omega)
          rw [if_neg (by omega)]; exact hg k (by omega)
      obtain ⟨z, hz⟩ : ∃ z, ix out (gt d p) = some z := ⟨_, ix_gt' (k := (gt d p).toNat) (by omega) (by omega)⟩
      have e1 : i64.wrap ((p : Int) + 1) = ((p + 1 : Nat) : Int) := by rw [i64_id (by omega) (by omega)]; omega
      have hr := rk_le l d p
      have IH := cls_l1 hm hl ho hp f (p + 1) (out.set (gt d p).toNat ((rk l d p : Nat) : Int)) (by omega) (by omega) (by simpa using hout) hset
      rw [show p + 1 - 1 = p by omega] at IH
      rw [if_pos (by simp only [decide_eq_true_eq]; omega), ix_gt (by omega), Option.bind_some]
      by_cases h0 : 0 < p
      · obtain ⟨q, rfl⟩ : ∃ q, p = q + 1 := ⟨p - 1, by omega⟩
        obtain ⟨q0, q1⟩ := hd q (by omega)
        rw [show q + 1 - 1 = q by omega]
        have e2 : i64.wrap (((q + 1 : Nat) : Int) - 1) = (q : Int) := by rw [i64_id (by omega) (by omega)]; omega
        rw [if_pos (by simp only [decide_eq_true_eq]; omega), e2, ix_gt (by omega), Option.bind_some, ix_nd q0 q1, Option.bind_some, ix_nd d0 d1, Option.bind_some, cT_spec hm, Option.bind_some, hz, e1]
        by_cases hc : cT (nd l (gt d q)) (nd l (gt d (q + 1))) = 0
        · have hrk : rk l d (q + 1) = rk l d q := by show rk l d q + _ = _; rw [if_pos hc]; omega
          rw [if_neg (by simp [hc]), Option.bind_some]
          rw [hrk] at IH; exact IH
        · have hrk : rk l d (q + 1) = rk l d q + 1 := by show rk l d q + _ = _; rw [if_neg hc]
          rw [if_pos (by simpa using hc), Option.bind_some, i64_id (by omega) (by omega)]
          rw [hrk] at IH; exact IH
      · have : p = 0 := by omega
        subst this
        rw [if_neg (by simp), hz, Option.bind_some, e1]
        exact IH
    · have : p = l.length := by omega
      subst this
      exact ⟨out, _, by rw [if_neg (by simp only [decide_eq_true_eq]; omega)], hout, hg⟩
theorem okl_top {m : Nat} (hm : 3 ≤ m) (l : List VNode) : Cm (fun y0 y1 => tree_classes_1.f m y0 y1 l) (fun x y => cT (nd l x) (nd l y)) (ints l.length) := fun x hx y hy => by
  have hx := mem_ints.1 hx
  have hy := mem_ints.1 hy
  exact top_spec hm hx.1 hx.2 hy.1 hy.2
theorem classes_spec {m : Nat} (hm : 2 ^ 41 ≤ m) {l : List VNode} (ok : Okl l) (h1 : 1 ≤ l.length) (Inv : List Int → Prop)
    (hI0 : ∀ d out, d.Perm (ints l.length) → (Ord (fun x y => cT (nd l x) (nd l y)) (ints l.length) → Sg (fun x y => cT (nd l x) (nd l y)) d 0 l.length) → (∀ k, k < l.length → gt out (gt d k).toNat = rk l d k) → Inv out)
    (hI : ∀ out many ks next, Part l.length out many → Inv out → Keys l out l.length ks → next.length = l.length → (∀ i, i < l.length → gt next i = (ks.idxOf (key out (nd l i) i) : Int)) → Inv next) :
    ∃ r many ks, tree_classes.f m l = some r ∧ Part l.length r many ∧ Inv r ∧ Keys l r l.length ks ∧ ks.length = many + 1 := by
  have p40 : (2 : Nat) ^ 40 = 1099511627776 := by decide
  have p41 : (2 : Nat) ^ 41 = 2199023255552 := by decide
  have p30 : (2 : Nat) ^ 30 = 1073741824 := by decide
  have h8000 := ok.1
  have e0 : mkl 8 (l.length : Int) (0 : Int) = some (List.replicate l.length 0) := by unfold mkl; rw [if_pos ⟨by omega, by rw [Int.toNat_natCast]; omega⟩, Int.toNat_natCast]
  unfold tree_classes.f
  obtain ⟨x, k1⟩ := cls_l0 (m := m) (z := List.replicate l.length 0) (by simp; omega) m 0 (List.replicate l.length 0) (by simp; omega) (by omega) rfl (fun k hk => absurd hk (by omega))
  have k1 : tree_classes.l0 m (List.replicate l.length 0) m (List.replicate l.length 0) 0 = _ := k1
  rw [List.length_replicate] at k1
  rw [e0, Option.bind_some, k1, Option.bind_some]
  dsimp only
  obtain ⟨d, k2, hp, hs⟩ := sort_spec hm (l := ints l.length) (by rw [ints_length]; omega) (okl_top (m := m) (by omega) l)
  rw [k2, Option.bind_some, Option.bind_some]
  obtain ⟨out, x, k3, ho, hg⟩ := cls_l1 (m := m) (l := l) (o := ints l.length) (d := d) (by omega) h8000 (ints_length _) hp m 0 (List.replicate l.length 0) (by omega) (by omega) (by simp) (fun k hk => absurd hk (by omega))
  have k3 : tree_classes.l1 m l (ints l.length) d m (List.replicate l.length 0) 0 0 = _ := k3
  rw [k3, Option.bind_some]
  dsimp only
  rw [ints_length] at hs
  have hdl : d.length = l.length := by rw [hp.length_eq, ints_length]
  have hP : Part l.length out (rk l d (l.length - 1)) := by
    refine ⟨ho, fun i hi => ?_, fun v hv => ?_⟩
    · obtain ⟨k, hk, e⟩ := gt_of_mem (hp.mem_iff.2 (mem_ints.2 (show 0 ≤ (i : Int) ∧ (i : Int) < l.length by omega)))
      have := hg k (by omega)
      rw [e, Int.toNat_natCast] at this
      have h2 := rk_mono l d k (l.length - 1) (by omega)
      omega
    · obtain ⟨k, hk, e⟩ := rk_sur l d _ v hv
      have hkl : k < l.length := by omega
      have := mem_ints.1 (hp.mem_iff.1 (gt_mem (l := d) (k := k) (by omega)))
      exact ⟨(gt d k).toNat, by omega, by rw [hg k hkl, e]⟩
  have hrl := rk_le l d (l.length - 1)
  obtain ⟨r, many, ks, k4, P, I, K, hks⟩ := key_l2 (m := m) (by omega) ok Inv hI m out (rk l d (l.length - 1)) (by omega) (by omega) hP (hI0 d out hp hs hg)
  rw [k4]
  exact ⟨r, many, ks, rfl, P, I, K, hks⟩
end Go.Proofs.YtmekcfdllhphlaaDoor

