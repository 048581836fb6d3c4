/- Part of the proof: Q120, PS3, PS4, Q110, Q84, PS5, Q61, Q45, Q108, Q81, Q82, Q109, Q83, Q65, Q85. -/
import Derived.Test.YtmekcfdllhphlaaDoorK6
set_option linter.unusedVariables false
set_option linter.unusedSimpArgs false
set_option maxRecDepth 100000
namespace Go.Proofs.YtmekcfdllhphlaaDoor
open Go Go.R
open Go.IntKind (i64 u64 u8 u32)
def ann120 : Ann := mkA [0, 1, 2, 3, 4, 10, 11, 12, 13, 14, 15, 16, 17, 18, 19, 20, 21, 22, 23, 24, 28, 33, 50, 58, 80, 85, 103, 110, 140, 151, 171, 185, 199, 213] [] [17178820576, 17179869124, 17179869068, 17177771916, 17179868940, 17175674636, 17179869068, 17179869068, 17179868894, 17171480286, 17179868894, 17179868894, 17163091936, 17179868650, 17179867626, 17146313194, 17179865578, 17112756714, 17179867626, 17179867626, 17179864574, 17045646846, 17179864574, 17179864574, 17179860960, 17179844576, 17179844576, 16911409120, 17179811808, 17179746272, 17179811808, 17179746272, 17179615200, 16642744288, 17179353056, 16105611232, 17179615200, 17179615200, 17179303904, 15031820256, 17179303908, 12884336612, 17179336678, 8589402086, 17179869183] [] []
def symMergeC.l0 (m : Nat) (data0 : List Int) (a0 : Int) (cmp0 : Int → Int → Option (Int)) : Nat → Int → Int → Option (Int × Int)
  | 0, _, _ => none
  | k + 1, i0, j0 => if (decide (i0 < j0)) = true then ((ix data0 (i64.wrap (shR .u64 (u64.wrap (i64.wrap (i0 + j0))) 1))).bind fun v0 => (ix data0 a0).bind fun v1 => (cmp0 v0 v1).bind fun r0 => if (decide (r0 < (0 : Int))) = true then (symMergeC.l0 m data0 a0 cmp0 k (i64.wrap (i64.wrap (shR .u64 (u64.wrap (i64.wrap (i0 + j0))) 1) + (1 : Int))) j0) else (symMergeC.l0 m data0 a0 cmp0 k i0 (i64.wrap (shR .u64 (u64.wrap (i64.wrap (i0 + j0))) 1)))) else (some ((i0, j0)))
def symMergeC.l1 (m : Nat) (i1 : Int) : Nat → (List Int) → Int → Option ((List Int) × Int)
  | 0, _, _ => none
  | k + 1, data1, k0 => if (decide (k0 < (i64.wrap (i1 - (1 : Int))))) = true then ((ix data1 (i64.wrap (k0 + (1 : Int)))).bind fun v2 => (ix data1 k0).bind fun v3 => (ix data1 k0).bind fun v4 => (ix (data1.set k0.toNat v2) (i64.wrap (k0 + (1 : Int)))).bind fun v5 => symMergeC.l1 m i1 k ((data1.set k0.toNat v2).set (i64.wrap (k0 + (1 : Int))).toNat v3) (i64.wrap (k0 + (1 : Int)))) else (some ((data1, k0)))
def symMergeC.l2 (m : Nat) (data0 : List Int) (m0 : Int) (cmp0 : Int → Int → Option (Int)) : Nat → Int → Int → Option (Int × Int)
  | 0, _, _ => none
  | k + 1, i2, j2 => if (decide (i2 < j2)) = true then ((ix data0 m0).bind fun v6 => (ix data0 (i64.wrap (shR .u64 (u64.wrap (i64.wrap (i2 + j2))) 1))).bind fun v7 => (cmp0 v6 v7).bind fun r1 => if (!(decide (r1 < (0 : Int)))) = true then (symMergeC.l2 m data0 m0 cmp0 k (i64.wrap (i64.wrap (shR .u64 (u64.wrap (i64.wrap (i2 + j2))) 1) + (1 : Int))) j2) else (symMergeC.l2 m data0 m0 cmp0 k i2 (i64.wrap (shR .u64 (u64.wrap (i64.wrap (i2 + j2))) 1)))) else (some ((i2, j2)))
def symMergeC.l3 (m : Nat) (i3 : Int) : Nat → (List Int) → Int → Option ((List Int) × Int)
  | 0, _, _ => none
  | k + 1, data3, k2 => if (decide (k2 > i3)) = true then ((ix data3 (i64.wrap (k2 - (1 : Int)))).bind fun v8 => (ix data3 k2).bind fun v9 => (ix data3 k2).bind fun v10 => (ix (data3.set k2.toNat v8) (i64.wrap (k2 - (1 : Int)))).bind fun v11 => symMergeC.l3 m i3 k ((data3.set k2.toNat v8).set (i64.wrap (k2 - (1 : Int))).toNat v9) (i64.wrap (k2 - (1 : Int)))) else (some ((data3, k2)))
def symMergeC.l4 (m : Nat) (data0 : List Int) (a0 : Int) (m0 : Int) (b0 : Int) (cmp0 : Int → Int → Option (Int)) : Nat → Int → Int → Option (Int × Int)
  | 0, _, _ => none
  | k + 1, start1, r3 => if (decide (start1 < r3)) = true then ((ix data0 (i64.wrap (i64.wrap (i64.wrap (i64.wrap (shR .u64 (u64.wrap (i64.wrap (a0 + b0))) 1) + m0) - (1 : Int)) - i64.wrap (shR .u64 (u64.wrap (i64.wrap (start1 + r3))) 1)))).bind fun v12 => (ix data0 (i64.wrap (shR .u64 (u64.wrap (i64.wrap (start1 + r3))) 1))).bind fun v13 => (cmp0 v12 v13).bind fun r4 => if (!(decide (r4 < (0 : Int)))) = true then (symMergeC.l4 m data0 a0 m0 b0 cmp0 k (i64.wrap (i64.wrap (shR .u64 (u64.wrap (i64.wrap (start1 + r3))) 1) + (1 : Int))) r3) else (symMergeC.l4 m data0 a0 m0 b0 cmp0 k start1 (i64.wrap (shR .u64 (u64.wrap (i64.wrap (start1 + r3))) 1)))) else (some ((start1, r3)))
def symMergeC.b (m : Nat) (rec : (List Int) → Int → Int → Int → (Int → Int → Option (Int)) → Option ((List Int))) (data0 : List Int) (a0 : Int) (m0 : Int) (b0 : Int) (cmp0 : Int → Int → Option (Int)) : Option ((List Int)) := if ((i64.wrap (m0 - a0)) == (1 : Int)) = true then ((symMergeC.l0 m data0 a0 cmp0 m m0 b0).bind fun out0 => match out0 with | (i1, j1) => (symMergeC.l1 m i1 m data0 a0).bind fun out1 => match out1 with | (data2, k1) => some data2) else (if ((i64.wrap (b0 - m0)) == (1 : Int)) = true then ((symMergeC.l2 m data0 m0 cmp0 m a0 m0).bind fun out2 => match out2 with | (i3, j3) => (symMergeC.l3 m i3 m data0 m0).bind fun out3 => match out3 with | (data4, k3) => some data4) else (jn (fun (σ : Int × Int) => match σ with | (start0, r2) => (symMergeC.l4 m data0 a0 m0 b0 cmp0 m start0 r2).bind fun out4 => match out4 with | (start2, r5) => jn (fun (σ : (List Int)) => match σ with | data5 => jn (fun (σ : (List Int)) => match σ with | data6 => if (decide ((i64.wrap (shR .u64 (u64.wrap (i64.wrap (a0 + b0))) 1)) < (i64.wrap (i64.wrap (i64.wrap (shR .u64 (u64.wrap (i64.wrap (a0 + b0))) 1) + m0) - start2)))) = true then (if (decide ((i64.wrap (i64.wrap (i64.wrap (shR .u64 (u64.wrap (i64.wrap (a0 + b0))) 1) + m0) - start2)) < b0)) = true then ((rec data6 (i64.wrap (shR .u64 (u64.wrap (i64.wrap (a0 + b0))) 1)) (i64.wrap (i64.wrap (i64.wrap (shR .u64 (u64.wrap (i64.wrap (a0 + b0))) 1) + m0) - start2)) b0 cmp0).bind fun x2 => some x2) else (some data6)) else (some data6)) fun jn2 => (if (decide (a0 < start2)) = true then (if (decide (start2 < (i64.wrap (shR .u64 (u64.wrap (i64.wrap (a0 + b0))) 1)))) = true then ((rec data5 a0 start2 (i64.wrap (shR .u64 (u64.wrap (i64.wrap (a0 + b0))) 1)) cmp0).bind fun x1 => jn2 x1) else (jn2 data5)) else (jn2 data5))) fun jn1 => (if (decide (start2 < m0)) = true then (if (decide (m0 < (i64.wrap (i64.wrap (i64.wrap (shR .u64 (u64.wrap (i64.wrap (a0 + b0))) 1) + m0) - start2)))) = true then ((rotateC.f m data0 start2 m0 (i64.wrap (i64.wrap (i64.wrap (shR .u64 (u64.wrap (i64.wrap (a0 + b0))) 1) + m0) - start2)) cmp0).bind fun x0 => jn1 x0) else (jn1 data0)) else (jn1 data0))) fun jn0 => (if (decide (m0 > (i64.wrap (shR .u64 (u64.wrap (i64.wrap (a0 + b0))) 1)))) = true then (jn0 (i64.wrap (i64.wrap (i64.wrap (shR .u64 (u64.wrap (i64.wrap (a0 + b0))) 1) + m0) - b0), i64.wrap (shR .u64 (u64.wrap (i64.wrap (a0 + b0))) 1))) else (jn0 (a0, m0)))))
def symMergeC.f (m : Nat) : Nat → (List Int) → Int → Int → Int → (Int → Int → Option (Int)) → Option ((List Int))
  | 0, _, _, _, _, _ => none
  | k + 1, data0, a0, m0, b0, cmp0 => symMergeC.b m (symMergeC.f m k) data0 a0 m0 b0 cmp0
def symMergeC.fin (L : Mem) (ad0 : Nat) (data0 : List Int) (a0 : Int) (m0 : Int) (b0 : Int) (cmp0 : Int → Int → Option (Int)) (r : (List Int)) (s : St) : Prop := resultA Tryd.prog (s.open ann120) Tryd.f120.results.toList = some (.tup []) ∧ Has s.h ((ad0, .sl data0.length 1 (eInt.l r)) :: L)
def S120 (cf : CallF) (m : Nat) (kk : Nat) : Prop := ∀ (data0 : List Int) (a0 : Int) (m0 : Int) (b0 : Int) (cmp0 : Int → Int → Option (Int)) (r : (List Int)), symMergeC.f m kk data0 a0 m0 b0 cmp0 = some r → ∀ h L (n_data0 : Nat) (ad0 : Nat), Has h ((ad0, .sl n_data0 1 (eInt.l data0)) :: L) → ∀ (g4_ : FuncId) (cap4_ : List AV), canonArg (.fn g4_ cap4_) = .fn g4_ cap4_ → (∀ h K, Has h (K ++ L) → ∀ (a0 : Int) (a1 : Int) r, cmp0 a0 a1 = some r → cf g4_ ([.int .i64 a0, .int .i64 a1] ++ cap4_) h = some (.int .i64 r, h)) → ∀ xs, xs.map canonArg = [.rs ad0 0 n_data0 1, .int .i64 a0, .int .i64 m0, .int .i64 b0, .fn g4_ cap4_] → ∃ h', cf 120 xs h = some (.tup [], h') ∧ Has h' ((ad0, .sl n_data0 1 (eInt.l r)) :: L)
section
variable {cf : CallF} {m : Nat}
theorem symMergeC.l0_ok (L : Mem) (ad0 : Nat) (g4_ : FuncId) (cap4_ : List AV) (data0 : List Int) (a0 : Int) (m0 : Int) (b0 : Int) (cmp0 : Int → Int → Option (Int))  {kk : Nat} (S120_ : S120 cf m kk) (hc4_ : canonArg (.fn g4_ cap4_) = .fn g4_ cap4_) (Hp4_ : ∀ h K, Has h (K ++ L) → ∀ (a0 : Int) (a1 : Int) r, cmp0 a0 a1 = some r → cf g4_ ([.int .i64 a0, .int .i64 a1] ++ cap4_) h = some (.int .i64 r, h))  : LoopT Tryd.prog cf ann120 m (sub [0, 1, 0, 1, 1, 0, 0, 0] (codeOf Tryd.f120)) (fun k (σ : Int × Int) => symMergeC.l0 m data0 a0 cmp0 k σ.1 σ.2) (fun σ s => match σ with | (i0, j0) => ∃ h0, s = ⟨.rs ad0 0 data0.length 1 :: .int .i64 a0 :: .any :: .any :: .fn g4_ cap4_ :: .int .i64 i0 :: .int .i64 j0 :: Ay27 [], [], h0⟩ ∧ Has h0 ((ad0, .sl data0.length 1 (eInt.l data0)) :: L)) (fun out e s => (e = .exit 0 ∧ ∃ i0 j0, (i0, j0) = out ∧ ∃ x4_ x11_ x33_ h0, s = ⟨.rs ad0 0 data0.length 1 :: .int .i64 a0 :: .any :: .any :: x4_ :: .int .i64 i0 :: x11_ :: Ay14 (x33_ :: Ay12 []), [], h0⟩ ∧ Has h0 ((ad0, .sl data0.length 1 (eInt.l data0)) :: L))) := by
  refine lpT (fun _ => rfl) ?_
  rintro k ⟨i0, j0⟩ s out ⟨h0, rfl, o0⟩ H
  have H : symMergeC.l0 m data0 a0 cmp0 (k + 1) i0 j0 = some out := H
  refine qq <| qq <| q0 <| qc H (fun c1 H => ?_) (fun c1 H => ?_)
  · refine qk <| qb 1 <| qq <| q0 <| qq ?_
    obtain ⟨v0, e0, H⟩ := bsi H
    obtain ⟨v1, e1, H⟩ := bsi H
    obtain ⟨r0, e2, H⟩ := bsi H
    refine qr [.v 3 (ia_ownL (k := .i64) (E := eInt) (l := data0) (q := 0) T42 o0 rfl e0), .v 4 (ld_own0  (E := eInt) (l := data0) (q := 0) o0 rfl A3 e0 rfl), .v 7 (ia_ownL (k := .i64) (E := eInt) (l := data0) (q := 0) T42 o0 rfl e1), .v 8 (ld_own0  (E := eInt) (l := data0) (q := 0) o0 rfl A3 e1 rfl), .a 9 (Hp4_ h0 [(ad0, .sl data0.length 1 (eInt.l data0))] o0 _ _ _ e2)] <| qc H (fun c2 H => ?_) (fun c2 H => ?_)
    · exact q0 <| ⟨(i64.wrap (i64.wrap (shR .u64 (u64.wrap (i64.wrap (i0 + j0))) 1) + (1 : Int)), j0), ⟨h0, by kernel_rfl, o0⟩, H⟩
    · exact q0 <| ⟨(i0, i64.wrap (shR .u64 (u64.wrap (i64.wrap (i0 + j0))) 1)), ⟨h0, by kernel_rfl, o0⟩, H⟩
  · exact qx 0 <| ⟨rfl, i0, j0, oi H, .fn g4_ cap4_, .int .i64 j0, .bool (decide (i0 < j0)), h0, by kernel_rfl, o0⟩
theorem symMergeC.l1_ok (L : Mem) (ad0 : Nat) (g4_ : FuncId) (cap4_ : List AV) (data0 : List Int) (a0 : Int) (m0 : Int) (b0 : Int) (cmp0 : Int → Int → Option (Int)) (i1 : Int)  {kk : Nat} (S120_ : S120 cf m kk) (hc4_ : canonArg (.fn g4_ cap4_) = .fn g4_ cap4_) (Hp4_ : ∀ h K, Has h (K ++ L) → ∀ (a0 : Int) (a1 : Int) r, cmp0 a0 a1 = some r → cf g4_ ([.int .i64 a0, .int .i64 a1] ++ cap4_) h = some (.int .i64 r, h))  : LoopT Tryd.prog cf ann120 m (sub [0, 1, 0, 1, 1, 1, 0, 1, 0, 0] (codeOf Tryd.f120)) (fun k (σ : (List Int) × Int) => symMergeC.l1 m i1 k σ.1 σ.2) (fun σ s => match σ with | (data1, k0) => ∃ h2, s = ⟨.rs ad0 0 data0.length 1 :: Ay4 (.int .i64 i1 :: .any :: .any :: .int .i64 k0 :: Ay25 []), [], h2⟩ ∧ Has h2 ((ad0, .sl data0.length 1 (eInt.l data1)) :: L)) (fun out e s => (e = .exit 2 ∧ ∃ data1 k0, (data1, k0) = out ∧ ∃ x0_ x10_ x13_ x58_ h2, s = ⟨x0_ :: Ay4 (x10_ :: .any :: .any :: x13_ :: Ay14 (x58_ :: Ay10 [])), [], h2⟩ ∧ Has h2 ((ad0, .sl data0.length 1 (eInt.l data1)) :: L))) := by
  refine lpT (fun _ => rfl) ?_
  rintro k ⟨data1, k0⟩ s out ⟨h2, rfl, o2⟩ H
  have H : symMergeC.l1 m i1 (k + 1) data1 k0 = some out := H
  refine qq <| qq <| q0 <| qc H (fun c3 H => ?_) (fun c3 H => ?_)
  · refine qk <| qq <| qb 3 ?_
    obtain ⟨v2, e4, H⟩ := bsi H
    obtain ⟨v3, e5, H⟩ := bsi H
    obtain ⟨v4, e6, H⟩ := bsi H
    obtain ⟨h3, e7, o3⟩ := st_own (P := Tryd.prog) (tf := 3) (E := eInt) (l := data1) (q := 0) (v := v2) (x := .int .i64 v2) o2 rfl Z3 e6 rfl rfl
    obtain ⟨v5, e8, H⟩ := bsi H
    obtain ⟨h4, e9, o4⟩ := st_own (P := Tryd.prog) (tf := 3) (E := eInt) (l := (data1.set k0.toNat v2)) (q := 0) (v := v3) (x := .int .i64 v3) o3 rfl Z3 e8 rfl rfl
    exact qr [.v 8 (ia_ownL (k := .i64) (E := eInt) (l := data1) (q := 0) T42 o2 rfl e4), .v 9 (ld_own0  (E := eInt) (l := data1) (q := 0) o2 rfl A3 e4 rfl), .v 12 (ia_ownL (k := .i64) (E := eInt) (l := data1) (q := 0) T42 o2 rfl e5), .v 13 (ld_own0  (E := eInt) (l := data1) (q := 0) o2 rfl A3 e5 rfl), .v 14 (ia_ownL (k := .i64) (E := eInt) (l := data1) (q := 0) T42 o2 rfl e6), .w 15 e7, .v 16 (ia_ownL (k := .i64) (E := eInt) (l := (data1.set k0.toNat v2)) (q := 0) T42 o3 rfl e8), .w 17 e9] <| q0 <| ⟨((data1.set k0.toNat v2).set (i64.wrap (k0 + (1 : Int))).toNat v3, i64.wrap (k0 + (1 : Int))), ⟨h4, by kernel_rfl, o4⟩, H⟩
  · exact qx 2 <| ⟨rfl, data1, k0, oi H, .rs ad0 0 data0.length 1, .int .i64 i1, .int .i64 k0, .bool (decide (k0 < (i64.wrap (i1 - (1 : Int))))), h2, by kernel_rfl, o2⟩
theorem symMergeC.l2_ok (L : Mem) (ad0 : Nat) (g4_ : FuncId) (cap4_ : List AV) (data0 : List Int) (a0 : Int) (m0 : Int) (b0 : Int) (cmp0 : Int → Int → Option (Int))  {kk : Nat} (S120_ : S120 cf m kk) (hc4_ : canonArg (.fn g4_ cap4_) = .fn g4_ cap4_) (Hp4_ : ∀ h K, Has h (K ++ L) → ∀ (a0 : Int) (a1 : Int) r, cmp0 a0 a1 = some r → cf g4_ ([.int .i64 a0, .int .i64 a1] ++ cap4_) h = some (.int .i64 r, h))  : LoopT Tryd.prog cf ann120 m (sub [1, 0, 1, 0, 1, 1, 0, 0, 0] (codeOf Tryd.f120)) (fun k (σ : Int × Int) => symMergeC.l2 m data0 m0 cmp0 k σ.1 σ.2) (fun σ s => match σ with | (i2, j2) => ∃ h6, s = ⟨.rs ad0 0 data0.length 1 :: .any :: .int .i64 m0 :: .any :: .fn g4_ cap4_ :: Ay4 (.int .i64 i2 :: .int .i64 j2 :: Ay23 []), [], h6⟩ ∧ Has h6 ((ad0, .sl data0.length 1 (eInt.l data0)) :: L)) (fun out e s => (e = .exit 4 ∧ ∃ i2 j2, (i2, j2) = out ∧ ∃ x4_ x15_ x85_ h6, s = ⟨.rs ad0 0 data0.length 1 :: .any :: .int .i64 m0 :: .any :: x4_ :: Ay4 (.int .i64 i2 :: x15_ :: Ay14 (x85_ :: Ay8 [])), [], h6⟩ ∧ Has h6 ((ad0, .sl data0.length 1 (eInt.l data0)) :: L))) := by
  refine lpT (fun _ => rfl) ?_
  rintro k ⟨i2, j2⟩ s out ⟨h6, rfl, o6⟩ H
  have H : symMergeC.l2 m data0 m0 cmp0 (k + 1) i2 j2 = some out := H
  refine qq <| qq <| q0 <| qc H (fun c5 H => ?_) (fun c5 H => ?_)
  · refine qk <| qb 5 <| qq <| q0 <| qq ?_
    obtain ⟨v6, e11, H⟩ := bsi H
    obtain ⟨v7, e12, H⟩ := bsi H
    obtain ⟨r1, e13, H⟩ := bsi H
    refine qr [.v 3 (ia_ownL (k := .i64) (E := eInt) (l := data0) (q := 0) T42 o6 rfl e11), .v 4 (ld_own0  (E := eInt) (l := data0) (q := 0) o6 rfl A3 e11 rfl), .v 7 (ia_ownL (k := .i64) (E := eInt) (l := data0) (q := 0) T42 o6 rfl e12), .v 8 (ld_own0  (E := eInt) (l := data0) (q := 0) o6 rfl A3 e12 rfl), .a 9 (Hp4_ h6 [(ad0, .sl data0.length 1 (eInt.l data0))] o6 _ _ _ e13)] <| qc H (fun c6 H => ?_) (fun c6 H => ?_)
    · exact q0 <| ⟨(i64.wrap (i64.wrap (shR .u64 (u64.wrap (i64.wrap (i2 + j2))) 1) + (1 : Int)), j2), ⟨h6, by kernel_rfl, o6⟩, H⟩
    · exact q0 <| ⟨(i2, i64.wrap (shR .u64 (u64.wrap (i64.wrap (i2 + j2))) 1)), ⟨h6, by kernel_rfl, o6⟩, H⟩
  · exact qx 4 <| ⟨rfl, i2, j2, oi H, .fn g4_ cap4_, .int .i64 j2, .bool (decide (i2 < j2)), h6, by kernel_rfl, o6⟩
theorem symMergeC.l3_ok (L : Mem) (ad0 : Nat) (g4_ : FuncId) (cap4_ : List AV) (data0 : List Int) (a0 : Int) (m0 : Int) (b0 : Int) (cmp0 : Int → Int → Option (Int)) (i3 : Int)  {kk : Nat} (S120_ : S120 cf m kk) (hc4_ : canonArg (.fn g4_ cap4_) = .fn g4_ cap4_) (Hp4_ : ∀ h K, Has h (K ++ L) → ∀ (a0 : Int) (a1 : Int) r, cmp0 a0 a1 = some r → cf g4_ ([.int .i64 a0, .int .i64 a1] ++ cap4_) h = some (.int .i64 r, h))  : LoopT Tryd.prog cf ann120 m (sub [1, 0, 1, 0, 1, 1, 1, 0, 1, 0, 0] (codeOf Tryd.f120)) (fun k (σ : (List Int) × Int) => symMergeC.l3 m i3 k σ.1 σ.2) (fun σ s => match σ with | (data3, k2) => ∃ h8, s = ⟨.rs ad0 0 data0.length 1 :: Ay8 (.int .i64 i3 :: .any :: .any :: .int .i64 k2 :: Ay21 []), [], h8⟩ ∧ Has h8 ((ad0, .sl data0.length 1 (eInt.l data3)) :: L)) (fun out e s => (e = .exit 6 ∧ ∃ data3 k2, (data3, k2) = out ∧ ∃ x0_ x14_ x17_ x110_ h8, s = ⟨x0_ :: Ay8 (x14_ :: .any :: .any :: x17_ :: Ay14 (x110_ :: Ay6 [])), [], h8⟩ ∧ Has h8 ((ad0, .sl data0.length 1 (eInt.l data3)) :: L))) := by
  refine lpT (fun _ => rfl) ?_
  rintro k ⟨data3, k2⟩ s out ⟨h8, rfl, o8⟩ H
  have H : symMergeC.l3 m i3 (k + 1) data3 k2 = some out := H
  refine qq <| qq <| q0 <| qc H (fun c7 H => ?_) (fun c7 H => ?_)
  · refine qk <| qq <| qb 7 ?_
    obtain ⟨v8, e15, H⟩ := bsi H
    obtain ⟨v9, e16, H⟩ := bsi H
    obtain ⟨v10, e17, H⟩ := bsi H
    obtain ⟨h9, e18, o9⟩ := st_own (P := Tryd.prog) (tf := 3) (E := eInt) (l := data3) (q := 0) (v := v8) (x := .int .i64 v8) o8 rfl Z3 e17 rfl rfl
    obtain ⟨v11, e19, H⟩ := bsi H
    obtain ⟨h10, e20, o10⟩ := st_own (P := Tryd.prog) (tf := 3) (E := eInt) (l := (data3.set k2.toNat v8)) (q := 0) (v := v9) (x := .int .i64 v9) o9 rfl Z3 e19 rfl rfl
    exact qr [.v 8 (ia_ownL (k := .i64) (E := eInt) (l := data3) (q := 0) T42 o8 rfl e15), .v 9 (ld_own0  (E := eInt) (l := data3) (q := 0) o8 rfl A3 e15 rfl), .v 12 (ia_ownL (k := .i64) (E := eInt) (l := data3) (q := 0) T42 o8 rfl e16), .v 13 (ld_own0  (E := eInt) (l := data3) (q := 0) o8 rfl A3 e16 rfl), .v 14 (ia_ownL (k := .i64) (E := eInt) (l := data3) (q := 0) T42 o8 rfl e17), .w 15 e18, .v 16 (ia_ownL (k := .i64) (E := eInt) (l := (data3.set k2.toNat v8)) (q := 0) T42 o9 rfl e19), .w 17 e20] <| q0 <| ⟨((data3.set k2.toNat v8).set (i64.wrap (k2 - (1 : Int))).toNat v9, i64.wrap (k2 - (1 : Int))), ⟨h10, by kernel_rfl, o10⟩, H⟩
  · exact qx 6 <| ⟨rfl, data3, k2, oi H, .rs ad0 0 data0.length 1, .int .i64 i3, .int .i64 k2, .bool (decide (k2 > i3)), h8, by kernel_rfl, o8⟩
theorem symMergeC.l4_ok (L : Mem) (ad0 : Nat) (g4_ : FuncId) (cap4_ : List AV) (data0 : List Int) (a0 : Int) (m0 : Int) (b0 : Int) (cmp0 : Int → Int → Option (Int))  {kk : Nat} (S120_ : S120 cf m kk) (hc4_ : canonArg (.fn g4_ cap4_) = .fn g4_ cap4_) (Hp4_ : ∀ h K, Has h (K ++ L) → ∀ (a0 : Int) (a1 : Int) r, cmp0 a0 a1 = some r → cf g4_ ([.int .i64 a0, .int .i64 a1] ++ cap4_) h = some (.int .i64 r, h))  : LoopT Tryd.prog cf ann120 m (sub [1, 1, 1, 1, 1, 1, 1, 0, 0, 0] (codeOf Tryd.f120)) (fun k (σ : Int × Int) => symMergeC.l4 m data0 a0 m0 b0 cmp0 k σ.1 σ.2) (fun σ s => match σ with | (start1, r3) => ∃ h13, s = ⟨.rs ad0 0 data0.length 1 :: .int .i64 a0 :: .int .i64 m0 :: .int .i64 b0 :: .fn g4_ cap4_ :: Ay8 (.int .i64 (i64.wrap (shR .u64 (u64.wrap (i64.wrap (a0 + b0))) 1)) :: .int .i64 (i64.wrap (i64.wrap (shR .u64 (u64.wrap (i64.wrap (a0 + b0))) 1) + m0)) :: .int .i64 start1 :: .int .i64 r3 :: .int .i64 (i64.wrap (i64.wrap (i64.wrap (shR .u64 (u64.wrap (i64.wrap (a0 + b0))) 1) + m0) - (1 : Int))) :: Ay16 []), [], h13⟩ ∧ Has h13 ((ad0, .sl data0.length 1 (eInt.l data0)) :: L)) (fun out e s => (e = .exit 8 ∧ ∃ start1 r3, (start1, r3) = out ∧ ∃ x21_ x22_ x151_ h13, s = ⟨.rs ad0 0 data0.length 1 :: .int .i64 a0 :: .int .i64 m0 :: .int .i64 b0 :: .fn g4_ cap4_ :: Ay8 (.int .i64 (i64.wrap (shR .u64 (u64.wrap (i64.wrap (a0 + b0))) 1)) :: .int .i64 (i64.wrap (i64.wrap (shR .u64 (u64.wrap (i64.wrap (a0 + b0))) 1) + m0)) :: .int .i64 start1 :: x21_ :: x22_ :: Ay11 (x151_ :: Ay4 [])), [], h13⟩ ∧ Has h13 ((ad0, .sl data0.length 1 (eInt.l data0)) :: L))) := by
  refine lpT (fun _ => rfl) ?_
  rintro k ⟨start1, r3⟩ s out ⟨h13, rfl, o13⟩ H
  have H : symMergeC.l4 m data0 a0 m0 b0 cmp0 (k + 1) start1 r3 = some out := H
  refine qq <| qq <| q0 <| qc H (fun c9 H => ?_) (fun c9 H => ?_)
  · refine qk <| qb 9 <| qq <| q0 <| qq ?_
    obtain ⟨v12, e22, H⟩ := bsi H
    obtain ⟨v13, e23, H⟩ := bsi H
    obtain ⟨r4, e24, H⟩ := bsi H
    refine qr [.v 5 (ia_ownL (k := .i64) (E := eInt) (l := data0) (q := 0) T42 o13 rfl e22), .v 6 (ld_own0  (E := eInt) (l := data0) (q := 0) o13 rfl A3 e22 rfl), .v 9 (ia_ownL (k := .i64) (E := eInt) (l := data0) (q := 0) T42 o13 rfl e23), .v 10 (ld_own0  (E := eInt) (l := data0) (q := 0) o13 rfl A3 e23 rfl), .a 11 (Hp4_ h13 [(ad0, .sl data0.length 1 (eInt.l data0))] o13 _ _ _ e24)] <| qc H (fun c10 H => ?_) (fun c10 H => ?_)
    · exact q0 <| ⟨(i64.wrap (i64.wrap (shR .u64 (u64.wrap (i64.wrap (start1 + r3))) 1) + (1 : Int)), r3), ⟨h13, by kernel_rfl, o13⟩, H⟩
    · exact q0 <| ⟨(start1, i64.wrap (shR .u64 (u64.wrap (i64.wrap (start1 + r3))) 1)), ⟨h13, by kernel_rfl, o13⟩, H⟩
  · exact qx 8 <| ⟨rfl, start1, r3, oi H, .int .i64 r3, .int .i64 (i64.wrap (i64.wrap (i64.wrap (shR .u64 (u64.wrap (i64.wrap (a0 + b0))) 1) + m0) - (1 : Int))), .bool (decide (start1 < r3)), h13, by kernel_rfl, o13⟩
theorem symMergeC_body {ann : FuncId → Ann} (ha : ann 120 = ann120) (S122_ : S122 cf m) (data0 : List Int) (a0 : Int) (m0 : Int) (b0 : Int) (cmp0 : Int → Int → Option (Int)) (h : AHeap) (L : Mem) (ad0 : Nat) (g4_ : FuncId) (cap4_ : List AV)  {kk : Nat} (S120_ : S120 cf m kk) (hc4_ : canonArg (.fn g4_ cap4_) = .fn g4_ cap4_) (Hp4_ : ∀ h K, Has h (K ++ L) → ∀ (a0 : Int) (a1 : Int) r, cmp0 a0 a1 = some r → cf g4_ ([.int .i64 a0, .int .i64 a1] ++ cap4_) h = some (.int .i64 r, h)) (o : Has h ((ad0, .sl data0.length 1 (eInt.l data0)) :: L)) {out : (List Int)} (H : symMergeC.f m (kk + 1) data0 a0 m0 b0 cmp0 = some out) :
    ∃ r h', bodyA Tryd.prog ann cf m 120 [.rs ad0 0 data0.length 1, .int .i64 a0, .int .i64 m0, .int .i64 b0, .fn g4_ cap4_] h = some (r, h') ∧ r = .tup [] ∧ Has h' ((ad0, .sl data0.length 1 (eInt.l out)) :: L) := by
  refine body_of_ends2 (fn := Tryd.f120) ha Tryd.func120 (by kernel_rfl) (by kernel_rfl) ?_
  refine ends_fin (Q := fun s => symMergeC.fin L ad0 data0 a0 m0 b0 cmp0 out s) (fun _ _ ⟨h1, h2, h3⟩ => ⟨h1, _, h2, rfl, h3⟩) ?_
  have H : symMergeC.b m (symMergeC.f m kk) data0 a0 m0 b0 cmp0 = some out := H
  unfold symMergeC.b at H
  show Enz _ cf ann120 m _ ⟨.rs ad0 0 data0.length 1 :: .int .i64 a0 :: .int .i64 m0 :: .int .i64 b0 :: .fn g4_ cap4_ :: Ay29 [], [], h⟩ _
  refine qq <| qq <| q0 <| qc H (fun c0 H => ?_) (fun c0 H => ?_)
  · refine q1 <| qq <| q0 <| qq <| qb 0 ?_
    obtain ⟨out0, e3, H⟩ := bsi H
    refine ql (symMergeC.l0_ok L ad0 g4_ cap4_ data0 a0 m0 b0 cmp0  S120_ hc4_ Hp4_  (m0, b0) _ _ ⟨h, by kernel_rfl, o⟩ e3) ?_
    rintro e s ⟨rfl, i1, j1, rfl, g0, g1, g2, h1, rfl, o1⟩
    try dsimp only at H
    refine qq <| qq <| q0 <| qb 2 ?_
    obtain ⟨out1, e10, H⟩ := bsi H
    refine ql (symMergeC.l1_ok L ad0 g4_ cap4_ data0 a0 m0 b0 cmp0 i1  S120_ hc4_ Hp4_  (data0, a0) _ _ ⟨h1, by kernel_rfl, o1⟩ e10) ?_
    rintro e s ⟨rfl, data2, k1, rfl, g3, g4, g5, g6, h5, rfl, o5⟩
    try dsimp only at H
    obtain rfl := oi H
    exact qt <| ⟨.inl rfl, ⟨by kernel_rfl, he o5⟩⟩
  · refine qk <| qq <| qq <| q0 <| qc H (fun c4 H => ?_) (fun c4 H => ?_)
    · refine q1 <| qq <| q0 <| qq <| qb 4 ?_
      obtain ⟨out2, e14, H⟩ := bsi H
      refine ql (symMergeC.l2_ok L ad0 g4_ cap4_ data0 a0 m0 b0 cmp0  S120_ hc4_ Hp4_  (a0, m0) _ _ ⟨h, by kernel_rfl, o⟩ e14) ?_
      rintro e s ⟨rfl, i3, j3, rfl, g7, g8, g9, h7, rfl, o7⟩
      try dsimp only at H
      refine qq <| qq <| q0 <| qb 6 ?_
      obtain ⟨out3, e21, H⟩ := bsi H
      refine ql (symMergeC.l3_ok L ad0 g4_ cap4_ data0 a0 m0 b0 cmp0 i3  S120_ hc4_ Hp4_  (data0, m0) _ _ ⟨h7, by kernel_rfl, o7⟩ e21) ?_
      rintro e s ⟨rfl, data4, k3, rfl, g10, g11, g12, g13, h11, rfl, o11⟩
      try dsimp only at H
      obtain rfl := oi H
      exact qt <| ⟨.inl rfl, ⟨by kernel_rfl, he o11⟩⟩
    · refine qk <| qq <| q0 <| qq <| q0 <| qq <| q0 ?_
      obtain ⟨jn0, hj0, H⟩ := jn_elim H
      refine qj (S := fun (σ : Int × Int) s => match σ with | (start0, r2) => ∃ (h12 : AHeap), s = ⟨.rs ad0 0 data0.length 1 :: .int .i64 a0 :: .int .i64 m0 :: .int .i64 b0 :: .fn g4_ cap4_ :: Ay8 (.int .i64 (i64.wrap (shR .u64 (u64.wrap (i64.wrap (a0 + b0))) 1)) :: .int .i64 (i64.wrap (i64.wrap (shR .u64 (u64.wrap (i64.wrap (a0 + b0))) 1) + m0)) :: .int .i64 start0 :: .int .i64 r2 :: Ay17 []), [], h12⟩ ∧ Has h12 ((ad0, .sl data0.length 1 (eInt.l data0)) :: L)) jn0 H ?_ ?_
      · rintro ⟨start0, r2⟩ s ⟨h12, rfl, o12⟩ H
        have H := (hj0 _).symm.trans H
        try dsimp only at H
        refine q1 <| qq <| qb 8 ?_
        obtain ⟨out4, e25, H⟩ := bsi H
        refine ql (symMergeC.l4_ok L ad0 g4_ cap4_ data0 a0 m0 b0 cmp0  S120_ hc4_ Hp4_  (start0, r2) _ _ ⟨h12, by kernel_rfl, o12⟩ e25) ?_
        rintro e s ⟨rfl, start2, r5, rfl, g14, g15, g16, h14, rfl, o14⟩
        try dsimp only at H
        refine q1 ?_
        obtain ⟨jn1, hj1, H⟩ := jn_elim H
        refine qj (S := fun (σ : (List Int)) s => match σ with | data5 => ∃ (g17 : AV) (g18 : AV) (h16 : AHeap), s = ⟨.rs ad0 0 data0.length 1 :: .int .i64 a0 :: g17 :: .int .i64 b0 :: .fn g4_ cap4_ :: Ay8 (.int .i64 (i64.wrap (shR .u64 (u64.wrap (i64.wrap (a0 + b0))) 1)) :: .any :: .int .i64 start2 :: Ay3 (.int .i64 (i64.wrap (i64.wrap (i64.wrap (shR .u64 (u64.wrap (i64.wrap (a0 + b0))) 1) + m0) - start2)) :: Ay11 [g18, .any, .any])), [], h16⟩ ∧ Has h16 ((ad0, .sl data0.length 1 (eInt.l data5)) :: L)) jn1 H ?_ ?_
        · rintro data5 s ⟨g17, g18, h16, rfl, o16⟩ H
          have H := (hj1 _).symm.trans H
          try dsimp only at H
          obtain ⟨jn2, hj2, H⟩ := jn_elim H
          refine qj (S := fun (σ : (List Int)) s => match σ with | data6 => ∃ (g19 : AV) (g20 : AV) (g21 : AV) (h18 : AHeap), s = ⟨.rs ad0 0 data0.length 1 :: g19 :: .any :: .int .i64 b0 :: .fn g4_ cap4_ :: Ay8 (.int .i64 (i64.wrap (shR .u64 (u64.wrap (i64.wrap (a0 + b0))) 1)) :: .any :: g20 :: Ay3 (.int .i64 (i64.wrap (i64.wrap (i64.wrap (shR .u64 (u64.wrap (i64.wrap (a0 + b0))) 1) + m0) - start2)) :: Ay12 [g21, .any])), [], h18⟩ ∧ Has h18 ((ad0, .sl data0.length 1 (eInt.l data6)) :: L)) jn2 H ?_ ?_
          · rintro data6 s ⟨g19, g20, g21, h18, rfl, o18⟩ H
            have H := (hj2 _).symm.trans H
            try dsimp only at H
            refine qq ?_
            rcases ift H with ⟨c17, H⟩ | ⟨c17, H⟩
            · refine qr [.b 3 c17] <| qc H (fun c18 H => ?_) (fun c18 H => ?_)
              · obtain ⟨x2, e30, H⟩ := bsi H
                obtain ⟨h19, e31, o19⟩ := S120_ _ _ _ _ _ _ e30 h18 _ _ _ (o18) g4_ cap4_ hc4_ (fun h' K' o' => Hp4_ h' (K' ++ []) (by simpa only [List.append_assoc, List.cons_append, List.nil_append] using o')) [.rs ad0 0 data0.length 1, .int .i64 (i64.wrap (shR .u64 (u64.wrap (i64.wrap (a0 + b0))) 1)), .int .i64 (i64.wrap (i64.wrap (i64.wrap (shR .u64 (u64.wrap (i64.wrap (a0 + b0))) 1) + m0) - start2)), .int .i64 b0, .fn g4_ cap4_] (can_cons (rfl) (can_cons (can_pure (pu_int)) (can_cons (can_pure (pu_int)) (can_cons (can_pure (pu_int)) (can_cons (hc4_) (can_nil))))))
                obtain rfl := oi H
                exact qr [.a 5 e31] <| ⟨.inr rfl, ⟨by kernel_rfl, he o19⟩⟩
              · obtain rfl := oi H
                exact qk <| ⟨.inr rfl, ⟨by kernel_rfl, he o18⟩⟩
            · obtain rfl := oi H
              exact qr [.b 3 c17] <| qcF <| qk <| ⟨.inr rfl, ⟨by kernel_rfl, he o18⟩⟩
          clear hj2
          intro jn2_
          refine qq ?_
          rcases ift H with ⟨c14, H⟩ | ⟨c14, H⟩
          · refine qr [.b 3 c14] <| qc H (fun c15 H => ?_) (fun c15 H => ?_)
            · obtain ⟨x1, e28, H⟩ := bsi H
              obtain ⟨h17, e29, o17⟩ := S120_ _ _ _ _ _ _ e28 h16 _ _ _ (o16) g4_ cap4_ hc4_ (fun h' K' o' => Hp4_ h' (K' ++ []) (by simpa only [List.append_assoc, List.cons_append, List.nil_append] using o')) [.rs ad0 0 data0.length 1, .int .i64 a0, .int .i64 start2, .int .i64 (i64.wrap (shR .u64 (u64.wrap (i64.wrap (a0 + b0))) 1)), .fn g4_ cap4_] (can_cons (rfl) (can_cons (can_pure (pu_int)) (can_cons (can_pure (pu_int)) (can_cons (can_pure (pu_int)) (can_cons (hc4_) (can_nil))))))
              exact qr [.a 5 e29] <| jn2_ x1 _ ⟨.any, .any, .any, h17, by kernel_rfl, o17⟩ H
            · exact qk <| jn2_ data5 _ ⟨.int .i64 a0, .int .i64 start2, .bool (decide (start2 < (i64.wrap (shR .u64 (u64.wrap (i64.wrap (a0 + b0))) 1)))), h16, by kernel_rfl, o16⟩ H
          · exact qr [.b 3 c14] <| qcF <| qk <| jn2_ data5 _ ⟨.int .i64 a0, .int .i64 start2, .bool false, h16, by kernel_rfl, o16⟩ H
        clear hj1
        intro jn1_
        refine qq ?_
        rcases ift H with ⟨c11, H⟩ | ⟨c11, H⟩
        · refine qr [.b 3 c11] <| qc H (fun c12 H => ?_) (fun c12 H => ?_)
          · obtain ⟨x0, e26, H⟩ := bsi H
            obtain ⟨h15, e27, o15⟩ := S122_ _ _ _ _ _ _ e26 h14 _ _ _ (o14) g4_ cap4_ hc4_ (fun h' K' o' => Hp4_ h' (K' ++ []) (by simpa only [List.append_assoc, List.cons_append, List.nil_append] using o')) [.rs ad0 0 data0.length 1, .int .i64 start2, .int .i64 m0, .int .i64 (i64.wrap (i64.wrap (i64.wrap (shR .u64 (u64.wrap (i64.wrap (a0 + b0))) 1) + m0) - start2)), .fn g4_ cap4_] (can_cons (rfl) (can_cons (can_pure (pu_int)) (can_cons (can_pure (pu_int)) (can_cons (can_pure (pu_int)) (can_cons (hc4_) (can_nil))))))
            exact qr [.a 5 e27] <| jn1_ x0 _ ⟨.any, .any, h15, by kernel_rfl, o15⟩ H
          · exact qk <| jn1_ data0 _ ⟨.int .i64 m0, .bool (decide (m0 < (i64.wrap (i64.wrap (i64.wrap (shR .u64 (u64.wrap (i64.wrap (a0 + b0))) 1) + m0) - start2)))), h14, by kernel_rfl, o14⟩ H
        · exact qr [.b 3 c11] <| qcF <| qk <| jn1_ data0 _ ⟨.int .i64 m0, .bool false, h14, by kernel_rfl, o14⟩ H
      clear hj0
      intro jn0_
      refine q1 <| qc H (fun c8 H => ?_) (fun c8 H => ?_)
      · exact q1 <| q0 <| jn0_ (i64.wrap (i64.wrap (i64.wrap (shR .u64 (u64.wrap (i64.wrap (a0 + b0))) 1) + m0) - b0), i64.wrap (shR .u64 (u64.wrap (i64.wrap (a0 + b0))) 1)) _ ⟨h, by kernel_rfl, o⟩ H
      · exact q1 <| q0 <| jn0_ (a0, m0) _ ⟨h, by kernel_rfl, o⟩ H
end
end Go.Proofs.YtmekcfdllhphlaaDoor

namespace Go.Proofs.YtmekcfdllhphlaaDoor
open Go Go.R
open Go.IntKind (i64 u64 u8 u32)
theorem jn_opt {α β : Type} {B : α → Option β} {c1 c2 : Bool} {X : Option α} {d0 : α} {G : β → Prop} (D : α → Prop) (h1 : c1 = true → c2 = true → ∃ x, X = some x ∧ D x) (h0 : ¬ (c1 = true ∧ c2 = true) → D d0)
    (h : ∀ x, D x → ∃ d, B x = some d ∧ G d) : ∃ d, jn B (fun j => if c1 = true then (if c2 = true then (X.bind fun x0 => j x0) else j d0) else j d0) = some d ∧ G d := by
  unfold jn
  dsimp only
  by_cases a1 : c1 = true
  · by_cases a2 : c2 = true
    · obtain ⟨x, e, hx⟩ := h1 a1 a2
      rw [if_pos a1, if_pos a2, e]; exact h x hx
    · rw [if_pos a1, if_neg a2]; exact h _ (h0 fun z => a2 z.2)
  · rw [if_neg a1]; exact h _ (h0 fun z => a1 z.1)
theorem opt2 {α : Type} {c1 c2 : Bool} {X : Option α} {d0 : α} {G : α → Prop} (h1 : c1 = true → c2 = true → ∃ x, X = some x ∧ G x) (h0 : ¬ (c1 = true ∧ c2 = true) → G d0) :
    ∃ d, (if c1 = true then (if c2 = true then (X.bind fun x0 => some x0) else some d0) else some d0) = some d ∧ G d := by
  by_cases a1 : c1 = true
  · by_cases a2 : c2 = true
    · obtain ⟨x, e, hx⟩ := h1 a1 a2
      rw [if_pos a1, if_pos a2, e]; exact ⟨x, rfl, hx⟩
    · rw [if_pos a1, if_neg a2]; exact ⟨_, rfl, h0 fun z => a2 z.2⟩
  · rw [if_neg a1]; exact ⟨_, rfl, h0 fun z => a1 z.1⟩
theorem jn_alt {α β : Type} {B : α → Option β} {c : Bool} {x y : α} {G : β → Prop} (h : ∀ z, (c = true ∧ z = x) ∨ (c = false ∧ z = y) → ∃ d, B z = some d ∧ G d) : ∃ d, jn B (fun j => if c = true then j x else j y) = some d ∧ G d := by
  unfold jn
  dsimp only
  cases c with
  | true => exact h _ (.inl ⟨rfl, rfl⟩)
  | false => exact h _ (.inr ⟨rfl, rfl⟩)
theorem Ord.refl {c : Int → Int → Int} {l : List Int} (O : Ord c l) {x : Int} (hx : x ∈ l) : 0 ≤ c x x := by
  by_cases h : c x x < 0
  · exact O.asy x hx x hx h
  · omega
theorem Sg.le {c : Int → Int → Int} {l : List Int} {a b : Nat} (S : Sg c l a b) (O : Ord c l) {i j : Nat} (h1 : a ≤ i) (h2 : i ≤ j) (h3 : j < b) (h4 : b ≤ l.length) : 0 ≤ c (gt l j) (gt l i) := by
  by_cases h : i = j
  · subst h; exact O.refl (gt_mem (by omega))
  · exact S i j h1 (by omega) h3
section
variable {m : Nat} {cmp : Int → Int → Option Int} {c : Int → Int → Int}
theorem sym_l0 {l : List Int} {a : Nat} (ha : a < l.length) (hs : l.length < 2 ^ 40) (C : Cm cmp c l) : ∀ (f i j : Nat), j - i < f → i ≤ j → j ≤ l.length →
    ∃ x : Nat, symMergeC.l0 m l (a : Int) cmp f (i : Int) (j : Int) = some ((x : Int), (x : Int)) ∧ i ≤ x ∧ x ≤ j ∧ (i < x → c (gt l (x - 1)) (gt l a) < 0) ∧ (x < j → 0 ≤ c (gt l x) (gt l a))
  | 0, i, j, hf, _, _ => absurd hf (by omega)
  | f + 1, i, j, hf, h1, h2 => by
    have p40 : (2 : Nat) ^ 40 = 1099511627776 := by decide
    unfold symMergeC.l0
    by_cases h : i < j
    · have hh := hf_eq (a := i) (b := j) (by omega)
      rw [if_pos (by simp; omega), hh, ix_gt (by omega), ix_gt ha, Option.bind_some, Option.bind_some, C.at (by omega) ha, Option.bind_some]
      by_cases g : c (gt l ((i + j) / 2)) (gt l a) < 0
      · obtain ⟨x, e, x1, x2, x3, x4⟩ := sym_l0 ha hs C f ((i + j) / 2 + 1) j (by omega) (by omega) h2
        rw [if_pos (by simpa using g), i64_id (by omega) (by omega), show (((i + j) / 2 : Nat) : Int) + 1 = (((i + j) / 2 + 1 : Nat) : Int) by omega, e]
        refine ⟨x, rfl, by omega, x2, fun _ => ?_, x4⟩
        by_cases hx : x = (i + j) / 2 + 1
        · rw [hx]; simpa using g
        · exact x3 (by omega)
      · obtain ⟨x, e, x1, x2, x3, x4⟩ := sym_l0 ha hs C f i ((i + j) / 2) (by omega) (by omega) (by omega)
        rw [if_neg (by simpa using g), e]
        refine ⟨x, rfl, x1, by omega, x3, fun _ => ?_⟩
        by_cases hx : x = (i + j) / 2
        · rw [hx]; omega
        · exact x4 (by omega)
    · have : i = j := by omega
      subst this
      exact ⟨i, by rw [if_neg (by simp)], Nat.le_refl _, Nat.le_refl _, fun h => absurd h (by omega), fun h => absurd h (by omega)⟩
theorem sym_l2 {l : List Int} {q : Nat} (hq : q < l.length) (hs : l.length < 2 ^ 40) (C : Cm cmp c l) : ∀ (f i j : Nat), j - i < f → i ≤ j → j ≤ l.length →
    ∃ x : Nat, symMergeC.l2 m l (q : Int) cmp f (i : Int) (j : Int) = some ((x : Int), (x : Int)) ∧ i ≤ x ∧ x ≤ j ∧ (i < x → 0 ≤ c (gt l q) (gt l (x - 1))) ∧ (x < j → c (gt l q) (gt l x) < 0)
  | 0, i, j, hf, _, _ => absurd hf (by omega)
  | f + 1, i, j, hf, h1, h2 => by
    have p40 : (2 : Nat) ^ 40 = 1099511627776 := by decide
    unfold symMergeC.l2
    by_cases h : i < j
    · have hh := hf_eq (a := i) (b := j) (by omega)
      rw [if_pos (by simp; omega), hh, ix_gt hq, ix_gt (by omega), Option.bind_some, Option.bind_some, C.at hq (by omega), Option.bind_some]
      by_cases g : c (gt l q) (gt l ((i + j) / 2)) < 0
      · obtain ⟨x, e, x1, x2, x3, x4⟩ := sym_l2 hq hs C f i ((i + j) / 2) (by omega) (by omega) (by omega)
        rw [if_neg (by simpa using g), e]
        refine ⟨x, rfl, x1, by omega, x3, fun _ => ?_⟩
        by_cases hx : x = (i + j) / 2
        · rw [hx]; omega
        · exact x4 (by omega)
      · obtain ⟨x, e, x1, x2, x3, x4⟩ := sym_l2 hq hs C f ((i + j) / 2 + 1) j (by omega) (by omega) h2
        rw [if_pos (by simpa using g), i64_id (by omega) (by omega), show (((i + j) / 2 : Nat) : Int) + 1 = (((i + j) / 2 + 1 : Nat) : Int) by omega, e]
        refine ⟨x, rfl, by omega, x2, fun _ => ?_, x4⟩
        by_cases hx : x = (i + j) / 2 + 1
        · rw [hx]; simp; omega
        · exact x3 (by omega)
    · have : i = j := by omega
      subst this
      exact ⟨i, by rw [if_neg (by simp)], Nat.le_refl _, Nat.le_refl _, fun h => absurd h (by omega), fun h => absurd h (by omega)⟩
theorem sym_l1 {l : List Int} {a x : Nat} (hx : x ≤ l.length) (hax : a < x) (hs : l.length < 2 ^ 40) : ∀ (f k : Nat) (d : List Int), x - k < f → a ≤ k → k < x → Mv a x l d →
    (∀ t, gt d t = if a ≤ t ∧ t < k then gt l (t + 1) else if t = k then gt l a else gt l t) →
    ∃ d' y, symMergeC.l1 m (x : Int) f d (k : Int) = some (d', y) ∧ Mv a x l d' ∧ ∀ t, gt d' t = if a ≤ t ∧ t + 1 < x then gt l (t + 1) else if t + 1 = x then gt l a else gt l t
  | 0, k, d, hf, _, _, _, _ => absurd hf (by omega)
  | f + 1, k, d, hf, h1, h2, M, hg => by
    have p40 : (2 : Nat) ^ 40 = 1099511627776 := by decide
    have hl := M.length
    unfold symMergeC.l1
    have e0 : i64.wrap ((x : Int) - 1) = ((x - 1 : Nat) : Int) := by rw [i64_id (by omega) (by omega)]; omega
    rw [e0]
    by_cases h : k < x - 1
    · have e1 : i64.wrap ((k : Int) + 1) = ((k + 1 : Nat) : Int) := by rw [i64_id (by omega) (by omega)]; omega
      rw [if_pos (by simp; omega), e1, ix_gt (by omega), ix_gt (by omega), Option.bind_some, Option.bind_some, Option.bind_some, Int.toNat_natCast, Int.toNat_natCast, ix_gt (by simp; omega), Option.bind_some]
      refine sym_l1 hx hax hs f (k + 1) (swp d k (k + 1)) (by omega) (by omega) (by omega) (M.trans (mv_swp (by omega) (by omega) (by omega) (by omega) (by omega))) fun t => ?_
      rw [gt_swp (by omega) (by omega), hg k, hg (k + 1), hg t]
      by_cases t1 : t = k + 1
      · subst t1; rw [if_pos rfl, if_neg (by omega), if_pos rfl, if_neg (by omega), if_pos rfl]
      · rw [if_neg t1]
        by_cases t2 : t = k
        · subst t2; rw [if_pos rfl, if_neg (by omega), if_neg (by omega), if_pos (by omega)]
        · rw [if_neg t2, if_neg t2, if_neg t1]
          by_cases t3 : a ≤ t ∧ t < k
          · rw [if_pos t3, if_pos (by omega)]
          · rw [if_neg t3, if_neg (by omega)]
    · refine ⟨d, k, by rw [if_neg (by simp; omega)], M, fun t => ?_⟩
      rw [hg]
      by_cases t3 : a ≤ t ∧ t < k
      · rw [if_pos t3, if_pos (by omega)]
      · rw [if_neg t3, if_neg (show ¬ (a ≤ t ∧ t + 1 < x) by omega)]
        by_cases t4 : t = k
        · rw [if_pos t4, if_pos (by omega)]
        · rw [if_neg t4, if_neg (by omega)]
theorem sym_l3 {l : List Int} {q x : Nat} (hx : q < l.length) (hax : x ≤ q) (hs : l.length < 2 ^ 40) : ∀ (f k : Nat) (d : List Int), k - x < f → x ≤ k → k ≤ q → Mv x (q + 1) l d →
    (∀ t, gt d t = if k < t ∧ t ≤ q then gt l (t - 1) else if t = k then gt l q else gt l t) →
    ∃ d' y, symMergeC.l3 m (x : Int) f d (k : Int) = some (d', y) ∧ Mv x (q + 1) l d' ∧ ∀ t, gt d' t = if x < t ∧ t ≤ q then gt l (t - 1) else if t = x then gt l q else gt l t
  | 0, k, d, hf, _, _, _, _ => absurd hf (by omega)
  | f + 1, k, d, hf, h1, h2, M, hg => by
    have p40 : (2 : Nat) ^ 40 = 1099511627776 := by decide
    have hl := M.length
    unfold symMergeC.l3
    by_cases h : x < k
    · have e1 : i64.wrap ((k : Int) - 1) = ((k - 1 : Nat) : Int) := by rw [i64_id (by omega) (by omega)]; omega
      rw [if_pos (by simp; omega), e1, ix_gt (by omega), ix_gt (by omega), Option.bind_some, Option.bind_some, Option.bind_some, Int.toNat_natCast, Int.toNat_natCast, ix_gt (by simp; omega), Option.bind_some]
      refine sym_l3 hx hax hs f (k - 1) (swp d k (k - 1)) (by omega) (by omega) (by omega) (M.trans (mv_swp (by omega) (by omega) (by omega) (by omega) (by omega))) fun t => ?_
      rw [gt_swp (by omega) (by omega), hg k, hg (k - 1), hg t]
      by_cases t1 : t = k - 1
      · subst t1; rw [if_pos rfl, if_neg (by omega), if_pos rfl, if_neg (by omega), if_pos rfl]
      · rw [if_neg t1]
        by_cases t2 : t = k
        · subst t2; rw [if_pos rfl, if_neg (by omega), if_neg (by omega), if_pos (by omega)]
        · rw [if_neg t2, if_neg t2, if_neg t1]
          by_cases t3 : k < t ∧ t ≤ q
          · rw [if_pos t3, if_pos (by omega)]
          · rw [if_neg t3, if_neg (by omega)]
    · have : k = x := by omega
      subst this
      exact ⟨d, k, by rw [if_neg (by simp)], M, hg⟩
theorem sym_l4 {l : List Int} {a b q : Nat} (hab : a + b < 2 ^ 42) (hs : l.length < 2 ^ 40) (C : Cm cmp c l) : ∀ (f s r : Nat), r - s < f → s ≤ r → r ≤ l.length → r ≤ (a + b) / 2 + q → (a + b) / 2 + q ≤ l.length + s →
    ∃ x : Nat, symMergeC.l4 m l (a : Int) (q : Int) (b : Int) cmp f (s : Int) (r : Int) = some ((x : Int), (x : Int)) ∧ s ≤ x ∧ x ≤ r ∧ (s < x → 0 ≤ c (gt l ((a + b) / 2 + q - x)) (gt l (x - 1))) ∧ (x < r → c (gt l ((a + b) / 2 + q - x - 1)) (gt l x) < 0)
  | 0, i, j, hf, _, _, _, _ => absurd hf (by omega)
  | f + 1, s, r, hf, h1, h2, h3, h4 => by
    have p40 : (2 : Nat) ^ 40 = 1099511627776 := by decide
    have p42 : (2 : Nat) ^ 42 = 4398046511104 := by decide
    unfold symMergeC.l4
    by_cases h : s < r
    · have hh := hf_eq (a := s) (b := r) (by omega)
      have hab := hf_eq (a := a) (b := b) (by omega)
      have e1 : i64.wrap (i64.wrap (i64.wrap ((((a + b) / 2 : Nat) : Int) + (q : Int)) - 1) - (((s + r) / 2 : Nat) : Int)) = (((a + b) / 2 + q - (s + r) / 2 - 1 : Nat) : Int) := by
        rw [i64_id (x := (((a + b) / 2 : Nat) : Int) + (q : Int)) (by omega) (by omega), i64_id (x := (((a + b) / 2 : Nat) : Int) + (q : Int) - 1) (by omega) (by omega), i64_id (by omega) (by omega)]
        omega
      rw [if_pos (by simp; omega), hh, hab, e1, ix_gt (by omega), ix_gt (by omega), Option.bind_some, Option.bind_some, C.at (by omega) (by omega), Option.bind_some]
      by_cases g : c (gt l ((a + b) / 2 + q - (s + r) / 2 - 1)) (gt l ((s + r) / 2)) < 0
      · obtain ⟨x, e, x1, x2, x3, x4⟩ := sym_l4 (a := a) (b := b) (q := q) (by omega) hs C f s ((s + r) / 2) (by omega) (by omega) (by omega) (by omega) (by omega)
        rw [if_neg (by simpa using g), e]
        refine ⟨x, rfl, x1, by omega, x3, fun _ => ?_⟩
        by_cases hx : x = (s + r) / 2
        · rw [hx]; exact g
        · exact x4 (by omega)
      · obtain ⟨x, e, x1, x2, x3, x4⟩ := sym_l4 (a := a) (b := b) (q := q) (by omega) hs C f ((s + r) / 2 + 1) r (by omega) (by omega) h2 h3 (by omega)
        rw [if_pos (by simpa using g), i64_id (by omega) (by omega), show (((s + r) / 2 : Nat) : Int) + 1 = (((s + r) / 2 + 1 : Nat) : Int) by omega, e]
        refine ⟨x, rfl, by omega, x2, fun _ => ?_, x4⟩
        by_cases hx : x = (s + r) / 2 + 1
        · rw [hx, show (a + b) / 2 + q - ((s + r) / 2 + 1) = (a + b) / 2 + q - (s + r) / 2 - 1 by omega, Nat.add_sub_cancel]; omega
        · exact x3 (by omega)
    · have : s = r := by omega
      subst this
      exact ⟨s, by rw [if_neg (by simp)], Nat.le_refl _, Nat.le_refl _, fun h => absurd h (by omega), fun h => absurd h (by omega)⟩
end
end Go.Proofs.YtmekcfdllhphlaaDoor

namespace Go.Proofs.YtmekcfdllhphlaaDoor
open Go Go.R
open Go.IntKind (i64 u64 u8 u32)
section
variable {m : Nat} {cmp : Int → Int → Option Int} {c : Int → Int → Int}
theorem rot_sg {l d : List Int} {a q b M E x : Nat} (h1 : a ≤ x) (h2 : x ≤ M) (h3 : x ≤ q) (h4 : q ≤ E) (h5 : E ≤ b) (h6 : E + x = M + q) (hb : b ≤ l.length)
    (R : Rot l d x (q - x) (E - q)) (O : Ord c l) (F1 : a < x → E < b → 0 ≤ c (gt l E) (gt l (x - 1))) (F2 : x < q → q < E → c (gt l (E - 1)) (gt l x) < 0)
    (S1 : Sg c l a q) (S2 : Sg c l q b) :
    Sg c d a x ∧ Sg c d x M ∧ Sg c d M E ∧ Sg c d E b ∧ (∀ i j, a ≤ i → i < M → M ≤ j → j < b → 0 ≤ c (gt d j) (gt d i)) := by
  obtain ⟨R1, R2, R3, R4⟩ := R
  have g1 : ∀ k, k < x → gt d k = gt l k := fun k hk => R4 k (.inl hk)
  have g2 : ∀ k, x ≤ k → k < M → gt d k = gt l (q + (k - x)) := fun k hk hk2 => by
    have := R2 (k - x) (by omega)
    rw [show x + (k - x) = k by omega, show x + (q - x) + (k - x) = q + (k - x) by omega] at this
    exact this
  have g3 : ∀ k, M ≤ k → k < E → gt d k = gt l (x + (k - M)) := fun k hk hk2 => by
    have := R3 (k - M) (by omega)
    rw [show x + (E - q) + (k - M) = k by omega] at this
    exact this
  have g4 : ∀ k, E ≤ k → gt d k = gt l k := fun k hk => R4 k (.inr (by omega))
  refine ⟨fun i j k1 k2 k3 => ?_, fun i j k1 k2 k3 => ?_, fun i j k1 k2 k3 => ?_, fun i j k1 k2 k3 => ?_, fun i j k1 k2 k3 k4 => ?_⟩
  · rw [g1 i (by omega), g1 j (by omega)]; exact S1 _ _ k1 k2 (by omega)
  · rw [g2 i (by omega) (by omega), g2 j (by omega) (by omega)]; exact S2 _ _ (by omega) (by omega) (by omega)
  · rw [g3 i (by omega) (by omega), g3 j (by omega) (by omega)]; exact S1 _ _ (by omega) (by omega) (by omega)
  · rw [g4 i (by omega), g4 j (by omega)]; exact S2 _ _ (by omega) (by omega) (by omega)
  · by_cases hi : i < x
    · rw [g1 i hi]
      by_cases hj : j < E
      · rw [g3 j k3 hj]; exact S1 _ _ k1 (by omega) (by omega)
      · rw [g4 j (by omega)]
        have f1 := F1 (by omega) (by omega)
        have f2 := S1.le O k1 (show i ≤ x - 1 by omega) (by omega) (by omega)
        have f3 := S2.le O (show q ≤ E from h4) (show E ≤ j by omega) k4 hb
        exact O.tr _ (gt_mem (by omega)) _ (gt_mem (show E < l.length by omega)) _ (gt_mem (by omega)) (O.tr _ (gt_mem (by omega)) _ (gt_mem (show x - 1 < l.length by omega)) _ (gt_mem (by omega)) f2 f1) f3
    · rw [g2 i (by omega) k2]
      by_cases hj : j < E
      · rw [g3 j k3 hj]
        have f1 := O.asy _ (gt_mem (show E - 1 < l.length by omega)) _ (gt_mem (show x < l.length by omega)) (F2 (by omega) (by omega))
        have f2 := S2.le O (show q ≤ q + (i - x) by omega) (show q + (i - x) ≤ E - 1 by omega) (by omega) hb
        have f3 := S1.le O h1 (show x ≤ x + (j - M) by omega) (by omega) (by omega)
        exact O.tr _ (gt_mem (by omega)) _ (gt_mem (show x < l.length by omega)) _ (gt_mem (by omega)) (O.tr _ (gt_mem (by omega)) _ (gt_mem (show E - 1 < l.length by omega)) _ (gt_mem (by omega)) f2 f1) f3
      · rw [g4 j (by omega)]; exact S2 _ _ (by omega) (by omega) k4
theorem rot_refl {l : List Int} {x i j : Nat} (h : i = 0 ∨ j = 0) : Rot l l x i j :=
  ⟨List.Perm.refl _, fun k hk => by rw [show i = 0 by omega, Nat.add_zero], fun k hk => by rw [show j = 0 by omega, Nat.add_zero], fun _ _ => rfl⟩
theorem rot_mv {l d : List Int} {x i j a b : Nat} (R : Rot l d x i j) (h1 : a ≤ x) (h2 : x + i + j ≤ b) : Mv a b l d := by
  obtain ⟨R1, R2, R3, R4⟩ := R
  refine ⟨R1, fun k hk => R4 k (by omega), fun k k1 k2 => ?_⟩
  by_cases g1 : k < x ∨ x + i + j ≤ k
  · exact ⟨k, k1, k2, R4 k g1⟩
  · by_cases g2 : k < x + j
    · have := R2 (k - x) (by omega)
      rw [show x + (k - x) = k by omega] at this
      exact ⟨_, by omega, by omega, this⟩
    · have := R3 (k - x - j) (by omega)
      rw [show x + j + (k - x - j) = k by omega] at this
      exact ⟨_, by omega, by omega, this⟩
theorem sym_spec (hm : 2 ^ 41 ≤ m) : ∀ (f : Nat) (l : List Int) (a q b : Nat), b - a < f → a < q → q < b → b ≤ l.length → l.length < 2 ^ 40 → Cm cmp c l →
    ∃ d, symMergeC.f m f l (a : Int) (q : Int) (b : Int) cmp = some d ∧ Mv a b l d ∧ (Ord c l → Sg c l a q → Sg c l q b → Sg c d a b)
  | 0, l, a, q, b, hf, _, _, _, _, _ => absurd hf (by omega)
  | f + 1, l, a, q, b, hf, h1, h2, h3, hs, C => by
    have p40 : (2 : Nat) ^ 40 = 1099511627776 := by decide
    have p41 : (2 : Nat) ^ 41 = 2199023255552 := by decide
    have p42 : (2 : Nat) ^ 42 = 4398046511104 := by decide
    unfold symMergeC.f
    unfold symMergeC.b
    have e1 : i64.wrap ((q : Int) - (a : Int)) = ((q - a : Nat) : Int) := by rw [i64_id (by omega) (by omega)]; omega
    have e2 : i64.wrap ((b : Int) - (q : Int)) = ((b - q : Nat) : Int) := by rw [i64_id (by omega) (by omega)]; omega
    have hM := hf_eq (a := a) (b := b) (by omega)
    rw [e1, e2, hM]
    by_cases hq1 : q - a = 1
    · obtain ⟨x, k1, k2, k3, k4, k5⟩ := sym_l0 (m := m) (a := a) (by omega) hs C m q b (by omega) (by omega) h3
      obtain ⟨d, y, g1, g2, g3⟩ := sym_l1 (m := m) (l := l) (a := a) (x := x) (by omega) (by omega) hs m a l (by omega) (Nat.le_refl _) (by omega) Mv.refl (fun t => by rw [if_neg (by omega)]; split <;> simp_all)
      rw [if_pos (by simp; omega), k1, Option.bind_some]
      dsimp only
      rw [g1]
      refine ⟨d, rfl, g2.wide (Nat.le_refl _) k3, fun O S1 S2 i j r1 r2 r3 => ?_⟩
      have A1 : ∀ t, a ≤ t → t + 1 < x → gt d t = gt l (t + 1) := fun t w1 w2 => by rw [g3 t, if_pos ⟨w1, w2⟩]
      have A2 : ∀ t, t + 1 = x → gt d t = gt l a := fun t w1 => by rw [g3 t, if_neg (by omega), if_pos w1]
      have A3 : ∀ t, x ≤ t → gt d t = gt l t := fun t w1 => by rw [g3 t, if_neg (by omega), if_neg (by omega)]
      by_cases i1 : i + 1 < x
      · rw [A1 i r1 i1]
        by_cases j1 : j + 1 < x
        · rw [A1 j (by omega) j1]; exact S2 _ _ (by omega) (by omega) (by omega)
        · have f1 := O.asy _ (gt_mem (show x - 1 < l.length by omega)) _ (gt_mem (show a < l.length by omega)) (k4 (by omega))
          have f2 := S2.le O (show q ≤ i + 1 by omega) (show i + 1 ≤ x - 1 by omega) (by omega) h3
          by_cases j2 : j + 1 = x
          · rw [A2 j j2]
            exact O.tr _ (gt_mem (by omega)) _ (gt_mem (show x - 1 < l.length by omega)) _ (gt_mem (by omega)) f2 f1
          · rw [A3 j (by omega)]; exact S2 _ _ (by omega) (by omega) (by omega)
      · rw [A3 j (by omega)]
        by_cases i2 : i + 1 = x
        · rw [A2 i i2]
          have f1 := k5 (by omega)
          have f2 := S2.le O (show q ≤ x by omega) (show x ≤ j by omega) r3 h3
          exact O.tr _ (gt_mem (by omega)) _ (gt_mem (show x < l.length by omega)) _ (gt_mem (by omega)) f1 f2
        · rw [A3 i (by omega)]; exact S2 _ _ (by omega) r2 r3
    rw [if_neg (by simp; omega)]
    by_cases hb1 : b - q = 1
    · obtain ⟨x, k1, k2, k3, k4, k5⟩ := sym_l2 (m := m) (q := q) (by omega) hs C m a q (by omega) (by omega) (by omega)
      obtain ⟨d, y, g1, g2, g3⟩ := sym_l3 (m := m) (l := l) (q := q) (x := x) (by omega) (by omega) hs m q l (by omega) (by omega) (Nat.le_refl _) Mv.refl (fun t => by rw [if_neg (by omega)]; split <;> simp_all)
      rw [if_pos (by simp; omega), k1, Option.bind_some]
      dsimp only
      rw [g1]
      refine ⟨d, rfl, g2.wide k2 (by omega), fun O S1 S2 i j r1 r2 r3 => ?_⟩
      have A1 : ∀ t, x < t → t ≤ q → gt d t = gt l (t - 1) := fun t w1 w2 => by rw [g3 t, if_pos ⟨w1, w2⟩]
      have A2 : gt d x = gt l q := by rw [g3 x, if_neg (by omega), if_pos rfl]
      have A3 : ∀ t, t < x → gt d t = gt l t := fun t w1 => by rw [g3 t, if_neg (by omega), if_neg (by omega)]
      by_cases i1 : x < i
      · rw [A1 i i1 (by omega), A1 j (by omega) (by omega)]
        exact S1 _ _ (by omega) (by omega) (by omega)
      · by_cases i2 : i = x
        · subst i2
          rw [A2, A1 j (by omega) (by omega)]
          have f1 := O.asy _ (gt_mem (show q < l.length by omega)) _ (gt_mem (show i < l.length by omega)) (k5 (by omega))
          have f2 := S1.le O r1 (show i ≤ j - 1 by omega) (by omega) (by omega)
          exact O.tr _ (gt_mem (by omega)) _ (gt_mem (show i < l.length by omega)) _ (gt_mem (by omega)) f1 f2
        · rw [A3 i (by omega)]
          by_cases j1 : x < j
          · rw [A1 j j1 (by omega)]
            exact S1.le O r1 (by omega) (by omega) (by omega)
          · have f1 := k4 (by omega)
            have f2 := S1.le O r1 (show i ≤ x - 1 by omega) (by omega) (by omega)
            by_cases j2 : j = x
            · subst j2
              rw [A2]
              exact O.tr _ (gt_mem (by omega)) _ (gt_mem (show j - 1 < l.length by omega)) _ (gt_mem (by omega)) f2 f1
            · rw [A3 j (by omega)]; exact S1 _ _ r1 r2 (by omega)
    rw [if_neg (by simp; omega)]
    refine jn_alt ?_
    intro z hz
    have hsr : ∃ s r : Nat, z = ((s : Int), (r : Int)) ∧ ((q > (a + b) / 2 ∧ s = (a + b) / 2 + q - b ∧ r = (a + b) / 2) ∨ (q ≤ (a + b) / 2 ∧ s = a ∧ r = q)) := by
      rcases hz with ⟨hc, rfl⟩ | ⟨hc, rfl⟩
      · refine ⟨(a + b) / 2 + q - b, (a + b) / 2, ?_, .inl ⟨by simp only [decide_eq_true_eq] at hc; omega, rfl, rfl⟩⟩
        simp only [Prod.mk.injEq, and_true]
        simp only [decide_eq_true_eq] at hc
        rw [i64_id (x := (((a + b) / 2 : Nat) : Int) + (q : Int)) (by omega) (by omega), i64_id (by omega) (by omega)]
        omega
      · refine ⟨a, q, rfl, .inr ⟨?_, rfl, rfl⟩⟩
        simp only [decide_eq_false_iff_not] at hc
        omega
    obtain ⟨s, r, rfl, hsr⟩ := hsr
    clear hz
    dsimp only
    obtain ⟨x, k1, k2, k3, k4, k5⟩ := sym_l4 (m := m) (a := a) (b := b) (q := q) (by omega) hs C m s r (by omega) (by omega) (by omega) (by omega) (by omega)
    rw [k1, Option.bind_some]
    dsimp only
    generalize hMM : (a + b) / 2 = M at *
    obtain ⟨E, hE⟩ : ∃ E, E = M + q - x := ⟨_, rfl⟩
    have eE : i64.wrap (i64.wrap ((M : Int) + (q : Int)) - (x : Int)) = (E : Int) := by
      rw [i64_id (x := (M : Int) + (q : Int)) (by omega) (by omega), i64_id (by omega) (by omega)]
      omega
    rw [eE]
    rw [← hE] at k4 k5
    have c1 : a ≤ x := by omega
    have c2 : x ≤ M := by omega
    have c3 : x ≤ q := by omega
    have c4 : q ≤ E := by omega
    have c5 : E ≤ b := by omega
    have c6 : E + x = M + q := by omega
    have c7 : M ≤ E := by omega
    have F1 : a < x → E < b → 0 ≤ c (gt l E) (gt l (x - 1)) := fun _ _ => k4 (by omega)
    have F2 : x < q → q < E → c (gt l (E - 1)) (gt l x) < 0 := fun _ _ => k5 (by omega)
    refine jn_opt (fun d => Rot l d x (q - x) (E - q)) (fun u1 u2 => ?_) (fun u => ?_) ?_
    · simp only [decide_eq_true_eq] at u1 u2
      exact rot_spec hm (by omega) (by omega) (by omega) hs
    · simp only [decide_eq_true_eq] at u
      exact rot_refl (by omega)
    intro d5 R
    try dsimp only
    have M5 : Mv a b l d5 := rot_mv R c1 (by omega)
    have l5 := M5.length
    refine jn_opt (fun d => Mv a M d5 d ∧ (Ord c l → Sg c l a q → Sg c l q b → Sg c d a M)) (fun u1 u2 => ?_) (fun u => ?_) ?_
    · simp only [decide_eq_true_eq] at u1 u2
      obtain ⟨d, g1, g2, g3⟩ := sym_spec hm f d5 a x M (by omega) (by omega) (by omega) (by omega) (by omega) (C.perm M5.perm)
      refine ⟨d, g1, g2, fun O S1 S2 => ?_⟩
      obtain ⟨v1, v2, v3, v4, v5⟩ := rot_sg c1 c2 c3 c4 c5 c6 h3 R O F1 F2 S1 S2
      exact g3 (O.perm M5.perm) v1 v2
    · simp only [decide_eq_true_eq] at u
      refine ⟨Mv.refl, fun O S1 S2 => ?_⟩
      obtain ⟨v1, v2, v3, v4, v5⟩ := rot_sg c1 c2 c3 c4 c5 c6 h3 R O F1 F2 S1 S2
      by_cases ua : a = x
      · rw [ua]; exact v2
      · rw [show M = x by omega]; exact v1
    rintro d6 ⟨M6, S6⟩
    try dsimp only
    have l6 := M6.length
    have M56 := M5.trans (M6.wide (Nat.le_refl _) (by omega))
    have fin : ∀ d, Mv M b d6 d → (Ord c l → Sg c l a q → Sg c l q b → Sg c d M b) → Mv a b l d ∧ (Ord c l → Sg c l a q → Sg c l q b → Sg c d a b) := by
      intro d M7 S7
      refine ⟨M56.trans (M7.wide (by omega) (Nat.le_refl _)), fun O S1 S2 i j r1 r2 r3 => ?_⟩
      obtain ⟨v1, v2, v3, v4, v5⟩ := rot_sg c1 c2 c3 c4 c5 c6 h3 R O F1 F2 S1 S2
      by_cases hj : j < M
      · rw [M7.out i (by omega), M7.out j (by omega)]
        exact S6 O S1 S2 _ _ r1 r2 hj
      · by_cases hi : M ≤ i
        · exact S7 O S1 S2 _ _ hi r2 r3
        · obtain ⟨j', y1, y2, y3⟩ := M7.im j (by omega) r3
          obtain ⟨i', w1, w2, w3⟩ := M6.im i r1 (by omega)
          rw [M7.out i (by omega), y3, M6.out j' (by omega), w3]
          exact v5 _ _ w1 w2 y1 y2
    refine opt2 (fun u1 u2 => ?_) (fun u => ?_)
    · simp only [decide_eq_true_eq] at u1 u2
      obtain ⟨d, g1, g2, g3⟩ := sym_spec hm f d6 M E b (by omega) (by omega) (by omega) (by omega) (by omega) (C.perm M56.perm)
      refine ⟨d, g1, fin d g2 fun O S1 S2 => ?_⟩
      obtain ⟨v1, v2, v3, v4, v5⟩ := rot_sg c1 c2 c3 c4 c5 c6 h3 R O F1 F2 S1 S2
      refine g3 (O.perm M56.perm) (fun i j y1 y2 y3 => ?_) (fun i j y1 y2 y3 => ?_)
      · rw [M6.out i (by omega), M6.out j (by omega)]; exact v3 _ _ y1 y2 y3
      · rw [M6.out i (by omega), M6.out j (by omega)]; exact v4 _ _ y1 y2 y3
    · simp only [decide_eq_true_eq] at u
      refine fin d6 Mv.refl fun O S1 S2 i j y1 y2 y3 => ?_
      obtain ⟨v1, v2, v3, v4, v5⟩ := rot_sg c1 c2 c3 c4 c5 c6 h3 R O F1 F2 S1 S2
      rw [M6.out i (by omega), M6.out j (by omega)]
      by_cases ue : M = E
      · exact v4 _ _ (by omega) y2 y3
      · exact v3 _ _ y1 y2 (by omega)
end
end Go.Proofs.YtmekcfdllhphlaaDoor

namespace Go.Proofs.YtmekcfdllhphlaaDoor
open Go Go.R
open Go.IntKind (i64 u64 u8 u32)
def ann110 : Ann := mkA [0, 1, 2, 6, 7, 8, 9, 13, 30, 35, 54] [] [2032, 1984, 1856, 2000, 1984, 1984, 2032, 1776, 1984, 1472, 2000, 1984, 1984, 1952, 928, 2032, 2032] [] []
def stableC.l0 (m : Nat) (n0 : Int) (cmp0 : Int → Int → Option (Int)) : Nat → (List Int) → Int → Int → Option ((List Int) × Int × Int)
  | 0, _, _, _ => none
  | k + 1, data1, a0, b0 => if (decide (b0 ≤ n0)) = true then ((insertionSortC.f m data1 a0 b0 cmp0).bind fun x0 => stableC.l0 m n0 cmp0 k x0 b0 (i64.wrap (b0 + (20 : Int)))) else (some ((data1, a0, b0)))
def stableC.l2 (m : Nat) (n0 : Int) (cmp0 : Int → Int → Option (Int)) (blockSize0 : Int) : Nat → (List Int) → Int → Int → Option ((List Int) × Int × Int)
  | 0, _, _, _ => none
  | k + 1, data4, a2, b2 => if (decide (b2 ≤ n0)) = true then ((symMergeC.f m m data4 a2 (i64.wrap (a2 + blockSize0)) b2 cmp0).bind fun x2 => stableC.l2 m n0 cmp0 blockSize0 k x2 b2 (i64.wrap (b2 + i64.wrap ((2 : Int) * blockSize0)))) else (some ((data4, a2, b2)))
def stableC.l1 (m : Nat) (n0 : Int) (cmp0 : Int → Int → Option (Int)) : Nat → (List Int) → Int → Option ((List Int) × Int)
  | 0, _, _ => none
  | k + 1, data3, blockSize0 => if (decide (blockSize0 < n0)) = true then ((stableC.l2 m n0 cmp0 blockSize0 m data3 (0 : Int) (i64.wrap ((2 : Int) * blockSize0))).bind fun out1 => match out1 with | (data5, a3, b3) => if (decide ((i64.wrap (a3 + blockSize0)) < n0)) = true then ((symMergeC.f m m data5 a3 (i64.wrap (a3 + blockSize0)) n0 cmp0).bind fun x3 => stableC.l1 m n0 cmp0 k x3 (i64.wrap (blockSize0 * (2 : Int)))) else (stableC.l1 m n0 cmp0 k data5 (i64.wrap (blockSize0 * (2 : Int))))) else (some ((data3, blockSize0)))
def stableC.f (m : Nat) (data0 : List Int) (n0 : Int) (cmp0 : Int → Int → Option (Int)) : Option ((List Int)) := (stableC.l0 m n0 cmp0 m data0 (0 : Int) (20 : Int)).bind fun out0 => match out0 with | (data2, a1, b1) => (insertionSortC.f m data2 a1 n0 cmp0).bind fun x1 => (stableC.l1 m n0 cmp0 m x1 (20 : Int)).bind fun out2 => match out2 with | (data6, blockSize1) => some data6
def stableC.fin (L : Mem) (ad0 : Nat) (data0 : List Int) (n0 : Int) (cmp0 : Int → Int → Option (Int)) (r : (List Int)) (s : St) : Prop := resultA Tryd.prog (s.open ann110) Tryd.f110.results.toList = some (.tup []) ∧ Has s.h ((ad0, .sl data0.length 1 (eInt.l r)) :: L)
def S110 (cf : CallF) (m : Nat) : Prop := ∀ (data0 : List Int) (n0 : Int) (cmp0 : Int → Int → Option (Int)) (r : (List Int)), stableC.f m data0 n0 cmp0 = some r → ∀ h L (n_data0 : Nat) (ad0 : Nat), Has h ((ad0, .sl n_data0 1 (eInt.l data0)) :: L) → ∀ (g2_ : FuncId) (cap2_ : List AV), canonArg (.fn g2_ cap2_) = .fn g2_ cap2_ → (∀ h K, Has h (K ++ L) → ∀ (a0 : Int) (a1 : Int) r, cmp0 a0 a1 = some r → cf g2_ ([.int .i64 a0, .int .i64 a1] ++ cap2_) h = some (.int .i64 r, h)) → ∀ xs, xs.map canonArg = [.rs ad0 0 n_data0 1, .int .i64 n0, .fn g2_ cap2_] → ∃ h', cf 110 xs h = some (.tup [], h') ∧ Has h' ((ad0, .sl n_data0 1 (eInt.l r)) :: L)
section
variable {cf : CallF} {m : Nat}
theorem stableC.l0_ok (L : Mem) (ad0 : Nat) (g2_ : FuncId) (cap2_ : List AV) (data0 : List Int) (n0 : Int) (cmp0 : Int → Int → Option (Int))  (hc2_ : canonArg (.fn g2_ cap2_) = .fn g2_ cap2_) (Hp2_ : ∀ h K, Has h (K ++ L) → ∀ (a0 : Int) (a1 : Int) r, cmp0 a0 a1 = some r → cf g2_ ([.int .i64 a0, .int .i64 a1] ++ cap2_) h = some (.int .i64 r, h)) (S119_ : S119 cf m) : LoopT Tryd.prog cf ann110 m (sub [1, 1, 0, 0, 0] (codeOf Tryd.f110)) (fun k (σ : (List Int) × Int × Int) => stableC.l0 m n0 cmp0 k σ.1 σ.2.1 σ.2.2) (fun σ s => match σ with | (data1, a0, b0) => ∃ h0, s = ⟨.rs ad0 0 data0.length 1 :: .int .i64 n0 :: .fn g2_ cap2_ :: .int .i64 (20 : Int) :: .int .i64 a0 :: .int .i64 b0 :: Ay5 [], [], h0⟩ ∧ Has h0 ((ad0, .sl data0.length 1 (eInt.l data1)) :: L)) (fun out e s => (e = .exit 0 ∧ ∃ data1 a0 b0, (data1, a0, b0) = out ∧ ∃ x8_ x13_ h0, s = ⟨.rs ad0 0 data0.length 1 :: .int .i64 n0 :: .fn g2_ cap2_ :: .int .i64 (20 : Int) :: .int .i64 a0 :: x8_ :: .any :: x13_ :: Ay3 [], [], h0⟩ ∧ Has h0 ((ad0, .sl data0.length 1 (eInt.l data1)) :: L))) := by
  refine lpT (fun _ => rfl) ?_
  rintro k ⟨data1, a0, b0⟩ s out ⟨h0, rfl, o0⟩ H
  have H : stableC.l0 m n0 cmp0 (k + 1) data1 a0 b0 = some out := H
  refine qq <| qq <| q0 <| qc H (fun c0 H => ?_) (fun c0 H => ?_)
  · refine qk <| qb 1 <| qq ?_
    obtain ⟨x0, e0, H⟩ := bsi H
    obtain ⟨h1, e1, o1⟩ := S119_ _ _ _ _ _ e0 h0 _ _ _ (o0) g2_ cap2_ hc2_ (fun h' K' o' => Hp2_ h' (K' ++ []) (by simpa only [List.append_assoc, List.cons_append, List.nil_append] using o')) [.rs ad0 0 data0.length 1, .int .i64 a0, .int .i64 b0, .fn g2_ cap2_] (can_cons (rfl) (can_cons (can_pure (pu_int)) (can_cons (can_pure (pu_int)) (can_cons (hc2_) (can_nil)))))
    exact qr [.a 4 e1] <| qq <| q0 <| q0 <| ⟨(x0, b0, i64.wrap (b0 + (20 : Int))), ⟨h1, by kernel_rfl, o1⟩, H⟩
  · exact qx 0 <| ⟨rfl, data1, a0, b0, oi H, .int .i64 b0, .bool (decide (b0 ≤ n0)), h0, by kernel_rfl, o0⟩
theorem stableC.l2_ok (L : Mem) (ad0 : Nat) (g2_ : FuncId) (cap2_ : List AV) (data0 : List Int) (n0 : Int) (cmp0 : Int → Int → Option (Int)) (blockSize0 : Int)  (hc2_ : canonArg (.fn g2_ cap2_) = .fn g2_ cap2_) (Hp2_ : ∀ h K, Has h (K ++ L) → ∀ (a0 : Int) (a1 : Int) r, cmp0 a0 a1 = some r → cf g2_ ([.int .i64 a0, .int .i64 a1] ++ cap2_) h = some (.int .i64 r, h)) (S120_ : S120 cf m m) : LoopT Tryd.prog cf ann110 m (sub [1, 1, 1, 1, 0, 0, 1, 0, 1, 0, 0, 0] (codeOf Tryd.f110)) (fun k (σ : (List Int) × Int × Int) => stableC.l2 m n0 cmp0 blockSize0 k σ.1 σ.2.1 σ.2.2) (fun σ s => match σ with | (data4, a2, b2) => ∃ h5, s = ⟨.rs ad0 0 data0.length 1 :: .int .i64 n0 :: .fn g2_ cap2_ :: .int .i64 blockSize0 :: .int .i64 a2 :: .int .i64 b2 :: Ay5 [], [], h5⟩ ∧ Has h5 ((ad0, .sl data0.length 1 (eInt.l data4)) :: L)) (fun out e s => (e = .exit 4 ∧ ∃ data4 a2 b2, (data4, a2, b2) = out ∧ ∃ x8_ x35_ h5, s = ⟨.rs ad0 0 data0.length 1 :: .int .i64 n0 :: .fn g2_ cap2_ :: .int .i64 blockSize0 :: .int .i64 a2 :: x8_ :: Ay3 [x35_, .any], [], h5⟩ ∧ Has h5 ((ad0, .sl data0.length 1 (eInt.l data4)) :: L))) := by
  refine lpT (fun _ => rfl) ?_
  rintro k ⟨data4, a2, b2⟩ s out ⟨h5, rfl, o5⟩ H
  have H : stableC.l2 m n0 cmp0 blockSize0 (k + 1) data4 a2 b2 = some out := H
  refine qq <| qq <| q0 <| qc H (fun c2 H => ?_) (fun c2 H => ?_)
  · refine qk <| qb 5 <| qq ?_
    obtain ⟨x2, e5, H⟩ := bsi H
    obtain ⟨h6, e6, o6⟩ := S120_ _ _ _ _ _ _ e5 h5 _ _ _ (o5) g2_ cap2_ hc2_ (fun h' K' o' => Hp2_ h' (K' ++ []) (by simpa only [List.append_assoc, List.cons_append, List.nil_append] using o')) [.rs ad0 0 data0.length 1, .int .i64 a2, .int .i64 (i64.wrap (a2 + blockSize0)), .int .i64 b2, .fn g2_ cap2_] (can_cons (rfl) (can_cons (can_pure (pu_int)) (can_cons (can_pure (pu_int)) (can_cons (can_pure (pu_int)) (can_cons (hc2_) (can_nil))))))
    exact qr [.a 7 e6] <| qq <| q0 <| q0 <| ⟨(x2, b2, i64.wrap (b2 + i64.wrap ((2 : Int) * blockSize0))), ⟨h6, by kernel_rfl, o6⟩, H⟩
  · exact qx 4 <| ⟨rfl, data4, a2, b2, oi H, .int .i64 b2, .bool (decide (b2 ≤ n0)), h5, by kernel_rfl, o5⟩
theorem stableC.l1_ok (L : Mem) (ad0 : Nat) (g2_ : FuncId) (cap2_ : List AV) (data0 : List Int) (n0 : Int) (cmp0 : Int → Int → Option (Int))  (hc2_ : canonArg (.fn g2_ cap2_) = .fn g2_ cap2_) (Hp2_ : ∀ h K, Has h (K ++ L) → ∀ (a0 : Int) (a1 : Int) r, cmp0 a0 a1 = some r → cf g2_ ([.int .i64 a0, .int .i64 a1] ++ cap2_) h = some (.int .i64 r, h)) (S120_ : S120 cf m m) : LoopT Tryd.prog cf ann110 m (sub [1, 1, 1, 1, 0, 0] (codeOf Tryd.f110)) (fun k (σ : (List Int) × Int) => stableC.l1 m n0 cmp0 k σ.1 σ.2) (fun σ s => match σ with | (data3, blockSize0) => ∃ h4, s = ⟨.rs ad0 0 data0.length 1 :: .int .i64 n0 :: .fn g2_ cap2_ :: .int .i64 blockSize0 :: Ay7 [], [], h4⟩ ∧ Has h4 ((ad0, .sl data0.length 1 (eInt.l data3)) :: L)) (fun out e s => (e = .exit 2 ∧ ∃ data3 blockSize0, (data3, blockSize0) = out ∧ ∃ x0_ x1_ x2_ x6_ x30_ h4, s = ⟨x0_ :: x1_ :: x2_ :: x6_ :: Ay4 [x30_, .any, .any], [], h4⟩ ∧ Has h4 ((ad0, .sl data0.length 1 (eInt.l data3)) :: L))) := by
  refine lpT (fun _ => rfl) ?_
  rintro k ⟨data3, blockSize0⟩ s out ⟨h4, rfl, o4⟩ H
  have H : stableC.l1 m n0 cmp0 (k + 1) data3 blockSize0 = some out := H
  refine qq <| qq <| q0 <| qc H (fun c1 H => ?_) (fun c1 H => ?_)
  · refine qk <| qb 3 <| qq <| q0 <| qq <| qb 4 ?_
    obtain ⟨out1, e7, H⟩ := bsi H
    refine ql (stableC.l2_ok L ad0 g2_ cap2_ data0 n0 cmp0 blockSize0  hc2_ Hp2_ S120_ (data3, (0 : Int), i64.wrap ((2 : Int) * blockSize0)) _ _ ⟨h4, by kernel_rfl, o4⟩ e7) ?_
    rintro e s ⟨rfl, data5, a3, b3, rfl, g2, g3, h7, rfl, o7⟩
    try dsimp only at H
    refine qq <| qq <| q0 <| qq <| q0 <| qc H (fun c3 H => ?_) (fun c3 H => ?_)
    · obtain ⟨x3, e8, H⟩ := bsi H
      obtain ⟨h8, e9, o8⟩ := S120_ _ _ _ _ _ _ e8 h7 _ _ _ (o7) g2_ cap2_ hc2_ (fun h' K' o' => Hp2_ h' (K' ++ []) (by simpa only [List.append_assoc, List.cons_append, List.nil_append] using o')) [.rs ad0 0 data0.length 1, .int .i64 a3, .int .i64 (i64.wrap (a3 + blockSize0)), .int .i64 n0, .fn g2_ cap2_] (can_cons (rfl) (can_cons (can_pure (pu_int)) (can_cons (can_pure (pu_int)) (can_cons (can_pure (pu_int)) (can_cons (hc2_) (can_nil))))))
      exact qr [.a 5 e9] <| q0 <| ⟨(x3, i64.wrap (blockSize0 * (2 : Int))), ⟨h8, by kernel_rfl, o8⟩, H⟩
    · exact qk <| q0 <| ⟨(data5, i64.wrap (blockSize0 * (2 : Int))), ⟨h7, by kernel_rfl, o7⟩, H⟩
  · exact qx 2 <| ⟨rfl, data3, blockSize0, oi H, .rs ad0 0 data0.length 1, .int .i64 n0, .fn g2_ cap2_, .int .i64 blockSize0, .bool (decide (blockSize0 < n0)), h4, by kernel_rfl, o4⟩
theorem stableC_body {ann : FuncId → Ann} (ha : ann 110 = ann110) (S119_ : S119 cf m) (S120_ : S120 cf m m) (data0 : List Int) (n0 : Int) (cmp0 : Int → Int → Option (Int)) (h : AHeap) (L : Mem) (ad0 : Nat) (g2_ : FuncId) (cap2_ : List AV)  (hc2_ : canonArg (.fn g2_ cap2_) = .fn g2_ cap2_) (Hp2_ : ∀ h K, Has h (K ++ L) → ∀ (a0 : Int) (a1 : Int) r, cmp0 a0 a1 = some r → cf g2_ ([.int .i64 a0, .int .i64 a1] ++ cap2_) h = some (.int .i64 r, h)) (o : Has h ((ad0, .sl data0.length 1 (eInt.l data0)) :: L)) {out : (List Int)} (H : stableC.f m data0 n0 cmp0 = some out) :
    ∃ r h', bodyA Tryd.prog ann cf m 110 [.rs ad0 0 data0.length 1, .int .i64 n0, .fn g2_ cap2_] h = some (r, h') ∧ r = .tup [] ∧ Has h' ((ad0, .sl data0.length 1 (eInt.l out)) :: L) := by
  refine body_of_ends2 (fn := Tryd.f110) ha Tryd.func110 (by kernel_rfl) (by kernel_rfl) ?_
  refine ends_fin (Q := fun s => stableC.fin L ad0 data0 n0 cmp0 out s) (fun _ _ ⟨h1, h2, h3⟩ => ⟨h1, _, h2, rfl, h3⟩) ?_
  have H : _ = some out := H
  unfold stableC.f at H
  show Enz _ cf ann110 m _ ⟨.rs ad0 0 data0.length 1 :: .int .i64 n0 :: .fn g2_ cap2_ :: Ay8 [], [], h⟩ _
  refine q1 <| qq <| q0 <| qq <| qb 0 ?_
  obtain ⟨out0, e2, H⟩ := bsi H
  refine ql (stableC.l0_ok L ad0 g2_ cap2_ data0 n0 cmp0  hc2_ Hp2_ S119_ (data0, (0 : Int), (20 : Int)) _ _ ⟨h, by kernel_rfl, o⟩ e2) ?_
  rintro e s ⟨rfl, data2, a1, b1, rfl, g0, g1, h2, rfl, o2⟩
  try dsimp only at H
  refine qq ?_
  obtain ⟨x1, e3, H⟩ := bsi H
  obtain ⟨h3, e4, o3⟩ := S119_ _ _ _ _ _ e3 h2 _ _ _ (o2) g2_ cap2_ hc2_ (fun h' K' o' => Hp2_ h' (K' ++ []) (by simpa only [List.append_assoc, List.cons_append, List.nil_append] using o')) [.rs ad0 0 data0.length 1, .int .i64 a1, .int .i64 n0, .fn g2_ cap2_] (can_cons (rfl) (can_cons (can_pure (pu_int)) (can_cons (can_pure (pu_int)) (can_cons (hc2_) (can_nil)))))
  refine qr [.a 4 e4] <| qb 2 ?_
  obtain ⟨out2, e10, H⟩ := bsi H
  refine ql (stableC.l1_ok L ad0 g2_ cap2_ data0 n0 cmp0  hc2_ Hp2_ S120_ (x1, (20 : Int)) _ _ ⟨h3, by kernel_rfl, o3⟩ e10) ?_
  rintro e s ⟨rfl, data6, blockSize1, rfl, g4, g5, g6, g7, g8, h9, rfl, o9⟩
  try dsimp only at H
  obtain rfl := oi H
  exact ⟨.inr rfl, ⟨by kernel_rfl, he o9⟩⟩
end
end Go.Proofs.YtmekcfdllhphlaaDoor

namespace Go.Proofs.YtmekcfdllhphlaaDoor
open Go Go.R
open Go.IntKind (i64 u64 u8 u32)
def ann84 : Ann := mkA [0, 1] [] [3] [] []
def SortStableFI.f (m : Nat) (x0 : List Int) (cmp0 : Int → Int → Option (Int)) : Option ((List Int)) := (stableC.f m x0 (x0.length : Int) cmp0).bind fun x1 => some x1
def SortStableFI.fin (L : Mem) (ad0 : Nat) (x0 : List Int) (cmp0 : Int → Int → Option (Int)) (r : (List Int)) (s : St) : Prop := resultA Tryd.prog (s.open ann84) Tryd.f84.results.toList = some (.tup []) ∧ Has s.h ((ad0, .sl x0.length 1 (eInt.l r)) :: L)
def S84 (cf : CallF) (m : Nat) : Prop := ∀ (x0 : List Int) (cmp0 : Int → Int → Option (Int)) (r : (List Int)), SortStableFI.f m x0 cmp0 = some r → ∀ h L (n_x0 : Nat) (ad0 : Nat), Has h ((ad0, .sl n_x0 1 (eInt.l x0)) :: L) → ∀ (g1_ : FuncId) (cap1_ : List AV), canonArg (.fn g1_ cap1_) = .fn g1_ cap1_ → (∀ h K, Has h (K ++ L) → ∀ (a0 : Int) (a1 : Int) r, cmp0 a0 a1 = some r → cf g1_ ([.int .i64 a0, .int .i64 a1] ++ cap1_) h = some (.int .i64 r, h)) → ∀ xs, xs.map canonArg = [.rs ad0 0 n_x0 1, .fn g1_ cap1_] → ∃ h', cf 84 xs h = some (.tup [], h') ∧ Has h' ((ad0, .sl n_x0 1 (eInt.l r)) :: L)
section
variable {cf : CallF} {m : Nat}
theorem SortStableFI_body {ann : FuncId → Ann} (ha : ann 84 = ann84) (S110_ : S110 cf m) (x0 : List Int) (cmp0 : Int → Int → Option (Int)) (h : AHeap) (L : Mem) (ad0 : Nat) (g1_ : FuncId) (cap1_ : List AV)  (hc1_ : canonArg (.fn g1_ cap1_) = .fn g1_ cap1_) (Hp1_ : ∀ h K, Has h (K ++ L) → ∀ (a0 : Int) (a1 : Int) r, cmp0 a0 a1 = some r → cf g1_ ([.int .i64 a0, .int .i64 a1] ++ cap1_) h = some (.int .i64 r, h)) (o : Has h ((ad0, .sl x0.length 1 (eInt.l x0)) :: L)) {out : (List Int)} (H : SortStableFI.f m x0 cmp0 = some out) :
    ∃ r h', bodyA Tryd.prog ann cf m 84 [.rs ad0 0 x0.length 1, .fn g1_ cap1_] h = some (r, h') ∧ r = .tup [] ∧ Has h' ((ad0, .sl x0.length 1 (eInt.l out)) :: L) := by
  refine body_of_ends2 (fn := Tryd.f84) ha Tryd.func84 (by kernel_rfl) (by kernel_rfl) ?_
  refine ends_fin (Q := fun s => SortStableFI.fin L ad0 x0 cmp0 out s) (fun _ _ ⟨h1, h2, h3⟩ => ⟨h1, _, h2, rfl, h3⟩) ?_
  have H : _ = some out := H
  unfold SortStableFI.f at H
  show Enz _ cf ann84 m _ ⟨[.rs ad0 0 x0.length 1, .fn g1_ cap1_], [], h⟩ _
  obtain ⟨x1, e0, H⟩ := bsi H
  obtain ⟨h0, e1, o0⟩ := S110_ _ _ _ _ e0 h _ _ _ (o) g1_ cap1_ hc1_ (fun h' K' o' => Hp1_ h' (K' ++ []) (by simpa only [List.append_assoc, List.cons_append, List.nil_append] using o')) [.rs ad0 0 x0.length 1, .int .i64 (x0.length : Int), .fn g1_ cap1_] (can_cons (rfl) (can_cons (can_pure (pu_int)) (can_cons (hc1_) (can_nil))))
  obtain rfl := oi H
  exact qr [.a 4 e1] <| ⟨.inr rfl, ⟨by kernel_rfl, he o0⟩⟩
end
end Go.Proofs.YtmekcfdllhphlaaDoor

namespace Go.Proofs.YtmekcfdllhphlaaDoor
open Go Go.R
open Go.IntKind (i64 u64 u8 u32)
section
variable {m : Nat} {cmp : Int → Int → Option Int} {c : Int → Int → Int}
def Blks (c : Int → Int → Int) (d : List Int) (bs n : Nat) : Prop := ∀ k i j, k * bs ≤ i → i < j → j < k * bs + bs → j < n → 0 ≤ c (gt d j) (gt d i)
theorem stb_l0 (hm : 2 ^ 41 ≤ m) {n : Nat} {l : List Int} (hn : n = l.length) (hs : l.length < 2 ^ 40) (C : Cm cmp c l) : ∀ (f t : Nat) (d : List Int), n - 20 * t < f → 20 * t ≤ n → Mv 0 (20 * t) l d →
    (Ord c l → ∀ k, k < t → Sg c d (20 * k) (20 * k + 20)) →
    ∃ d' t' y, stableC.l0 m (n : Int) cmp f d ((20 * t : Nat) : Int) ((20 * t + 20 : Nat) : Int) = some (d', ((20 * t' : Nat) : Int), y) ∧ 20 * t' ≤ n ∧ n < 20 * t' + 20 ∧ Mv 0 (20 * t') l d' ∧ (Ord c l → ∀ k, k < t' → Sg c d' (20 * k) (20 * k + 20))
  | 0, t, d, hf, _, _, _ => absurd hf (by omega)
  | f + 1, t, d, hf, h1, M, S => by
    have p40 : (2 : Nat) ^ 40 = 1099511627776 := by decide
    have p41 : (2 : Nat) ^ 41 = 2199023255552 := by decide
    have hl := M.length
    unfold stableC.l0
    by_cases h : 20 * t + 20 ≤ n
    · obtain ⟨d1, e1, M1, S1⟩ := ins_spec (a := 20 * t) (b := 20 * t + 20) (cmp := cmp) (c := c) hm (l := d) (by omega) (by omega) (by omega) (C.perm M.perm)
      rw [if_pos (by simp only [decide_eq_true_eq]; omega), e1, Option.bind_some, i64_id (x := ((20 * t + 20 : Nat) : Int) + 20) (by omega) (by omega)]
      have := stb_l0 hm hn hs C f (t + 1) d1 (by omega) (by omega) ((M.wide (Nat.le_refl _) (by omega)).trans (M1.wide (by omega) (by omega))) (fun O k hk i j k1 k2 k3 => by
        by_cases hkt : k = t
        · subst hkt; exact S1 (O.perm M.perm) _ _ k1 k2 k3
        · rw [M1.out i (by omega), M1.out j (by omega)]; exact S O k (by omega) _ _ k1 k2 k3)
      rw [show ((20 * (t + 1) : Nat) : Int) = ((20 * t + 20 : Nat) : Int) by omega, show ((20 * (t + 1) + 20 : Nat) : Int) = ((20 * t + 20 : Nat) : Int) + 20 by omega] at this
      exact this
    · exact ⟨d, t, _, by rw [if_neg (by simp only [decide_eq_true_eq]; omega)], h1, by omega, M, S⟩
theorem stb_l2 (hm : 2 ^ 41 ≤ m) {n bs : Nat} {l : List Int} (hn : n = l.length) (hs : l.length < 2 ^ 40) (hb : 0 < bs) (hbn : bs < n) (C : Cm cmp c l) (B : Ord c l → Blks c l bs n) : ∀ (f t : Nat) (d : List Int), n - t * (2 * bs) < f → t * (2 * bs) ≤ n → Mv 0 (t * (2 * bs)) l d →
    (Ord c l → ∀ k, k < t → Sg c d (k * (2 * bs)) (k * (2 * bs) + 2 * bs)) →
    ∃ d' t' y, stableC.l2 m (n : Int) cmp (bs : Int) f d ((t * (2 * bs) : Nat) : Int) ((t * (2 * bs) + 2 * bs : Nat) : Int) = some (d', ((t' * (2 * bs) : Nat) : Int), y) ∧ t' * (2 * bs) ≤ n ∧ n < t' * (2 * bs) + 2 * bs ∧ Mv 0 (t' * (2 * bs)) l d' ∧ (Ord c l → ∀ k, k < t' → Sg c d' (k * (2 * bs)) (k * (2 * bs) + 2 * bs))
  | 0, t, d, hf, _, _, _ => absurd hf (by omega)
  | f + 1, t, d, hf, h1, M, S => by
    have p40 : (2 : Nat) ^ 40 = 1099511627776 := by decide
    have p41 : (2 : Nat) ^ 41 = 2199023255552 := by decide
    have hl := M.length
    unfold stableC.l2
    have ht : (t + 1) * (2 * bs) = t * (2 * bs) + 2 * bs := Nat.succ_mul _ _
    have q1 : (2 * t) * bs = t * (2 * bs) := by rw [Nat.mul_assoc, Nat.mul_left_comm]
    have q2 : (2 * t + 1) * bs = t * (2 * bs) + bs := by rw [Nat.succ_mul, q1]
    by_cases h : t * (2 * bs) + 2 * bs ≤ n
    · have S0 : Ord c l → Sg c d (t * (2 * bs)) (t * (2 * bs) + bs) := fun O i j k1 k2 k3 => by
        rw [M.out i (by omega), M.out j (by omega)]; exact B O (2 * t) i j (by omega) k2 (by omega) (by omega)
      have S0' : Ord c l → Sg c d (t * (2 * bs) + bs) (t * (2 * bs) + 2 * bs) := fun O i j k1 k2 k3 => by
        rw [M.out i (by omega), M.out j (by omega)]; exact B O (2 * t + 1) i j (by omega) k2 (by omega) (by omega)
      have hk : ∀ k, k < t → k * (2 * bs) + 2 * bs ≤ t * (2 * bs) := fun k hk => by
        rw [← Nat.succ_mul]; exact Nat.mul_le_mul_right _ hk
      generalize hA : t * (2 * bs) = A at *
      obtain ⟨d1, e1, M1, S1⟩ := sym_spec (cmp := cmp) (c := c) hm m d A (A + bs) (A + 2 * bs) (by omega) (by omega) (by omega) (by omega) (by omega) (C.perm M.perm)
      have e0 : i64.wrap ((A : Int) + (bs : Int)) = ((A + bs : Nat) : Int) := by rw [i64_id (by omega) (by omega)]; omega
      have e2 : i64.wrap ((2 : Int) * (bs : Int)) = ((2 * bs : Nat) : Int) := by rw [i64_id (by omega) (by omega)]; omega
      have e3 : i64.wrap (((A + 2 * bs : Nat) : Int) + ((2 * bs : Nat) : Int)) = ((A + 2 * bs + 2 * bs : Nat) : Int) := by rw [i64_id (by omega) (by omega)]; omega
      rw [if_pos (by simp only [decide_eq_true_eq]; omega), e0, e1, Option.bind_some, e2, e3]
      have := stb_l2 hm hn hs hb hbn C B f (t + 1) d1 (by omega) (by omega) (by rw [ht]; exact (M.wide (Nat.le_refl _) (by omega)).trans (M1.wide (by omega) (by omega))) (fun O k hk2 i j k1 k2 k3 => by
        by_cases hkt : k = t
        · subst hkt; rw [hA] at k1 k3; exact S1 (O.perm M.perm) (S0 O) (S0' O) _ _ k1 k2 k3
        · have := hk k (by omega)
          rw [M1.out i (by omega), M1.out j (by omega)]; exact S O k (by omega) _ _ k1 k2 k3)
      rw [ht] at this
      exact this
    · exact ⟨d, t, _, by rw [if_neg (by simp only [decide_eq_true_eq]; omega)], h1, by omega, M, S⟩
theorem stb_l1 (hm : 2 ^ 41 ≤ m) {n : Nat} : ∀ (f bs : Nat) (l : List Int), n = l.length → l.length < 2 ^ 40 → Cm cmp c l → n - bs < f → 0 < bs → bs < 2 ^ 42 → (Ord c l → Blks c l bs n) →
    ∃ d y, stableC.l1 m (n : Int) cmp f l (bs : Int) = some (d, y) ∧ d.Perm l ∧ (Ord c l → Sg c d 0 n)
  | 0, bs, l, _, _, _, hf, _, _, _ => absurd hf (by omega)
  | f + 1, bs, l, hn, hs, C, hf, hb, hb2, B => by
    have p40 : (2 : Nat) ^ 40 = 1099511627776 := by decide
    have p41 : (2 : Nat) ^ 41 = 2199023255552 := by decide
    have p42 : (2 : Nat) ^ 42 = 4398046511104 := by decide
    unfold stableC.l1
    by_cases h : bs < n
    · have e2 : i64.wrap ((2 : Int) * (bs : Int)) = ((2 * bs : Nat) : Int) := by rw [i64_id (by omega) (by omega)]; omega
      have e3 : i64.wrap ((bs : Int) * (2 : Int)) = ((2 * bs : Nat) : Int) := by rw [i64_id (by omega) (by omega)]; omega
      obtain ⟨d1, t, y, k1, k2, k3, M1, S1⟩ := stb_l2 (cmp := cmp) (c := c) hm hn hs hb h C B m 0 l (by omega) (by omega) Mv.refl (fun O k hk => absurd hk (by omega))
      have l1 := M1.length
      simp only [Nat.zero_mul, Nat.zero_add] at k1
      have k1 : stableC.l2 m (n : Int) cmp (bs : Int) m l (0 : Int) ((2 * bs : Nat) : Int) = _ := k1
      rw [if_pos (by simp only [decide_eq_true_eq]; omega), e2, k1, Option.bind_some]
      dsimp only
      rw [e3]
      have q1 : (2 * t) * bs = t * (2 * bs) := by rw [Nat.mul_assoc, Nat.mul_left_comm]
      have q2 : (2 * t + 1) * bs = t * (2 * bs) + bs := by rw [Nat.succ_mul, q1]
      have hk : ∀ k, k < t → k * (2 * bs) + 2 * bs ≤ t * (2 * bs) := fun k hk => by
        rw [← Nat.succ_mul]; exact Nat.mul_le_mul_right _ hk
      have hk2 : ∀ k, t < k → t * (2 * bs) + 2 * bs ≤ k * (2 * bs) := fun k hk => by
        rw [← Nat.succ_mul]; exact Nat.mul_le_mul_right _ hk
      have e0 : i64.wrap (((t * (2 * bs) : Nat) : Int) + (bs : Int)) = ((t * (2 * bs) + bs : Nat) : Int) := by rw [i64_id (by omega) (by omega)]; omega
      rw [e0]
      by_cases h2 : t * (2 * bs) + bs < n
      · obtain ⟨d2, e4, M2, S2⟩ := sym_spec (cmp := cmp) (c := c) hm m d1 (t * (2 * bs)) (t * (2 * bs) + bs) n (by omega) (by omega) (by omega) (by omega) (by omega) (C.perm M1.perm)
        rw [if_pos (by simp only [decide_eq_true_eq]; omega), e4, Option.bind_some]
        have P2 := M2.perm.trans M1.perm
        obtain ⟨d, y, g1, g2, g3⟩ := stb_l1 (n := n) hm f (2 * bs) d2 (by have := P2.length_eq; omega) (by have := P2.length_eq; omega) (C.perm P2) (by omega) (by omega) (by omega) (fun O k i j w1 w2 w3 w4 => by
          have O := O.perm P2.symm
          by_cases u1 : k < t
          · have := hk k u1
            rw [M2.out i (by omega), M2.out j (by omega)]; exact S1 O k u1 _ _ w1 w2 w3
          · by_cases u2 : k = t
            · subst u2
              refine S2 (O.perm M1.perm) (fun i j x1 x2 x3 => ?_) (fun i j x1 x2 x3 => ?_) _ _ w1 w2 w4
              · rw [M1.out i (by omega), M1.out j (by omega)]; exact B O (2 * k) i j (by omega) x2 (by omega) (by omega)
              · rw [M1.out i (by omega), M1.out j (by omega)]; exact B O (2 * k + 1) i j (by omega) x2 (by omega) (by omega)
            · have := hk2 k (by omega); omega)
        exact ⟨d, y, g1, g2.trans P2, fun O => g3 (O.perm P2)⟩
      · rw [if_neg (by simp only [decide_eq_true_eq]; omega)]
        have P2 := M1.perm
        obtain ⟨d, y, g1, g2, g3⟩ := stb_l1 (n := n) hm f (2 * bs) d1 (by have := P2.length_eq; omega) (by have := P2.length_eq; omega) (C.perm P2) (by omega) (by omega) (by omega) (fun O k i j w1 w2 w3 w4 => by
          have O := O.perm P2.symm
          by_cases u1 : k < t
          · exact S1 O k u1 _ _ w1 w2 w3
          · by_cases u2 : k = t
            · subst u2
              rw [M1.out i (by omega), M1.out j (by omega)]; exact B O (2 * k) i j (by omega) w2 (by omega) (by omega)
            · have := hk2 k (by omega); omega)
        exact ⟨d, y, g1, g2.trans P2, fun O => g3 (O.perm P2)⟩
    · refine ⟨l, bs, by rw [if_neg (by simp only [decide_eq_true_eq]; omega)], List.Perm.refl _, fun O i j w1 w2 w3 => B O 0 i j (by omega) w2 (by omega) w3⟩
theorem sort_spec (hm : 2 ^ 41 ≤ m) {l : List Int} (hs : l.length < 2 ^ 40) (C : Cm cmp c l) : ∃ d, SortStableFI.f m l cmp = some d ∧ d.Perm l ∧ (Ord c l → Sg c d 0 l.length) := by
  have p40 : (2 : Nat) ^ 40 = 1099511627776 := by decide
  have p41 : (2 : Nat) ^ 41 = 2199023255552 := by decide
  have p42 : (2 : Nat) ^ 42 = 4398046511104 := by decide
  unfold SortStableFI.f stableC.f
  obtain ⟨d1, t, y, k1, k2, k3, M1, S1⟩ := stb_l0 (cmp := cmp) (c := c) hm rfl hs C m 0 l (by omega) (by omega) Mv.refl (fun O k hk => absurd hk (by omega))
  have k1 : stableC.l0 m (l.length : Int) cmp m l (0 : Int) (20 : Int) = _ := k1
  have l1 := M1.length
  rw [k1, Option.bind_some]
  dsimp only
  obtain ⟨d2, e2, M2, S2⟩ := ins_spec (a := 20 * t) (b := l.length) (cmp := cmp) (c := c) hm (l := d1) (by omega) (by omega) (by omega) (C.perm M1.perm)
  rw [e2, Option.bind_some]
  have P2 := M2.perm.trans M1.perm
  obtain ⟨d, y, g1, g2, g3⟩ := stb_l1 (cmp := cmp) (c := c) (n := l.length) hm m 20 d2 P2.length_eq.symm (by rw [P2.length_eq]; exact hs) (C.perm P2) (by omega) (by omega) (by omega) (fun O k i j w1 w2 w3 w4 => by
    have O := O.perm P2.symm
    by_cases u1 : k < t
    · rw [M2.out i (by omega), M2.out j (by omega)]; exact S1 O k u1 _ _ (by omega) w2 (by omega)
    · exact S2 (O.perm M1.perm) _ _ (by omega) w2 (by omega))
  have g1 : stableC.l1 m (l.length : Int) cmp m d2 (20 : Int) = _ := g1
  rw [g1]
  exact ⟨d, rfl, g2.trans P2, fun O => g3 (O.perm P2)⟩
end
end Go.Proofs.YtmekcfdllhphlaaDoor

namespace Go.Proofs.YtmekcfdllhphlaaDoor
open Go Go.R
open Go.IntKind (i64 u64 u8 u32)
def ann61 : Ann := mkA [0, 1, 2, 3] [2] [9, 7] [] []
def tree_Valid_1.f (m : Nat) (n0 : VNode) (x0 : VTree) : Option (Bool) := (tree_node.f m n0 (x0.nodes.length : Int)).bind fun x1 => some (!x1)
def tree_Valid_1.fin (h : AHeap) (r : Bool) (s : St) : Prop := resultA Tryd.prog (s.open ann61) Tryd.f61.results.toList = some (.bool r) ∧ s.h = h
def S61 (cf : CallF) (m : Nat) : Prop := ∀ (n0 : VNode) (x0 : VTree) (r : Bool), tree_Valid_1.f m n0 x0 = some r → ∀ h L (qad_x0_ ad_x0 : Nat), Has h L → L[qad_x0_]? = some (ad_x0, .ob [eNode.fz x0.nodes, .int .i64 x0.root]) → cf 61 [.agg [.int .i64 n0.kind, .int .i64 n0.int, .str n0.label, eInt.fz n0.args], .ptr ad_x0 0] h = some (.bool r, h)
section
variable {cf : CallF} {m : Nat}
theorem tree_Valid_1_body {ann : FuncId → Ann} (ha : ann 61 = ann61) (S62_ : S62 cf m) (n0 : VNode) (x0 : VTree) (h : AHeap) (L : Mem)  {qad_x0_ ad_x0 : Nat} (hqad_x0_ : L[qad_x0_]? = some (ad_x0, .ob [eNode.fz x0.nodes, .int .i64 x0.root])) (o : Has h (L)) {out : Bool} (H : tree_Valid_1.f m n0 x0 = some out) :
    ∃ r h', bodyA Tryd.prog ann cf m 61 [.agg [.int .i64 n0.kind, .int .i64 n0.int, .str n0.label, eInt.fz n0.args], .ptr ad_x0 0] h = some (r, h') ∧ r = (.bool out) ∧ h' = h := by
  refine body_of_ends2 (fn := Tryd.f61) ha Tryd.func61 (by kernel_rfl) (by kernel_rfl) ?_
  refine ends_fin (Q := fun s => tree_Valid_1.fin h out s) (fun _ _ ⟨h1, h2, h3⟩ => ⟨h1, _, h2, rfl, h3⟩) ?_
  have H : _ = some out := H
  unfold tree_Valid_1.f at H
  show Enz _ cf ann61 m _ ⟨[.agg [.int .i64 n0.kind, .int .i64 n0.int, .str n0.label, eInt.fz n0.args], .ptr ad_x0 0, .any, .any], [none], h⟩ _
  refine q1 <| qq ?_
  obtain ⟨x1, e0, H⟩ := bsi H
  obtain rfl := oi H
  exact qr [.v 2 (show loadH Tryd.prog h 29 (.ptr ad_x0 0) = some (eNode.fz x0.nodes) from ld_ob (q := qad_x0_) (cs := [eNode.fz x0.nodes, .int .i64 x0.root]) o hqad_x0_ (by kernel_rfl)), .a 4 (S62_ _ _ _ e0 h _ (frs (fr_cons (fr_agg (fr_cons (fr_int) (fr_cons (fr_int) (fr_cons (fr_str) (fr_cons (fr_fz (E := eInt)) (fr_nil)))))) (fr_cons (fr_int) (fr_nil)))))] <| qt <| ⟨.inl rfl, ⟨by kernel_rfl, by kernel_rfl⟩⟩
end
end Go.Proofs.YtmekcfdllhphlaaDoor

namespace Go.Proofs.YtmekcfdllhphlaaDoor
open Go Go.R
open Go.IntKind (i64 u64 u8 u32)
def ann45 : Ann := mkA [0, 1, 2] [] [5, 3] [] []
def tree_Valid.f (m : Nat) (t0 : VTree) : Option (Bool) := if (decide ((t0.nodes.length : Int) ≥ (1 : Int))) = true then (if (decide ((t0.nodes.length : Int) ≤ (8000 : Int))) = true then (if (decide (t0.root ≥ (0 : Int))) = true then (if (decide (t0.root < (t0.nodes.length : Int))) = true then ((ContainsFN.f m t0.nodes (fun y0 => tree_Valid_1.f m y0 t0)).bind fun x0 => some (!x0)) else (some false)) else (some false)) else (some false)) else (some false)
def tree_Valid.fin (L : Mem) (r : Bool) (s : St) : Prop := ∃ av, resultA Tryd.prog (s.open ann45) Tryd.f45.results.toList = some av ∧ Frb s.h av (.bool r)
def S45 (cf : CallF) (m : Nat) : Prop := ∀ (t0 : VTree) (r : Bool), tree_Valid.f m t0 = some r → ∀ h xs, FrzS bigK h xs [.agg [eNode.fz t0.nodes, .int .i64 t0.root]] → cf 45 xs h = some (.bool r, h)
section
variable {cf : CallF} {m : Nat}
theorem tree_Valid_body {ann : FuncId → Ann} (ha : ann 45 = ann45) (S34_ : S34 cf m) (S61_ : S61 cf m) (t0 : VTree) (h : AHeap) (L : Mem)  (o : Has h (L)) {out : Bool} (H : tree_Valid.f m t0 = some out) :
    ∃ r h', bodyA Tryd.prog ann cf m 45 [.agg [eNode.fz t0.nodes, .int .i64 t0.root]] h = some (r, h') ∧ Frb h' r (.bool out) := by
  refine body_of_ends2 (fn := Tryd.f45) ha Tryd.func45 (by kernel_rfl) (by kernel_rfl) ?_
  refine ends_fin (Q := fun s => tree_Valid.fin L out s) (fun _ _ h => h) ?_
  have H : _ = some out := H
  unfold tree_Valid.f at H
  show Enz _ cf ann45 m _ ⟨[.agg [eNode.fz t0.nodes, .int .i64 t0.root], .any, .any], [], h⟩ _
  refine qq ?_
  obtain ⟨ad0, h0, e0, o0⟩ := bx_new (cs := [eNode.fz t0.nodes, .int .i64 t0.root]) o (by kernel_rfl)
  refine qr [.a 0 e0] <| qq ?_
  rcases ift H with ⟨c0, H⟩ | ⟨c0, H⟩
  · rcases ift H with ⟨c1, H⟩ | ⟨c1, H⟩
    · rcases ift H with ⟨c2, H⟩ | ⟨c2, H⟩
      · rcases ift H with ⟨c3, H⟩ | ⟨c3, H⟩
        · obtain ⟨x0, e1, H⟩ := bsi H
          refine qr [.v 1 (show loadH Tryd.prog h0 29 (.ptr ad0 0) = some (eNode.fz t0.nodes) from ld_ob (q := 0) (cs := [eNode.fz t0.nodes, .int .i64 t0.root]) o0 rfl (by kernel_rfl)), .b 4 c0, .v 6 (show loadH Tryd.prog h0 29 (.ptr ad0 0) = some (eNode.fz t0.nodes) from ld_ob (q := 0) (cs := [eNode.fz t0.nodes, .int .i64 t0.root]) o0 rfl (by kernel_rfl)), .b 10 c1, .v 12 (show loadH Tryd.prog h0 3 (.ptr ad0 1) = some (.int .i64 t0.root) from ld_ob (q := 0) (cs := [eNode.fz t0.nodes, .int .i64 t0.root]) o0 rfl (by kernel_rfl)), .b 15 c2, .v 17 (show loadH Tryd.prog h0 3 (.ptr ad0 1) = some (.int .i64 t0.root) from ld_ob (q := 0) (cs := [eNode.fz t0.nodes, .int .i64 t0.root]) o0 rfl (by kernel_rfl)), .v 19 (show loadH Tryd.prog h0 29 (.ptr ad0 0) = some (eNode.fz t0.nodes) from ld_ob (q := 0) (cs := [eNode.fz t0.nodes, .int .i64 t0.root]) o0 rfl (by kernel_rfl)), .b 23 c3, .v 25 (show loadH Tryd.prog h0 29 (.ptr ad0 0) = some (eNode.fz t0.nodes) from ld_ob (q := 0) (cs := [eNode.fz t0.nodes, .int .i64 t0.root]) o0 rfl (by kernel_rfl)), .a 27 (S34_ _ _ _ e1 h0 (Has.pos o0) 61 [.ptr ad0 0] rfl (fun y0 r hr => S61_ y0 _ r hr h0 _ 0 _ o0 rfl) _ (can_cons (can_pure (pu_fz (E := eNode))) (can_cons ((rfl : canonArg (.fn 61 [.ptr ad0 0]) = _)) (can_nil))))] ?_
          have o1 : Has h0 (L) := Has.del o0 0
          obtain rfl := oi H
          exact qt <| ⟨.inl rfl, fnb (.bool (!x0)) h0 (frb (fb_bool))⟩
        · refine qr [.v 1 (show loadH Tryd.prog h0 29 (.ptr ad0 0) = some (eNode.fz t0.nodes) from ld_ob (q := 0) (cs := [eNode.fz t0.nodes, .int .i64 t0.root]) o0 rfl (by kernel_rfl)), .b 4 c0, .v 6 (show loadH Tryd.prog h0 29 (.ptr ad0 0) = some (eNode.fz t0.nodes) from ld_ob (q := 0) (cs := [eNode.fz t0.nodes, .int .i64 t0.root]) o0 rfl (by kernel_rfl)), .b 10 c1, .v 12 (show loadH Tryd.prog h0 3 (.ptr ad0 1) = some (.int .i64 t0.root) from ld_ob (q := 0) (cs := [eNode.fz t0.nodes, .int .i64 t0.root]) o0 rfl (by kernel_rfl)), .b 15 c2, .v 17 (show loadH Tryd.prog h0 3 (.ptr ad0 1) = some (.int .i64 t0.root) from ld_ob (q := 0) (cs := [eNode.fz t0.nodes, .int .i64 t0.root]) o0 rfl (by kernel_rfl)), .v 19 (show loadH Tryd.prog h0 29 (.ptr ad0 0) = some (eNode.fz t0.nodes) from ld_ob (q := 0) (cs := [eNode.fz t0.nodes, .int .i64 t0.root]) o0 rfl (by kernel_rfl)), .b 23 c3] ?_
          have o2 : Has h0 (L) := Has.del o0 0
          obtain rfl := oi H
          exact qt <| ⟨.inl rfl, fnb (.bool false) h0 (frb (fb_bool))⟩
      · refine qr [.v 1 (show loadH Tryd.prog h0 29 (.ptr ad0 0) = some (eNode.fz t0.nodes) from ld_ob (q := 0) (cs := [eNode.fz t0.nodes, .int .i64 t0.root]) o0 rfl (by kernel_rfl)), .b 4 c0, .v 6 (show loadH Tryd.prog h0 29 (.ptr ad0 0) = some (eNode.fz t0.nodes) from ld_ob (q := 0) (cs := [eNode.fz t0.nodes, .int .i64 t0.root]) o0 rfl (by kernel_rfl)), .b 10 c1, .v 12 (show loadH Tryd.prog h0 3 (.ptr ad0 1) = some (.int .i64 t0.root) from ld_ob (q := 0) (cs := [eNode.fz t0.nodes, .int .i64 t0.root]) o0 rfl (by kernel_rfl)), .b 15 c2] ?_
        have o3 : Has h0 (L) := Has.del o0 0
        obtain rfl := oi H
        exact qt <| ⟨.inl rfl, fnb (.bool false) h0 (frb (fb_bool))⟩
    · refine qr [.v 1 (show loadH Tryd.prog h0 29 (.ptr ad0 0) = some (eNode.fz t0.nodes) from ld_ob (q := 0) (cs := [eNode.fz t0.nodes, .int .i64 t0.root]) o0 rfl (by kernel_rfl)), .b 4 c0, .v 6 (show loadH Tryd.prog h0 29 (.ptr ad0 0) = some (eNode.fz t0.nodes) from ld_ob (q := 0) (cs := [eNode.fz t0.nodes, .int .i64 t0.root]) o0 rfl (by kernel_rfl)), .b 10 c1] ?_
      have o4 : Has h0 (L) := Has.del o0 0
      obtain rfl := oi H
      exact qt <| ⟨.inl rfl, fnb (.bool false) h0 (frb (fb_bool))⟩
  · refine qr [.v 1 (show loadH Tryd.prog h0 29 (.ptr ad0 0) = some (eNode.fz t0.nodes) from ld_ob (q := 0) (cs := [eNode.fz t0.nodes, .int .i64 t0.root]) o0 rfl (by kernel_rfl)), .b 4 c0] ?_
    have o5 : Has h0 (L) := Has.del o0 0
    obtain rfl := oi H
    exact qt <| ⟨.inl rfl, fnb (.bool false) h0 (frb (fb_bool))⟩
end
end Go.Proofs.YtmekcfdllhphlaaDoor

namespace Go.Proofs.YtmekcfdllhphlaaDoor
open Go Go.R
open Go.IntKind (i64 u64 u8 u32)
def ann108 : Ann := mkA [0, 2] [] [2, 1] [] []
def cmp_isNaN_int.f (m : Nat) (x0 : Int) : Option (Bool) := some (!(x0 == x0))
def cmp_isNaN_int.fin (L : Mem) (r : Bool) (s : St) : Prop := ∃ av, resultA Tryd.prog (s.open ann108) Tryd.f108.results.toList = some av ∧ Frb s.h av (.bool r)
def S108 (cf : CallF) (m : Nat) : Prop := ∀ (x0 : Int) (r : Bool), cmp_isNaN_int.f m x0 = some r → ∀ h xs, FrzS bigK h xs [.int .i64 x0] → cf 108 xs h = some (.bool r, h)
section
variable {cf : CallF} {m : Nat}
theorem cmp_isNaN_int_body {ann : FuncId → Ann} (ha : ann 108 = ann108)  (x0 : Int) (h : AHeap) (L : Mem)  (o : Has h (L)) {out : Bool} (H : cmp_isNaN_int.f m x0 = some out) :
    ∃ r h', bodyA Tryd.prog ann cf m 108 [.int .i64 x0] h = some (r, h') ∧ Frb h' r (.bool out) := by
  refine body_of_ends2 (fn := Tryd.f108) ha Tryd.func108 (by kernel_rfl) (by kernel_rfl) ?_
  refine ends_fin (Q := fun s => cmp_isNaN_int.fin L out s) (fun _ _ h => h) ?_
  have H : _ = some out := H
  unfold cmp_isNaN_int.f at H
  show Enz _ cf ann108 m _ ⟨[.int .i64 x0, .any], [], h⟩ _
  obtain rfl := oi H
  exact q1 <| qq <| q0 <| qt <| ⟨.inl rfl, fnb (.bool (!(x0 == x0))) h (frb (fb_bool))⟩
end
end Go.Proofs.YtmekcfdllhphlaaDoor

namespace Go.Proofs.YtmekcfdllhphlaaDoor
open Go Go.R
open Go.IntKind (i64 u64 u8 u32)
def ann81 : Ann := mkA [0, 1, 4, 5, 6, 11, 12, 13, 16, 19] [] [1020, 1012, 996, 972, 959, 1019, 1019, 892, 1019, 764, 1019, 511, 1019, 1019] [] []
def cmp_Compare_int.f (m : Nat) (x0 : Int) (y0 : Int) : Option (Int) := (cmp_isNaN_int.f m x0).bind fun x1 => (cmp_isNaN_int.f m y0).bind fun x2 => if x1 = true then (if x2 = true then (some (0 : Int)) else (some (-1 : Int))) else (if x2 = true then (some (1 : Int)) else (if (decide (x0 < y0)) = true then (some (-1 : Int)) else (if (decide (x0 > y0)) = true then (some (1 : Int)) else (some (0 : Int)))))
def cmp_Compare_int.fin (L : Mem) (r : Int) (s : St) : Prop := ∃ av, resultA Tryd.prog (s.open ann81) Tryd.f81.results.toList = some av ∧ Frb s.h av (.int .i64 r)
def S81 (cf : CallF) (m : Nat) : Prop := ∀ (x0 : Int) (y0 : Int) (r : Int), cmp_Compare_int.f m x0 y0 = some r → ∀ h xs, FrzS bigK h xs [.int .i64 x0, .int .i64 y0] → cf 81 xs h = some (.int .i64 r, h)
section
variable {cf : CallF} {m : Nat}
theorem cmp_Compare_int_body {ann : FuncId → Ann} (ha : ann 81 = ann81) (S108_ : S108 cf m) (x0 : Int) (y0 : Int) (h : AHeap) (L : Mem)  (o : Has h (L)) {out : Int} (H : cmp_Compare_int.f m x0 y0 = some out) :
    ∃ r h', bodyA Tryd.prog ann cf m 81 [.int .i64 x0, .int .i64 y0] h = some (r, h') ∧ Frb h' r (.int .i64 out) := by
  refine body_of_ends2 (fn := Tryd.f81) ha Tryd.func81 (by kernel_rfl) (by kernel_rfl) ?_
  refine ends_fin (Q := fun s => cmp_Compare_int.fin L out s) (fun _ _ h => h) ?_
  have H : _ = some out := H
  unfold cmp_Compare_int.f at H
  show Enz _ cf ann81 m _ ⟨.int .i64 x0 :: .int .i64 y0 :: Ay8 [], [], h⟩ _
  refine q1 <| qq ?_
  obtain ⟨x1, e0, H⟩ := bsi H
  refine qr [.a 1 (S108_ _ _ e0 h _ (frs (fr_cons (fr_int) (fr_nil))))] <| qq ?_
  obtain ⟨x2, e1, H⟩ := bsi H
  refine qr [.a 1 (S108_ _ _ e1 h _ (frs (fr_cons (fr_int) (fr_nil))))] <| qq <| qq <| q0 <| qc H (fun c0 H => ?_) (fun c0 H => ?_)
  · refine qq <| qq <| q0 <| qc H (fun c1 H => ?_) (fun c1 H => ?_)
    · obtain rfl := oi H
      exact q1 <| qt <| ⟨.inl rfl, fnb (.int .i64 (0 : Int)) h (frb (fb_int))⟩
    · obtain rfl := oi H
      exact qk <| qq <| q0 <| qt <| ⟨.inl rfl, fnb (.int .i64 (-1 : Int)) h (frb (fb_int))⟩
  · refine qk <| qq <| qq <| q0 <| qc H (fun c2 H => ?_) (fun c2 H => ?_)
    · obtain rfl := oi H
      exact q1 <| qt <| ⟨.inl rfl, fnb (.int .i64 (1 : Int)) h (frb (fb_int))⟩
    · refine qk <| qq <| qq <| q0 <| qc H (fun c3 H => ?_) (fun c3 H => ?_)
      · obtain rfl := oi H
        exact q1 <| qt <| ⟨.inl rfl, fnb (.int .i64 (-1 : Int)) h (frb (fb_int))⟩
      · refine qk <| qq <| qq <| q0 <| qc H (fun c4 H => ?_) (fun c4 H => ?_)
        · obtain rfl := oi H
          exact q1 <| qt <| ⟨.inl rfl, fnb (.int .i64 (1 : Int)) h (frb (fb_int))⟩
        · obtain rfl := oi H
          exact qk <| qq <| q0 <| qt <| ⟨.inl rfl, fnb (.int .i64 (0 : Int)) h (frb (fb_int))⟩
end
end Go.Proofs.YtmekcfdllhphlaaDoor

namespace Go.Proofs.YtmekcfdllhphlaaDoor
open Go Go.R
open Go.IntKind (i64 u64 u8 u32)
def ann82 : Ann := mkA [0, 2, 3, 5, 6, 7, 8, 9, 14] [] [510, 506, 395, 267, 387, 131, 509, 395, 509] [] []
def cmp_Or_int.l0 (m : Nat) (vals0 : List Int) : Nat → Int → Option (Sum Int (Int))
  | 0, _ => none
  | k + 1, x0 => if (decide (x0 < (vals0.length : Int))) = true then ((ix vals0 x0).bind fun v0 => if (!(v0 == (0 : Int))) = true then (some (.inl v0)) else (cmp_Or_int.l0 m vals0 k (i64.wrap (x0 + (1 : Int))))) else (some (.inr x0))
def cmp_Or_int.f (m : Nat) (vals0 : List Int) : Option (Int) := (cmp_Or_int.l0 m vals0 m (0 : Int)).bind fun out0 => match out0 with | .inl r0 => some r0 | .inr x1 => some (0 : Int)
def cmp_Or_int.fin (L : Mem) (r : Int) (s : St) : Prop := ∃ av, resultA Tryd.prog (s.open ann82) Tryd.f82.results.toList = some av ∧ Frb s.h av (.int .i64 r)
def S82 (cf : CallF) (m : Nat) : Prop := ∀ (vals0 : List Int) (r : Int), cmp_Or_int.f m vals0 = some r → ∀ h xs, FrzS bigK h xs [eInt.fz vals0] → cf 82 xs h = some (.int .i64 r, h)
section
variable {cf : CallF} {m : Nat}
theorem cmp_Or_int.l0_ok (L : Mem) (vals0 : List Int)   : LoopT Tryd.prog cf ann82 m (sub [1, 1, 0, 1, 0, 0] (codeOf Tryd.f82)) (fun k (σ : Int) => cmp_Or_int.l0 m vals0 k σ) (fun σ s => match σ with | x0 => ∃ h0, s = ⟨[.any, .any, .int .i64 (0 : Int), .any, eInt.fz vals0, .int .i64 (vals0.length : Int), .int .i64 x0, .any, .any], [], h0⟩ ∧ Has h0 (L)) (fun out e s => (e = .exit 0 ∧ ∃ x0, .inr x0 = out ∧ ∃ x6_ x7_ x8_ x9_ h0, s = ⟨[.any, .any, .int .i64 (0 : Int), .any, x6_, x7_, x8_, x9_, .any], [], h0⟩ ∧ Has h0 (L)) ∨ (e = .ret ∧ ∃ r, .inl r = out ∧ cmp_Or_int.fin L r s)) := by
  refine lpT (fun _ => rfl) ?_
  rintro k x0 s out ⟨h0, rfl, o0⟩ H
  have H : cmp_Or_int.l0 m vals0 (k + 1) x0 = some out := H
  refine q1 <| qq <| qc H (fun c0 H => ?_) (fun c0 H => ?_)
  · refine qk <| qq <| qb 1 <| qq ?_
    obtain ⟨v0, e0, H⟩ := bsi H
    refine qr [.v 0 (ia_fz (k := .i64) (E := eInt) (l := vals0) T42 e0), .v 1 (ld_fz0  (E := eInt) (l := vals0) h0 A3 e0 rfl)] <| qq <| q0 <| qc H (fun c1 H => ?_) (fun c1 H => ?_)
    · exact q1 <| qt <| Or.inr (⟨rfl, _, oi H, fnb (.int .i64 v0) h0 (frb (fb_int))⟩)
    · exact qk <| q0 <| ⟨i64.wrap (x0 + (1 : Int)), ⟨h0, by kernel_rfl, o0⟩, H⟩
  · exact qx 0 <| Or.inl (⟨rfl, x0, oi H, eInt.fz vals0, .int .i64 (vals0.length : Int), .int .i64 x0, .bool (decide (x0 < (vals0.length : Int))), h0, by kernel_rfl, o0⟩)
theorem cmp_Or_int_body {ann : FuncId → Ann} (ha : ann 82 = ann82)  (vals0 : List Int) (h : AHeap) (L : Mem)  (o : Has h (L)) {out : Int} (H : cmp_Or_int.f m vals0 = some out) :
    ∃ r h', bodyA Tryd.prog ann cf m 82 [eInt.fz vals0] h = some (r, h') ∧ Frb h' r (.int .i64 out) := by
  refine body_of_ends2 (fn := Tryd.f82) ha Tryd.func82 (by kernel_rfl) (by kernel_rfl) ?_
  refine ends_fin (Q := fun s => cmp_Or_int.fin L out s) (fun _ _ h => h) ?_
  have H : _ = some out := H
  unfold cmp_Or_int.f at H
  show Enz _ cf ann82 m _ ⟨eInt.fz vals0 :: Ay8 [], [], h⟩ _
  refine q1 <| qq <| q0 <| qq <| qq <| q0 <| qb 0 ?_
  obtain ⟨out0, e1, H⟩ := bsi H
  refine ql (cmp_Or_int.l0_ok L vals0   (0 : Int) _ _ ⟨h, by kernel_rfl, o⟩ e1) ?_
  rintro e s (⟨rfl, x1, rfl, g0, g1, g2, g3, h1, rfl, o1⟩ | ⟨rfl, r0, rfl, hf0⟩)
  · try dsimp only at H
    obtain rfl := oi H
    exact q1 <| qt <| ⟨.inl rfl, fnb (.int .i64 (0 : Int)) h1 (frb (fb_int))⟩
  · try dsimp only at H
    obtain rfl := oi H
    exact ⟨.inl rfl, hf0⟩
end
end Go.Proofs.YtmekcfdllhphlaaDoor

namespace Go.Proofs.YtmekcfdllhphlaaDoor
open Go Go.R
open Go.IntKind (i64 u64 u8 u32)
def ann109 : Ann := mkA [0, 2] [] [2, 1] [] []
def cmp_isNaN_string.f (m : Nat) (x0 : ByteArray) : Option (Bool) := some (!(x0.data.toList == x0.data.toList))
def cmp_isNaN_string.fin (L : Mem) (r : Bool) (s : St) : Prop := ∃ av, resultA Tryd.prog (s.open ann109) Tryd.f109.results.toList = some av ∧ Frb s.h av (.bool r)
def S109 (cf : CallF) (m : Nat) : Prop := ∀ (x0 : ByteArray) (r : Bool), cmp_isNaN_string.f m x0 = some r → ∀ h xs, FrzS bigK h xs [.str x0] → cf 109 xs h = some (.bool r, h)
section
variable {cf : CallF} {m : Nat}
theorem cmp_isNaN_string_body {ann : FuncId → Ann} (ha : ann 109 = ann109)  (x0 : ByteArray) (h : AHeap) (L : Mem)  (o : Has h (L)) {out : Bool} (H : cmp_isNaN_string.f m x0 = some out) :
    ∃ r h', bodyA Tryd.prog ann cf m 109 [.str x0] h = some (r, h') ∧ Frb h' r (.bool out) := by
  refine body_of_ends2 (fn := Tryd.f109) ha Tryd.func109 (by kernel_rfl) (by kernel_rfl) ?_
  refine ends_fin (Q := fun s => cmp_isNaN_string.fin L out s) (fun _ _ h => h) ?_
  have H : _ = some out := H
  unfold cmp_isNaN_string.f at H
  show Enz _ cf ann109 m _ ⟨[.str x0, .any], [], h⟩ _
  obtain rfl := oi H
  exact q1 <| qq <| q0 <| qt <| ⟨.inl rfl, fnb (.bool (!(x0.data.toList == x0.data.toList))) h (frb (fb_bool))⟩
end
end Go.Proofs.YtmekcfdllhphlaaDoor

namespace Go.Proofs.YtmekcfdllhphlaaDoor
open Go Go.R
open Go.IntKind (i64 u64 u8 u32)
def ann83 : Ann := mkA [0, 1, 4, 5, 6, 11, 12, 13, 16, 19] [] [1020, 1012, 996, 972, 959, 1019, 1019, 892, 1019, 764, 1019, 511, 1019, 1019] [] []
def cmp_Compare_string.f (m : Nat) (x0 : ByteArray) (y0 : ByteArray) : Option (Int) := (cmp_isNaN_string.f m x0).bind fun x1 => (cmp_isNaN_string.f m y0).bind fun x2 => if x1 = true then (if x2 = true then (some (0 : Int)) else (some (-1 : Int))) else (if x2 = true then (some (1 : Int)) else (if (Op.bytesLess x0.data.toList y0.data.toList) = true then (some (-1 : Int)) else (if (!strLe x0 y0) = true then (some (1 : Int)) else (some (0 : Int)))))
def cmp_Compare_string.fin (L : Mem) (r : Int) (s : St) : Prop := ∃ av, resultA Tryd.prog (s.open ann83) Tryd.f83.results.toList = some av ∧ Frb s.h av (.int .i64 r)
def S83 (cf : CallF) (m : Nat) : Prop := ∀ (x0 : ByteArray) (y0 : ByteArray) (r : Int), cmp_Compare_string.f m x0 y0 = some r → ∀ h xs, FrzS bigK h xs [.str x0, .str y0] → cf 83 xs h = some (.int .i64 r, h)
section
variable {cf : CallF} {m : Nat}
theorem cmp_Compare_string_body {ann : FuncId → Ann} (ha : ann 83 = ann83) (S109_ : S109 cf m) (x0 : ByteArray) (y0 : ByteArray) (h : AHeap) (L : Mem)  (o : Has h (L)) {out : Int} (H : cmp_Compare_string.f m x0 y0 = some out) :
    ∃ r h', bodyA Tryd.prog ann cf m 83 [.str x0, .str y0] h = some (r, h') ∧ Frb h' r (.int .i64 out) := by
  refine body_of_ends2 (fn := Tryd.f83) ha Tryd.func83 (by kernel_rfl) (by kernel_rfl) ?_
  refine ends_fin (Q := fun s => cmp_Compare_string.fin L out s) (fun _ _ h => h) ?_
  have H : _ = some out := H
  unfold cmp_Compare_string.f at H
  show Enz _ cf ann83 m _ ⟨.str x0 :: .str y0 :: Ay8 [], [], h⟩ _
  refine q1 <| qq ?_
  obtain ⟨x1, e0, H⟩ := bsi H
  refine qr [.a 1 (S109_ _ _ e0 h _ (frs (fr_cons (fr_str) (fr_nil))))] <| qq ?_
  obtain ⟨x2, e1, H⟩ := bsi H
  refine qr [.a 1 (S109_ _ _ e1 h _ (frs (fr_cons (fr_str) (fr_nil))))] <| qq <| qq <| q0 <| qc H (fun c0 H => ?_) (fun c0 H => ?_)
  · refine qq <| qq <| q0 <| qc H (fun c1 H => ?_) (fun c1 H => ?_)
    · obtain rfl := oi H
      exact q1 <| qt <| ⟨.inl rfl, fnb (.int .i64 (0 : Int)) h (frb (fb_int))⟩
    · obtain rfl := oi H
      exact qk <| qq <| q0 <| qt <| ⟨.inl rfl, fnb (.int .i64 (-1 : Int)) h (frb (fb_int))⟩
  · refine qk <| qq <| qq <| q0 <| qc H (fun c2 H => ?_) (fun c2 H => ?_)
    · obtain rfl := oi H
      exact q1 <| qt <| ⟨.inl rfl, fnb (.int .i64 (1 : Int)) h (frb (fb_int))⟩
    · refine qk <| qq <| qq <| q0 <| qc H (fun c3 H => ?_) (fun c3 H => ?_)
      · obtain rfl := oi H
        exact q1 <| qt <| ⟨.inl rfl, fnb (.int .i64 (-1 : Int)) h (frb (fb_int))⟩
      · refine qk <| qq <| qq <| q0 <| qc H (fun c4 H => ?_) (fun c4 H => ?_)
        · obtain rfl := oi H
          exact q1 <| qt <| ⟨.inl rfl, fnb (.int .i64 (1 : Int)) h (frb (fb_int))⟩
        · obtain rfl := oi H
          exact qk <| qq <| q0 <| qt <| ⟨.inl rfl, fnb (.int .i64 (0 : Int)) h (frb (fb_int))⟩
end
end Go.Proofs.YtmekcfdllhphlaaDoor

namespace Go.Proofs.YtmekcfdllhphlaaDoor
open Go Go.R
open Go.IntKind (i64 u64 u8 u32)
def ann65 : Ann := mkA [0, 1, 2, 3, 4, 5, 16] [2, 3] [115, 83, 111, 51, 111, 111] [] []
def tree_compareTop.f (m : Nat) (a0 : VNode) (b0 : VNode) : Option (Int) := if (!(a0.kind == b0.kind)) = true then ((cmp_Compare_int.f m a0.kind b0.kind).bind fun x0 => some x0) else (if (a0.kind == (3 : Int)) = true then ((cmp_Compare_int.f m (a0.args.length : Int) (b0.args.length : Int)).bind fun x1 => (cmp_Compare_string.f m a0.label b0.label).bind fun x2 => (cmp_Or_int.f m ([x1, x2])).bind fun x3 => some x3) else ((cmp_Compare_string.f m a0.label b0.label).bind fun x4 => (cmp_Compare_int.f m a0.int b0.int).bind fun x5 => (cmp_Or_int.f m ([x4, x5])).bind fun x6 => some x6))
def tree_compareTop.fin (L : Mem) (r : Int) (s : St) : Prop := ∃ av, resultA Tryd.prog (s.open ann65) Tryd.f65.results.toList = some av ∧ Frb s.h av (.int .i64 r)
def S65 (cf : CallF) (m : Nat) : Prop := ∀ (a0 : VNode) (b0 : VNode) (r : Int), tree_compareTop.f m a0 b0 = some r → ∀ h xs, FrzS bigK h xs [.agg [.int .i64 a0.kind, .int .i64 a0.int, .str a0.label, eInt.fz a0.args], .agg [.int .i64 b0.kind, .int .i64 b0.int, .str b0.label, eInt.fz b0.args]] → cf 65 xs h = some (.int .i64 r, h)
section
variable {cf : CallF} {m : Nat}
theorem tree_compareTop_body {ann : FuncId → Ann} (ha : ann 65 = ann65) (S81_ : S81 cf m) (S82_ : S82 cf m) (S83_ : S83 cf m) (a0 : VNode) (b0 : VNode) (h : AHeap) (L : Mem)  (o : Has h (L)) {out : Int} (H : tree_compareTop.f m a0 b0 = some out) :
    ∃ r h', bodyA Tryd.prog ann cf m 65 [.agg [.int .i64 a0.kind, .int .i64 a0.int, .str a0.label, eInt.fz a0.args], .agg [.int .i64 b0.kind, .int .i64 b0.int, .str b0.label, eInt.fz b0.args]] h = some (r, h') ∧ Frb h' r (.int .i64 out) := by
  refine body_of_ends2 (fn := Tryd.f65) ha Tryd.func65 (by kernel_rfl) (by kernel_rfl) ?_
  refine ends_fin (Q := fun s => tree_compareTop.fin L out s) (fun _ _ h => h) ?_
  have H : _ = some out := H
  unfold tree_compareTop.f at H
  show Enz _ cf ann65 m _ ⟨.agg [.int .i64 a0.kind, .int .i64 a0.int, .str a0.label, eInt.fz a0.args] :: .agg [.int .i64 b0.kind, .int .i64 b0.int, .str b0.label, eInt.fz b0.args] :: Ay5 [], [none, none], h⟩ _
  refine q1 <| qq <| qb 0 <| qq <| q0 <| qc H (fun c0 H => ?_) (fun c0 H => ?_)
  · refine qq ?_
    obtain ⟨x0, e0, H⟩ := bsi H
    obtain rfl := oi H
    exact qr [.a 4 (S81_ _ _ _ e0 h _ (frs (fr_cons (fr_int) (fr_cons (fr_int) (fr_nil)))))] <| qt <| ⟨.inl rfl, fnb (.int .i64 x0) h (frb (fb_int))⟩
  · refine q1 <| qc H (fun c1 H => ?_) (fun c1 H => ?_)
    · refine qq ?_
      obtain ⟨x1, e1, H⟩ := bsi H
      obtain ⟨x2, e2, H⟩ := bsi H
      obtain ⟨x3, e3, H⟩ := bsi H
      obtain rfl := oi H
      exact qr [.a 6 (S81_ _ _ _ e1 h _ (frs (fr_cons (fr_int) (fr_cons (fr_int) (fr_nil))))), .a 11 (S83_ _ _ _ e2 h _ (frs (fr_cons (fr_str) (fr_cons (fr_str) (fr_nil))))), .a 13 (S82_ _ _ e3 h _ (frs (fr_cons (fr_lit (E := eInt) (l := [x1, x2]) (cs := [.int .i64 x1, .int .i64 x2]) (b := true) (by kernel_rfl) (by kernel_rfl) rfl) (fr_nil))))] <| qt <| ⟨.inl rfl, fnb (.int .i64 x3) h (frb (fb_int))⟩
    · refine qk <| qq ?_
      obtain ⟨x4, e4, H⟩ := bsi H
      obtain ⟨x5, e5, H⟩ := bsi H
      obtain ⟨x6, e6, H⟩ := bsi H
      obtain rfl := oi H
      exact qr [.a 4 (S83_ _ _ _ e4 h _ (frs (fr_cons (fr_str) (fr_cons (fr_str) (fr_nil))))), .a 9 (S81_ _ _ _ e5 h _ (frs (fr_cons (fr_int) (fr_cons (fr_int) (fr_nil))))), .a 11 (S82_ _ _ e6 h _ (frs (fr_cons (fr_lit (E := eInt) (l := [x4, x5]) (cs := [.int .i64 x4, .int .i64 x5]) (b := true) (by kernel_rfl) (by kernel_rfl) rfl) (fr_nil))))] <| qt <| ⟨.inl rfl, fnb (.int .i64 x6) h (frb (fb_int))⟩
end
end Go.Proofs.YtmekcfdllhphlaaDoor

namespace Go.Proofs.YtmekcfdllhphlaaDoor
open Go Go.R
open Go.IntKind (i64 u64 u8 u32)
def ann85 : Ann := mkA [0, 1, 2, 5] [] [8, 7] [] []
def tree_classes_1.f (m : Nat) (i0 : Int) (j0 : Int) (x0 : List VNode) : Option (Int) := (ix x0 i0).bind fun v0 => (ix x0 j0).bind fun v1 => (tree_compareTop.f m v0 v1).bind fun x1 => some x1
def tree_classes_1.fin (h : AHeap) (r : Int) (s : St) : Prop := resultA Tryd.prog (s.open ann85) Tryd.f85.results.toList = some (.int .i64 r) ∧ s.h = h
def S85 (cf : CallF) (m : Nat) : Prop := ∀ (i0 : Int) (j0 : Int) (x0 : List VNode) (r : Int), tree_classes_1.f m i0 j0 x0 = some r → ∀ h L (qad_x0_ ad_x0 : Nat), Has h L → L[qad_x0_]? = some (ad_x0, .ob [eNode.fz x0]) → cf 85 [.int .i64 i0, .int .i64 j0, .ptr ad_x0 0] h = some (.int .i64 r, h)
section
variable {cf : CallF} {m : Nat}
theorem tree_classes_1_body {ann : FuncId → Ann} (ha : ann 85 = ann85) (S65_ : S65 cf m) (i0 : Int) (j0 : Int) (x0 : List VNode) (h : AHeap) (L : Mem)  {qad_x0_ ad_x0 : Nat} (hqad_x0_ : L[qad_x0_]? = some (ad_x0, .ob [eNode.fz x0])) (o : Has h (L)) {out : Int} (H : tree_classes_1.f m i0 j0 x0 = some out) :
    ∃ r h', bodyA Tryd.prog ann cf m 85 [.int .i64 i0, .int .i64 j0, .ptr ad_x0 0] h = some (r, h') ∧ r = (.int .i64 out) ∧ h' = h := by
  refine body_of_ends2 (fn := Tryd.f85) ha Tryd.func85 (by kernel_rfl) (by kernel_rfl) ?_
  refine ends_fin (Q := fun s => tree_classes_1.fin h out s) (fun _ _ ⟨h1, h2, h3⟩ => ⟨h1, _, h2, rfl, h3⟩) ?_
  have H : _ = some out := H
  unfold tree_classes_1.f at H
  show Enz _ cf ann85 m _ ⟨[.int .i64 i0, .int .i64 j0, .ptr ad_x0 0, .any], [], h⟩ _
  refine q1 <| qq ?_
  obtain ⟨v0, e0, H⟩ := bsi H
  obtain ⟨v1, e1, H⟩ := bsi H
  obtain ⟨x1, e2, H⟩ := bsi H
  obtain rfl := oi H
  exact qr [.v 0 (show loadH Tryd.prog h 29 (.ptr ad_x0 0) = some (eNode.fz x0) from ld_ob (q := qad_x0_) (cs := [eNode.fz x0]) o hqad_x0_ (by kernel_rfl)), .v 2 (ia_fz (k := .i64) (E := eNode) (l := x0) T29 e0), .v 3 (ld_fzA  (E := eNode) (l := x0) h A48 Z48 e0), .v 4 (show loadH Tryd.prog h 29 (.ptr ad_x0 0) = some (eNode.fz x0) from ld_ob (q := qad_x0_) (cs := [eNode.fz x0]) o hqad_x0_ (by kernel_rfl)), .v 6 (ia_fz (k := .i64) (E := eNode) (l := x0) T29 e1), .v 7 (ld_fzA  (E := eNode) (l := x0) h A48 Z48 e1), .a 8 (S65_ _ _ _ e2 h _ (frs (fr_cons (fr_agg (fr_cons (fr_int) (fr_cons (fr_int) (fr_cons (fr_str) (fr_cons (fr_fz (E := eInt)) (fr_nil)))))) (fr_cons (fr_agg (fr_cons (fr_int) (fr_cons (fr_int) (fr_cons (fr_str) (fr_cons (fr_fz (E := eInt)) (fr_nil)))))) (fr_nil)))))] <| qt <| ⟨.inl rfl, ⟨by kernel_rfl, by kernel_rfl⟩⟩
end
end Go.Proofs.YtmekcfdllhphlaaDoor

