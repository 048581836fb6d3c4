/- Part of the proof: Q110, Q84, PS5, Q61, Q45, Q108, Q81, Q82, Q109, Q83, Q65, Q85, PT7. -/
import Derived.Test.YtmekcfdllhphlaaDoorK8
set_option linter.unusedVariables false
set_option linter.unusedSimpArgs false
set_option maxRecDepth 100000
namespace Go.Proofs.YtmekcfdllhphlaaDoor
open Go Go.R
open Go.IntKind (i64 u64 u8 u32)
def ann110 : Ann := { keep := [0, 1, 2, 6, 7, 8, 9, 13, 30, 35, 54], locs := [], dead := [(0, [7, 8, 9, 13, 30, 35, 54]), (1, [9, 13, 30, 35, 54]), (2, [9, 30, 35, 54]), (3, [7, 9, 13, 30, 35, 54]), (4, [9, 13, 30, 35, 54]), (5, [9, 13, 30, 35, 54]), (6, [7, 8, 9, 13, 30, 35, 54]), (7, [7, 8, 9, 13, 35, 54]), (8, [9, 13, 30, 35, 54]), (9, [9, 13, 30, 54]), (10, [7, 9, 13, 30, 35, 54]), (11, [9, 13, 30, 35, 54]), (12, [9, 13, 30, 35, 54]), (13, [8, 13, 30, 35, 54]), (14, [8, 13, 30, 35]), (15, [7, 8, 9, 13, 30, 35, 54]), (16, [7, 8, 9, 13, 30, 35, 54])], frz := [], frz2 := [] }
noncomputable def g110R0 := sub [0] (codeOf Tryd.f110)
noncomputable def g110R1 := sub [1, 0] (codeOf Tryd.f110)
noncomputable def g110L0 := sub [1, 1, 0, 0, 0] (codeOf Tryd.f110)
noncomputable def g110R2 := sub [1, 1, 0, 0, 0, 0, 0] (codeOf Tryd.f110)
noncomputable def g110R3 := sub [1, 1, 0, 0, 0, 1, 0, 0] (codeOf Tryd.f110)
noncomputable def g110R4 := sub [1, 1, 0, 0, 0, 1, 0, 1, 0] (codeOf Tryd.f110)
noncomputable def g110R5 := sub [1, 1, 0, 0, 0, 1, 0, 1, 1] (codeOf Tryd.f110)
noncomputable def g110R6 := sub [1, 1, 1, 0] (codeOf Tryd.f110)
noncomputable def g110L1 := sub [1, 1, 1, 1, 0, 0] (codeOf Tryd.f110)
noncomputable def g110R7 := sub [1, 1, 1, 1, 0, 0, 0, 0] (codeOf Tryd.f110)
noncomputable def g110R8 := sub [1, 1, 1, 1, 0, 0, 1, 0, 0] (codeOf Tryd.f110)
noncomputable def g110L2 := sub [1, 1, 1, 1, 0, 0, 1, 0, 1, 0, 0, 0] (codeOf Tryd.f110)
noncomputable def g110R9 := sub [1, 1, 1, 1, 0, 0, 1, 0, 1, 0, 0, 0, 0, 0] (codeOf Tryd.f110)
noncomputable def g110R10 := sub [1, 1, 1, 1, 0, 0, 1, 0, 1, 0, 0, 0, 1, 0, 0] (codeOf Tryd.f110)
noncomputable def g110R11 := sub [1, 1, 1, 1, 0, 0, 1, 0, 1, 0, 0, 0, 1, 0, 1, 0] (codeOf Tryd.f110)
noncomputable def g110R12 := sub [1, 1, 1, 1, 0, 0, 1, 0, 1, 0, 0, 0, 1, 0, 1, 1] (codeOf Tryd.f110)
noncomputable def g110R13 := sub [1, 1, 1, 1, 0, 0, 1, 0, 1, 1, 0, 0] (codeOf Tryd.f110)
noncomputable def g110R14 := sub [1, 1, 1, 1, 0, 0, 1, 0, 1, 1, 0, 1, 0] (codeOf Tryd.f110)
noncomputable def g110R15 := sub [1, 1, 1, 1, 0, 0, 1, 0, 1, 1, 0, 1, 1, 0] (codeOf Tryd.f110)
noncomputable def g110R16 := sub [1, 1, 1, 1, 0, 0, 1, 0, 1, 1, 1] (codeOf Tryd.f110)
theorem g110L0_eq : g110L0 = (.seq (.seq g110R2 (.cond (.tmp 13) .skip (.exit 0))) (.block 1 (.seq g110R3 (.seq g110R4 g110R5)))) := by kernel_rfl
theorem g110L2_eq : g110L2 = (.seq (.seq g110R9 (.cond (.tmp 35) .skip (.exit 4))) (.block 5 (.seq g110R10 (.seq g110R11 g110R12)))) := by kernel_rfl
theorem g110L1_eq : g110L1 = (.seq (.seq g110R7 (.cond (.tmp 30) .skip (.exit 2))) (.block 3 (.seq g110R8 (.seq (.block 4 (.loop g110L2)) (.seq (.seq g110R13 (.seq g110R14 (.cond (.tmp 54) g110R15 .skip))) g110R16))))) := by kernel_rfl
theorem g110_eq : codeOf Tryd.f110 = (.seq g110R0 (.seq g110R1 (.seq (.block 0 (.loop g110L0)) (.seq g110R6 (.block 2 (.loop g110L1)))))) := by kernel_rfl
def stableC.l0 (m : Nat) (n0 : Int) (cmp0 : Int → Int → Option (Int)) : Nat → (List Int) → Int → Int → Option ((List Int) × Int × Int)
  | 0, _, _, _ => none
  | k + 1, data1, a0, b0 => if (decide (b0 ≤ n0)) = true then ((insertionSortC.f m data1 a0 b0 cmp0).bind fun x0 => stableC.l0 m n0 cmp0 k x0 b0 (i64.wrap (b0 + (20 : Int)))) else (some ((data1, a0, b0)))
def stableC.l2 (m : Nat) (n0 : Int) (cmp0 : Int → Int → Option (Int)) (blockSize0 : Int) : Nat → (List Int) → Int → Int → Option ((List Int) × Int × Int)
  | 0, _, _, _ => none
  | k + 1, data4, a2, b2 => if (decide (b2 ≤ n0)) = true then ((symMergeC.f m m data4 a2 (i64.wrap (a2 + blockSize0)) b2 cmp0).bind fun x2 => stableC.l2 m n0 cmp0 blockSize0 k x2 b2 (i64.wrap (b2 + i64.wrap ((2 : Int) * blockSize0)))) else (some ((data4, a2, b2)))
def stableC.l1 (m : Nat) (n0 : Int) (cmp0 : Int → Int → Option (Int)) : Nat → (List Int) → Int → Option ((List Int) × Int)
  | 0, _, _ => none
  | k + 1, data3, blockSize0 => if (decide (blockSize0 < n0)) = true then ((stableC.l2 m n0 cmp0 blockSize0 m data3 (0 : Int) (i64.wrap ((2 : Int) * blockSize0))).bind fun out1 => match out1 with | (data5, a3, b3) => if (decide ((i64.wrap (a3 + blockSize0)) < n0)) = true then ((symMergeC.f m m data5 a3 (i64.wrap (a3 + blockSize0)) n0 cmp0).bind fun x3 => stableC.l1 m n0 cmp0 k x3 (i64.wrap (blockSize0 * (2 : Int)))) else (stableC.l1 m n0 cmp0 k data5 (i64.wrap (blockSize0 * (2 : Int))))) else (some ((data3, blockSize0)))
def stableC.f (m : Nat) (data0 : List Int) (n0 : Int) (cmp0 : Int → Int → Option (Int)) : Option ((List Int)) := (stableC.l0 m n0 cmp0 m data0 (0 : Int) (20 : Int)).bind fun out0 => match out0 with | (data2, a1, b1) => (insertionSortC.f m data2 a1 n0 cmp0).bind fun x1 => (stableC.l1 m n0 cmp0 m x1 (20 : Int)).bind fun out2 => match out2 with | (data6, blockSize1) => some data6
def stableC.fin (L : Mem) (ad0 : Nat) (data0 : List Int) (n0 : Int) (cmp0 : Int → Int → Option (Int)) (r : (List Int)) (s : St) : Prop := resultA Tryd.prog (s.open ann110) Tryd.f110.results.toList = some (.tup []) ∧ Has s.h ((ad0, .sl data0.length 1 (eInt.l r)) :: L)
def S110 (cf : CallF) (m : Nat) : Prop := ∀ (data0 : List Int) (n0 : Int) (cmp0 : Int → Int → Option (Int)) (r : (List Int)), stableC.f m data0 n0 cmp0 = some r → ∀ h L (n_data0 : Nat) (ad0 : Nat), Has h ((ad0, .sl n_data0 1 (eInt.l data0)) :: L) → ∀ (g2_ : FuncId) (cap2_ : List AV), canonArg (.fn g2_ cap2_) = .fn g2_ cap2_ → (∀ h K, Has h (K ++ L) → ∀ (a0 : Int) (a1 : Int) r, cmp0 a0 a1 = some r → cf g2_ ([.int .i64 a0, .int .i64 a1] ++ cap2_) h = some (.int .i64 r, h)) → ∀ xs, xs.map canonArg = [.rs ad0 0 n_data0 1, .int .i64 n0, .fn g2_ cap2_] → ∃ h', cf 110 xs h = some (.tup [], h') ∧ Has h' ((ad0, .sl n_data0 1 (eInt.l r)) :: L)
section
variable {cf : CallF} {m : Nat}
def stableC.l0.R (L : Mem) (ad0 : Nat) (g2_ : FuncId) (cap2_ : List AV) (data0 : List Int) (n0 : Int) (cmp0 : Int → Int → Option (Int)) (σ : (List Int) × Int × Int) (s : St) : Prop :=
  match σ with
  | (data1, a0, b0) => ∃ (g0 : AV) (g1 : AV) (g2 : AV) (g3 : AV) (h0 : AHeap), s = ⟨[.rs ad0 0 data0.length 1, .int .i64 n0, .fn g2_ cap2_, .int .i64 (20 : Int), .int .i64 a0, .int .i64 b0, .any, g0, g1, g2, g3], [], h0⟩ ∧ Has h0 ((ad0, .sl data0.length 1 (eInt.l data1)) :: L)
def stableC.l0.Q (L : Mem) (ad0 : Nat) (g2_ : FuncId) (cap2_ : List AV) (data0 : List Int) (n0 : Int) (cmp0 : Int → Int → Option (Int)) (out : (List Int) × Int × Int) (e : Ex) (s : St) : Prop :=
  (e = .exit 0 ∧ ∃ (data1 : List Int) (a0 : Int) (b0 : Int), (data1, a0, b0) = out ∧ ∃ (x8_ : AV) (x13_ : AV) (x30_ : AV) (x35_ : AV) (x54_ : AV) (h0 : AHeap), s = ⟨[.rs ad0 0 data0.length 1, .int .i64 n0, .fn g2_ cap2_, .int .i64 (20 : Int), .int .i64 a0, x8_, .any, x13_, x30_, x35_, x54_], [], h0⟩ ∧ Has h0 ((ad0, .sl data0.length 1 (eInt.l data1)) :: L))
theorem stableC.l0_ok (L : Mem) (ad0 : Nat) (g2_ : FuncId) (cap2_ : List AV) (data0 : List Int) (n0 : Int) (cmp0 : Int → Int → Option (Int))  (hc2_ : canonArg (.fn g2_ cap2_) = .fn g2_ cap2_) (Hp2_ : ∀ h K, Has h (K ++ L) → ∀ (a0 : Int) (a1 : Int) r, cmp0 a0 a1 = some r → cf g2_ ([.int .i64 a0, .int .i64 a1] ++ cap2_) h = some (.int .i64 r, h)) (S119_ : S119 cf m) {σ : (List Int) × Int × Int} {s : St} {out : (List Int) × Int × Int} (hr : stableC.l0.R L ad0 g2_ cap2_ data0 n0 cmp0 σ s) (H : (fun k σ => stableC.l0 m n0 cmp0 k σ.1 σ.2.1 σ.2.2) m σ = some out) : Enz Tryd.prog cf ann110 m (.loop g110L0) s (stableC.l0.Q L ad0 g2_ cap2_ data0 n0 cmp0 out) := by
  refine ends_loop (fun k σ => stableC.l0 m n0 cmp0 k σ.1 σ.2.1 σ.2.2) (stableC.l0.R L ad0 g2_ cap2_ data0 n0 cmp0) (stableC.l0.Q L ad0 g2_ cap2_ data0 n0 cmp0) (fun _ => rfl) ?_ hr H (fun _ _ _ h => h)
  clear hr H σ s out
  rintro k ⟨data1, a0, b0⟩ s out ⟨g0, g1, g2, g3, h0, rfl, o0⟩ H
  have H : stableC.l0 m n0 cmp0 (k + 1) data1 a0 b0 = some out := H
  refine ends_of_eq g110L0_eq ?_
  refine ends_seq ?_
  refine sr [] [] ⟨.rs ad0 0 data0.length 1 :: .int .i64 n0 :: .fn g2_ cap2_ :: .int .i64 (20 : Int) :: .int .i64 a0 :: .int .i64 b0 :: .any :: .bool (decide (b0 ≤ n0)) :: Ay3 [], [], h0⟩ ((True) ∧ True) (by kernel_rfl) ⟨trivial, trivial⟩ ?_
  refine ends_cond (decide (b0 ≤ n0)) (by kernel_rfl) (fun c0 => ?_) (fun c0 => ?_)
  · have H := ifp c0 H
    refine ends_skip ?_
    refine ends_block ?_
    refine ends_seq ?_
    obtain ⟨x0, e0, H⟩ := bsi H
    obtain ⟨h1, e1, o1⟩ := S119_ _ _ _ _ _ e0 h0 _ _ _ (o0) g2_ cap2_ hc2_ (fun h' K' o' => Hp2_ h' (K' ++ []) (by simpa only [List.append_assoc, List.cons_append, List.nil_append] using o')) [.rs ad0 0 data0.length 1, .int .i64 a0, .int .i64 b0, .fn g2_ cap2_] (can_cons (rfl) (can_cons (can_pure (pu_int)) (can_cons (can_pure (pu_int)) (can_cons (hc2_) (can_nil)))))
    refine er [] [(4, .tup [], some h1)] ⟨.rs ad0 0 data0.length 1 :: .int .i64 n0 :: .fn g2_ cap2_ :: .int .i64 (20 : Int) :: .any :: .int .i64 b0 :: Ay5 [], [], h1⟩ ((True) ∧ callO cf (.fn 119 []) [.rs ad0 0 data0.length 1, .int .i64 a0, .int .i64 b0, .fn g2_ cap2_] h0 = some (.tup [], h1) ∧ True) (by kernel_rfl) ⟨trivial, ⟨callO_of (by kernel_rfl) e1, trivial⟩⟩ ?_
    refine sr [] [] ⟨.rs ad0 0 data0.length 1 :: .int .i64 n0 :: .fn g2_ cap2_ :: .int .i64 (20 : Int) :: .int .i64 b0 :: .int .i64 b0 :: Ay5 [], [], h1⟩ ((True) ∧ True) (by kernel_rfl) ⟨trivial, trivial⟩ ?_
    refine er [] [] ⟨.rs ad0 0 data0.length 1 :: .int .i64 n0 :: .fn g2_ cap2_ :: .int .i64 (20 : Int) :: .int .i64 b0 :: .int .i64 (i64.wrap (b0 + (20 : Int))) :: Ay5 [], [], h1⟩ ((True) ∧ True) (by kernel_rfl) ⟨trivial, trivial⟩ ?_
    exact ⟨(x0, b0, i64.wrap (b0 + (20 : Int))), ⟨.any, .any, .any, .any, h1, rfl, o1⟩, H⟩
  · have H := ifn c0 H
    refine ends_exit ?_
    have H := Option.some.inj H
    exact ⟨rfl, data1, a0, b0, H, .int .i64 b0, .bool (decide (b0 ≤ n0)), .any, .any, .any, h0, rfl, o0⟩
def stableC.l2.R (L : Mem) (ad0 : Nat) (g2_ : FuncId) (cap2_ : List AV) (data0 : List Int) (n0 : Int) (cmp0 : Int → Int → Option (Int)) (blockSize0 : Int) (σ : (List Int) × Int × Int) (s : St) : Prop :=
  match σ with
  | (data4, a2, b2) => ∃ (g13 : AV) (g14 : AV) (g15 : AV) (g16 : AV) (h5 : AHeap), s = ⟨[.rs ad0 0 data0.length 1, .int .i64 n0, .fn g2_ cap2_, .int .i64 blockSize0, .int .i64 a2, .int .i64 b2, .any, g13, g14, g15, g16], [], h5⟩ ∧ Has h5 ((ad0, .sl data0.length 1 (eInt.l data4)) :: L)
def stableC.l2.Q (L : Mem) (ad0 : Nat) (g2_ : FuncId) (cap2_ : List AV) (data0 : List Int) (n0 : Int) (cmp0 : Int → Int → Option (Int)) (blockSize0 : Int) (out : (List Int) × Int × Int) (e : Ex) (s : St) : Prop :=
  (e = .exit 4 ∧ ∃ (data4 : List Int) (a2 : Int) (b2 : Int), (data4, a2, b2) = out ∧ ∃ (x8_ : AV) (x13_ : AV) (x30_ : AV) (x35_ : AV) (x54_ : AV) (h5 : AHeap), s = ⟨[.rs ad0 0 data0.length 1, .int .i64 n0, .fn g2_ cap2_, .int .i64 blockSize0, .int .i64 a2, x8_, .any, x13_, x30_, x35_, x54_], [], h5⟩ ∧ Has h5 ((ad0, .sl data0.length 1 (eInt.l data4)) :: L))
theorem stableC.l2_ok (L : Mem) (ad0 : Nat) (g2_ : FuncId) (cap2_ : List AV) (data0 : List Int) (n0 : Int) (cmp0 : Int → Int → Option (Int)) (blockSize0 : Int)  (hc2_ : canonArg (.fn g2_ cap2_) = .fn g2_ cap2_) (Hp2_ : ∀ h K, Has h (K ++ L) → ∀ (a0 : Int) (a1 : Int) r, cmp0 a0 a1 = some r → cf g2_ ([.int .i64 a0, .int .i64 a1] ++ cap2_) h = some (.int .i64 r, h)) (S120_ : S120 cf m m) {σ : (List Int) × Int × Int} {s : St} {out : (List Int) × Int × Int} (hr : stableC.l2.R L ad0 g2_ cap2_ data0 n0 cmp0 blockSize0 σ s) (H : (fun k σ => stableC.l2 m n0 cmp0 blockSize0 k σ.1 σ.2.1 σ.2.2) m σ = some out) : Enz Tryd.prog cf ann110 m (.loop g110L2) s (stableC.l2.Q L ad0 g2_ cap2_ data0 n0 cmp0 blockSize0 out) := by
  refine ends_loop (fun k σ => stableC.l2 m n0 cmp0 blockSize0 k σ.1 σ.2.1 σ.2.2) (stableC.l2.R L ad0 g2_ cap2_ data0 n0 cmp0 blockSize0) (stableC.l2.Q L ad0 g2_ cap2_ data0 n0 cmp0 blockSize0) (fun _ => rfl) ?_ hr H (fun _ _ _ h => h)
  clear hr H σ s out
  rintro k ⟨data4, a2, b2⟩ s out ⟨g13, g14, g15, g16, h5, rfl, o5⟩ H
  have H : stableC.l2 m n0 cmp0 blockSize0 (k + 1) data4 a2 b2 = some out := H
  refine ends_of_eq g110L2_eq ?_
  refine ends_seq ?_
  refine sr [] [] ⟨.rs ad0 0 data0.length 1 :: .int .i64 n0 :: .fn g2_ cap2_ :: .int .i64 blockSize0 :: .int .i64 a2 :: .int .i64 b2 :: Ay3 [.bool (decide (b2 ≤ n0)), .any], [], h5⟩ ((True) ∧ True) (by kernel_rfl) ⟨trivial, trivial⟩ ?_
  refine ends_cond (decide (b2 ≤ n0)) (by kernel_rfl) (fun c2 => ?_) (fun c2 => ?_)
  · have H := ifp c2 H
    refine ends_skip ?_
    refine ends_block ?_
    refine ends_seq ?_
    obtain ⟨x2, e5, H⟩ := bsi H
    obtain ⟨h6, e6, o6⟩ := S120_ _ _ _ _ _ _ e5 h5 _ _ _ (o5) g2_ cap2_ hc2_ (fun h' K' o' => Hp2_ h' (K' ++ []) (by simpa only [List.append_assoc, List.cons_append, List.nil_append] using o')) [.rs ad0 0 data0.length 1, .int .i64 a2, .int .i64 (i64.wrap (a2 + blockSize0)), .int .i64 b2, .fn g2_ cap2_] (can_cons (rfl) (can_cons (can_pure (pu_int)) (can_cons (can_pure (pu_int)) (can_cons (can_pure (pu_int)) (can_cons (hc2_) (can_nil))))))
    refine er [] [(7, .tup [], some h6)] ⟨.rs ad0 0 data0.length 1 :: .int .i64 n0 :: .fn g2_ cap2_ :: .int .i64 blockSize0 :: .any :: .int .i64 b2 :: Ay5 [], [], h6⟩ ((True) ∧ callO cf (.fn 120 []) [.rs ad0 0 data0.length 1, .int .i64 a2, .int .i64 (i64.wrap (a2 + blockSize0)), .int .i64 b2, .fn g2_ cap2_] h5 = some (.tup [], h6) ∧ True) (by kernel_rfl) ⟨trivial, ⟨callO_of (by kernel_rfl) e6, trivial⟩⟩ ?_
    refine sr [] [] ⟨.rs ad0 0 data0.length 1 :: .int .i64 n0 :: .fn g2_ cap2_ :: .int .i64 blockSize0 :: .int .i64 b2 :: .int .i64 b2 :: Ay5 [], [], h6⟩ ((True) ∧ True) (by kernel_rfl) ⟨trivial, trivial⟩ ?_
    refine er [] [] ⟨.rs ad0 0 data0.length 1 :: .int .i64 n0 :: .fn g2_ cap2_ :: .int .i64 blockSize0 :: .int .i64 b2 :: .int .i64 (i64.wrap (b2 + i64.wrap ((2 : Int) * blockSize0))) :: Ay5 [], [], h6⟩ ((True) ∧ True) (by kernel_rfl) ⟨trivial, trivial⟩ ?_
    exact ⟨(x2, b2, i64.wrap (b2 + i64.wrap ((2 : Int) * blockSize0))), ⟨.any, .any, .any, .any, h6, rfl, o6⟩, H⟩
  · have H := ifn c2 H
    refine ends_exit ?_
    have H := Option.some.inj H
    exact ⟨rfl, data4, a2, b2, H, .int .i64 b2, .any, .any, .bool (decide (b2 ≤ n0)), .any, h5, rfl, o5⟩
def stableC.l1.R (L : Mem) (ad0 : Nat) (g2_ : FuncId) (cap2_ : List AV) (data0 : List Int) (n0 : Int) (cmp0 : Int → Int → Option (Int)) (σ : (List Int) × Int) (s : St) : Prop :=
  match σ with
  | (data3, blockSize0) => ∃ (g9 : AV) (g10 : AV) (g11 : AV) (g12 : AV) (h4 : AHeap), s = ⟨.rs ad0 0 data0.length 1 :: .int .i64 n0 :: .fn g2_ cap2_ :: .int .i64 blockSize0 :: Ay3 [g9, g10, g11, g12], [], h4⟩ ∧ Has h4 ((ad0, .sl data0.length 1 (eInt.l data3)) :: L)
def stableC.l1.Q (L : Mem) (ad0 : Nat) (g2_ : FuncId) (cap2_ : List AV) (data0 : List Int) (n0 : Int) (cmp0 : Int → Int → Option (Int)) (out : (List Int) × Int) (e : Ex) (s : St) : Prop :=
  (e = .exit 2 ∧ ∃ (data3 : List Int) (blockSize0 : Int), (data3, blockSize0) = out ∧ ∃ (x0_ : AV) (x1_ : AV) (x2_ : AV) (x6_ : AV) (x13_ : AV) (x30_ : AV) (x35_ : AV) (x54_ : AV) (h4 : AHeap), s = ⟨x0_ :: x1_ :: x2_ :: x6_ :: Ay3 [x13_, x30_, x35_, x54_], [], h4⟩ ∧ Has h4 ((ad0, .sl data0.length 1 (eInt.l data3)) :: L))
theorem stableC.l1_ok (L : Mem) (ad0 : Nat) (g2_ : FuncId) (cap2_ : List AV) (data0 : List Int) (n0 : Int) (cmp0 : Int → Int → Option (Int))  (hc2_ : canonArg (.fn g2_ cap2_) = .fn g2_ cap2_) (Hp2_ : ∀ h K, Has h (K ++ L) → ∀ (a0 : Int) (a1 : Int) r, cmp0 a0 a1 = some r → cf g2_ ([.int .i64 a0, .int .i64 a1] ++ cap2_) h = some (.int .i64 r, h)) (S120_ : S120 cf m m) {σ : (List Int) × Int} {s : St} {out : (List Int) × Int} (hr : stableC.l1.R L ad0 g2_ cap2_ data0 n0 cmp0 σ s) (H : (fun k σ => stableC.l1 m n0 cmp0 k σ.1 σ.2) m σ = some out) : Enz Tryd.prog cf ann110 m (.loop g110L1) s (stableC.l1.Q L ad0 g2_ cap2_ data0 n0 cmp0 out) := by
  refine ends_loop (fun k σ => stableC.l1 m n0 cmp0 k σ.1 σ.2) (stableC.l1.R L ad0 g2_ cap2_ data0 n0 cmp0) (stableC.l1.Q L ad0 g2_ cap2_ data0 n0 cmp0) (fun _ => rfl) ?_ hr H (fun _ _ _ h => h)
  clear hr H σ s out
  rintro k ⟨data3, blockSize0⟩ s out ⟨g9, g10, g11, g12, h4, rfl, o4⟩ H
  have H : stableC.l1 m n0 cmp0 (k + 1) data3 blockSize0 = some out := H
  refine ends_of_eq g110L1_eq ?_
  refine ends_seq ?_
  refine sr [] [] ⟨.rs ad0 0 data0.length 1 :: .int .i64 n0 :: .fn g2_ cap2_ :: .int .i64 blockSize0 :: Ay4 [.bool (decide (blockSize0 < n0)), .any, .any], [], h4⟩ ((True) ∧ True) (by kernel_rfl) ⟨trivial, trivial⟩ ?_
  refine ends_cond (decide (blockSize0 < n0)) (by kernel_rfl) (fun c1 => ?_) (fun c1 => ?_)
  · have H := ifp c1 H
    refine ends_skip ?_
    refine ends_block ?_
    refine sr [] [] ⟨.rs ad0 0 data0.length 1 :: .int .i64 n0 :: .fn g2_ cap2_ :: .int .i64 blockSize0 :: .int .i64 (0 : Int) :: .int .i64 (i64.wrap ((2 : Int) * blockSize0)) :: Ay5 [], [], h4⟩ ((True) ∧ True) (by kernel_rfl) ⟨trivial, trivial⟩ ?_
    refine ends_seq ?_
    refine ends_block ?_
    obtain ⟨out1, e7, H⟩ := bsi H
    refine ends_mono (stableC.l2_ok L ad0 g2_ cap2_ data0 n0 cmp0 blockSize0  hc2_ Hp2_ S120_ (σ := (data3, (0 : Int), i64.wrap ((2 : Int) * blockSize0))) ⟨.any, .any, .any, .any, h4, rfl, o4⟩ e7) ?_
    rintro e s ⟨rfl, data5, a3, b3, rfl, g17, g18, g19, g20, g21, h7, rfl, o7⟩
    try dsimp only at H
    refine ends_seq ?_
    refine sr [] [] ⟨.rs ad0 0 data0.length 1 :: .int .i64 n0 :: .fn g2_ cap2_ :: .int .i64 blockSize0 :: .int .i64 a3 :: .any :: .int .i64 (i64.wrap (a3 + blockSize0)) :: Ay4 [], [], h7⟩ ((True) ∧ True) (by kernel_rfl) ⟨trivial, trivial⟩ ?_
    refine sr [] [] ⟨.rs ad0 0 data0.length 1 :: .int .i64 n0 :: .fn g2_ cap2_ :: .int .i64 blockSize0 :: .int .i64 a3 :: .any :: .int .i64 (i64.wrap (a3 + blockSize0)) :: Ay3 [.bool (decide ((i64.wrap (a3 + blockSize0)) < n0))], [], h7⟩ ((True) ∧ True) (by kernel_rfl) ⟨trivial, trivial⟩ ?_
    refine ends_cond (decide ((i64.wrap (a3 + blockSize0)) < n0)) (by kernel_rfl) (fun c3 => ?_) (fun c3 => ?_)
    · have H := ifp c3 H
      obtain ⟨x3, e8, H⟩ := bsi H
      obtain ⟨h8, e9, o8⟩ := S120_ _ _ _ _ _ _ e8 h7 _ _ _ (o7) g2_ cap2_ hc2_ (fun h' K' o' => Hp2_ h' (K' ++ []) (by simpa only [List.append_assoc, List.cons_append, List.nil_append] using o')) [.rs ad0 0 data0.length 1, .int .i64 a3, .int .i64 (i64.wrap (a3 + blockSize0)), .int .i64 n0, .fn g2_ cap2_] (can_cons (rfl) (can_cons (can_pure (pu_int)) (can_cons (can_pure (pu_int)) (can_cons (can_pure (pu_int)) (can_cons (hc2_) (can_nil))))))
      refine er [] [(5, .tup [], some h8)] ⟨.rs ad0 0 data0.length 1 :: .int .i64 n0 :: .fn g2_ cap2_ :: .int .i64 blockSize0 :: Ay7 [], [], h8⟩ ((True) ∧ callO cf (.fn 120 []) [.rs ad0 0 data0.length 1, .int .i64 a3, .int .i64 (i64.wrap (a3 + blockSize0)), .int .i64 n0, .fn g2_ cap2_] h7 = some (.tup [], h8) ∧ True) (by kernel_rfl) ⟨trivial, ⟨callO_of (by kernel_rfl) e9, trivial⟩⟩ ?_
      refine er [] [] ⟨.rs ad0 0 data0.length 1 :: .int .i64 n0 :: .fn g2_ cap2_ :: .int .i64 (i64.wrap (blockSize0 * (2 : Int))) :: Ay7 [], [], h8⟩ ((True) ∧ True) (by kernel_rfl) ⟨trivial, trivial⟩ ?_
      exact ⟨(x3, i64.wrap (blockSize0 * (2 : Int))), ⟨.any, .any, .any, .any, h8, rfl, o8⟩, H⟩
    · have H := ifn c3 H
      refine ends_skip ?_
      refine er [] [] ⟨.rs ad0 0 data0.length 1 :: .int .i64 n0 :: .fn g2_ cap2_ :: .int .i64 (i64.wrap (blockSize0 * (2 : Int))) :: Ay7 [], [], h7⟩ ((True) ∧ True) (by kernel_rfl) ⟨trivial, trivial⟩ ?_
      exact ⟨(data5, i64.wrap (blockSize0 * (2 : Int))), ⟨.any, .any, .any, .any, h7, rfl, o7⟩, H⟩
  · have H := ifn c1 H
    refine ends_exit ?_
    have H := Option.some.inj H
    exact ⟨rfl, data3, blockSize0, H, .rs ad0 0 data0.length 1, .int .i64 n0, .fn g2_ cap2_, .int .i64 blockSize0, .any, .bool (decide (blockSize0 < n0)), .any, .any, h4, rfl, o4⟩
theorem stableC_body {ann : FuncId → Ann} (ha : ann 110 = ann110) (S119_ : S119 cf m) (S120_ : S120 cf m m) (data0 : List Int) (n0 : Int) (cmp0 : Int → Int → Option (Int)) (h : AHeap) (L : Mem) (ad0 : Nat) (g2_ : FuncId) (cap2_ : List AV)  (hc2_ : canonArg (.fn g2_ cap2_) = .fn g2_ cap2_) (Hp2_ : ∀ h K, Has h (K ++ L) → ∀ (a0 : Int) (a1 : Int) r, cmp0 a0 a1 = some r → cf g2_ ([.int .i64 a0, .int .i64 a1] ++ cap2_) h = some (.int .i64 r, h)) (o : Has h ((ad0, .sl data0.length 1 (eInt.l data0)) :: L)) {out : (List Int)} (H : stableC.f m data0 n0 cmp0 = some out) :
    ∃ r h', bodyA Tryd.prog ann cf m 110 [.rs ad0 0 data0.length 1, .int .i64 n0, .fn g2_ cap2_] h = some (r, h') ∧ r = .tup [] ∧ Has h' ((ad0, .sl data0.length 1 (eInt.l out)) :: L) := by
  refine body_of_ends2 (fn := Tryd.f110) ha Tryd.func110 (by kernel_rfl) (by kernel_rfl) ?_
  refine ends_fin (Q := fun s => stableC.fin L ad0 data0 n0 cmp0 out s) (fun _ _ ⟨h1, h2, h3⟩ => ⟨h1, _, h2, rfl, h3⟩) ?_
  refine ends_of_eq g110_eq ?_
  have H : _ = some out := H
  unfold stableC.f at H
  show Enz _ cf ann110 m _ ⟨.rs ad0 0 data0.length 1 :: .int .i64 n0 :: .fn g2_ cap2_ :: Ay8 [], [], h⟩ _
  refine sr [] [] ⟨.rs ad0 0 data0.length 1 :: .int .i64 n0 :: .fn g2_ cap2_ :: .int .i64 (20 : Int) :: Ay7 [], [], h⟩ ((True) ∧ True) (by kernel_rfl) ⟨trivial, trivial⟩ ?_
  refine sr [] [] ⟨.rs ad0 0 data0.length 1 :: .int .i64 n0 :: .fn g2_ cap2_ :: .int .i64 (20 : Int) :: .int .i64 (0 : Int) :: .int .i64 (20 : Int) :: Ay5 [], [], h⟩ ((True) ∧ True) (by kernel_rfl) ⟨trivial, trivial⟩ ?_
  refine ends_seq ?_
  refine ends_block ?_
  obtain ⟨out0, e2, H⟩ := bsi H
  refine ends_mono (stableC.l0_ok L ad0 g2_ cap2_ data0 n0 cmp0  hc2_ Hp2_ S119_ (σ := (data0, (0 : Int), (20 : Int))) ⟨.any, .any, .any, .any, h, rfl, o⟩ e2) ?_
  rintro e s ⟨rfl, data2, a1, b1, rfl, g4, g5, g6, g7, g8, h2, rfl, o2⟩
  try dsimp only at H
  refine ends_seq ?_
  obtain ⟨x1, e3, H⟩ := bsi H
  obtain ⟨h3, e4, o3⟩ := S119_ _ _ _ _ _ e3 h2 _ _ _ (o2) g2_ cap2_ hc2_ (fun h' K' o' => Hp2_ h' (K' ++ []) (by simpa only [List.append_assoc, List.cons_append, List.nil_append] using o')) [.rs ad0 0 data0.length 1, .int .i64 a1, .int .i64 n0, .fn g2_ cap2_] (can_cons (rfl) (can_cons (can_pure (pu_int)) (can_cons (can_pure (pu_int)) (can_cons (hc2_) (can_nil)))))
  refine er [] [(4, .tup [], some h3)] ⟨.rs ad0 0 data0.length 1 :: .int .i64 n0 :: .fn g2_ cap2_ :: .int .i64 (20 : Int) :: Ay7 [], [], h3⟩ ((True) ∧ callO cf (.fn 119 []) [.rs ad0 0 data0.length 1, .int .i64 a1, .int .i64 n0, .fn g2_ cap2_] h2 = some (.tup [], h3) ∧ True) (by kernel_rfl) ⟨trivial, ⟨callO_of (by kernel_rfl) e4, trivial⟩⟩ ?_
  refine ends_block ?_
  obtain ⟨out2, e10, H⟩ := bsi H
  refine ends_mono (stableC.l1_ok L ad0 g2_ cap2_ data0 n0 cmp0  hc2_ Hp2_ S120_ (σ := (x1, (20 : Int))) ⟨.any, .any, .any, .any, h3, rfl, o3⟩ e10) ?_
  rintro e s ⟨rfl, data6, blockSize1, rfl, g22, g23, g24, g25, g26, g27, g28, g29, h9, rfl, o9⟩
  try dsimp only at H
  have H := Option.some.inj H
  subst H
  exact ⟨.inr rfl, ⟨by kernel_rfl, o9⟩⟩
end
end Go.Proofs.YtmekcfdllhphlaaDoor

namespace Go.Proofs.YtmekcfdllhphlaaDoor
open Go Go.R
open Go.IntKind (i64 u64 u8 u32)
def ann84 : Ann := { keep := [0, 1], locs := [], dead := [(0, [0, 1])], frz := [], frz2 := [] }
noncomputable def g84R0 := sub [] (codeOf Tryd.f84)
theorem g84_eq : codeOf Tryd.f84 = g84R0 := by kernel_rfl
def SortStableFI.f (m : Nat) (x0 : List Int) (cmp0 : Int → Int → Option (Int)) : Option ((List Int)) := (stableC.f m x0 (x0.length : Int) cmp0).bind fun x1 => some x1
def SortStableFI.fin (L : Mem) (ad0 : Nat) (x0 : List Int) (cmp0 : Int → Int → Option (Int)) (r : (List Int)) (s : St) : Prop := resultA Tryd.prog (s.open ann84) Tryd.f84.results.toList = some (.tup []) ∧ Has s.h ((ad0, .sl x0.length 1 (eInt.l r)) :: L)
def S84 (cf : CallF) (m : Nat) : Prop := ∀ (x0 : List Int) (cmp0 : Int → Int → Option (Int)) (r : (List Int)), SortStableFI.f m x0 cmp0 = some r → ∀ h L (n_x0 : Nat) (ad0 : Nat), Has h ((ad0, .sl n_x0 1 (eInt.l x0)) :: L) → ∀ (g1_ : FuncId) (cap1_ : List AV), canonArg (.fn g1_ cap1_) = .fn g1_ cap1_ → (∀ h K, Has h (K ++ L) → ∀ (a0 : Int) (a1 : Int) r, cmp0 a0 a1 = some r → cf g1_ ([.int .i64 a0, .int .i64 a1] ++ cap1_) h = some (.int .i64 r, h)) → ∀ xs, xs.map canonArg = [.rs ad0 0 n_x0 1, .fn g1_ cap1_] → ∃ h', cf 84 xs h = some (.tup [], h') ∧ Has h' ((ad0, .sl n_x0 1 (eInt.l r)) :: L)
section
variable {cf : CallF} {m : Nat}
theorem SortStableFI_body {ann : FuncId → Ann} (ha : ann 84 = ann84) (S110_ : S110 cf m) (x0 : List Int) (cmp0 : Int → Int → Option (Int)) (h : AHeap) (L : Mem) (ad0 : Nat) (g1_ : FuncId) (cap1_ : List AV)  (hc1_ : canonArg (.fn g1_ cap1_) = .fn g1_ cap1_) (Hp1_ : ∀ h K, Has h (K ++ L) → ∀ (a0 : Int) (a1 : Int) r, cmp0 a0 a1 = some r → cf g1_ ([.int .i64 a0, .int .i64 a1] ++ cap1_) h = some (.int .i64 r, h)) (o : Has h ((ad0, .sl x0.length 1 (eInt.l x0)) :: L)) {out : (List Int)} (H : SortStableFI.f m x0 cmp0 = some out) :
    ∃ r h', bodyA Tryd.prog ann cf m 84 [.rs ad0 0 x0.length 1, .fn g1_ cap1_] h = some (r, h') ∧ r = .tup [] ∧ Has h' ((ad0, .sl x0.length 1 (eInt.l out)) :: L) := by
  refine body_of_ends2 (fn := Tryd.f84) ha Tryd.func84 (by kernel_rfl) (by kernel_rfl) ?_
  refine ends_fin (Q := fun s => SortStableFI.fin L ad0 x0 cmp0 out s) (fun _ _ ⟨h1, h2, h3⟩ => ⟨h1, _, h2, rfl, h3⟩) ?_
  refine ends_of_eq g84_eq ?_
  have H : _ = some out := H
  unfold SortStableFI.f at H
  show Enz _ cf ann84 m _ ⟨[.rs ad0 0 x0.length 1, .fn g1_ cap1_], [], h⟩ _
  obtain ⟨x1, e0, H⟩ := bsi H
  obtain ⟨h0, e1, o0⟩ := S110_ _ _ _ _ e0 h _ _ _ (o) g1_ cap1_ hc1_ (fun h' K' o' => Hp1_ h' (K' ++ []) (by simpa only [List.append_assoc, List.cons_append, List.nil_append] using o')) [.rs ad0 0 x0.length 1, .int .i64 (x0.length : Int), .fn g1_ cap1_] (can_cons (rfl) (can_cons (can_pure (pu_int)) (can_cons (hc1_) (can_nil))))
  refine er [] [(4, .tup [], some h0)] ⟨[.any, .any], [], h0⟩ ((True) ∧ callO cf (.fn 110 []) [.rs ad0 0 x0.length 1, .int .i64 (x0.length : Int), .fn g1_ cap1_] h = some (.tup [], h0) ∧ True) (by kernel_rfl) ⟨trivial, ⟨callO_of (by kernel_rfl) e1, trivial⟩⟩ ?_
  have H := Option.some.inj H
  subst H
  exact ⟨.inr rfl, ⟨by kernel_rfl, o0⟩⟩
end
end Go.Proofs.YtmekcfdllhphlaaDoor

namespace Go.Proofs.YtmekcfdllhphlaaDoor
open Go Go.R
open Go.IntKind (i64 u64 u8 u32)
section
variable {m : Nat} {cmp : Int → Int → Option Int} {c : Int → Int → Int}
def Blks (c : Int → Int → Int) (d : List Int) (bs n : Nat) : Prop := ∀ k i j, k * bs ≤ i → i < j → j < k * bs + bs → j < n → 0 ≤ c (gt d j) (gt d i)
theorem stb_l0 (hm : 2 ^ 41 ≤ m) {n : Nat} {l : List Int} (hn : n = l.length) (hs : l.length < 2 ^ 40) (C : Cm cmp c l) : ∀ (f t : Nat) (d : List Int), n - 20 * t < f → 20 * t ≤ n → Mv 0 (20 * t) l d →
    (Ord c l → ∀ k, k < t → Sg c d (20 * k) (20 * k + 20)) →
    ∃ d' t' y, stableC.l0 m (n : Int) cmp f d ((20 * t : Nat) : Int) ((20 * t + 20 : Nat) : Int) = some (d', ((20 * t' : Nat) : Int), y) ∧ 20 * t' ≤ n ∧ n < 20 * t' + 20 ∧ Mv 0 (20 * t') l d' ∧ (Ord c l → ∀ k, k < t' → Sg c d' (20 * k) (20 * k + 20))
  | 0, t, d, hf, _, _, _ => absurd hf (by omega)
  | f + 1, t, d, hf, h1, M, S => by
    have p40 : (2 : Nat) ^ 40 = 1099511627776 := by decide
    have p41 : (2 : Nat) ^ 41 = 2199023255552 := by decide
    have hl := M.length
    unfold stableC.l0
    by_cases h : 20 * t + 20 ≤ n
    · obtain ⟨d1, e1, M1, S1⟩ := ins_spec (a := 20 * t) (b := 20 * t + 20) (cmp := cmp) (c := c) hm (l := d) (by omega) (by omega) (by omega) (C.perm M.perm)
      rw [if_pos (by simp only [decide_eq_true_eq]; omega), e1, Option.bind_some, i64_id (x := ((20 * t + 20 : Nat) : Int) + 20) (by omega) (by omega)]
      have := stb_l0 hm hn hs C f (t + 1) d1 (by omega) (by omega) ((M.wide (Nat.le_refl _) (by omega)).trans (M1.wide (by omega) (by omega))) (fun O k hk i j k1 k2 k3 => by
        by_cases hkt : k = t
        · subst hkt; exact S1 (O.perm M.perm) _ _ k1 k2 k3
        · rw [M1.out i (by omega), M1.out j (by omega)]; exact S O k (by omega) _ _ k1 k2 k3)
      rw [show ((20 * (t + 1) : Nat) : Int) = ((20 * t + 20 : Nat) : Int) by omega, show ((20 * (t + 1) + 20 : Nat) : Int) = ((20 * t + 20 : Nat) : Int) + 20 by omega] at this
      exact this
    · exact ⟨d, t, _, by rw [if_neg (by simp only [decide_eq_true_eq]; omega)], h1, by omega, M, S⟩
theorem stb_l2 (hm : 2 ^ 41 ≤ m) {n bs : Nat} {l : List Int} (hn : n = l.length) (hs : l.length < 2 ^ 40) (hb : 0 < bs) (hbn : bs < n) (C : Cm cmp c l) (B : Ord c l → Blks c l bs n) : ∀ (f t : Nat) (d : List Int), n - t * (2 * bs) < f → t * (2 * bs) ≤ n → Mv 0 (t * (2 * bs)) l d →
    (Ord c l → ∀ k, k < t → Sg c d (k * (2 * bs)) (k * (2 * bs) + 2 * bs)) →
    ∃ d' t' y, stableC.l2 m (n : Int) cmp (bs : Int) f d ((t * (2 * bs) : Nat) : Int) ((t * (2 * bs) + 2 * bs : Nat) : Int) = some (d', ((t' * (2 * bs) : Nat) : Int), y) ∧ t' * (2 * bs) ≤ n ∧ n < t' * (2 * bs) + 2 * bs ∧ Mv 0 (t' * (2 * bs)) l d' ∧ (Ord c l → ∀ k, k < t' → Sg c d' (k * (2 * bs)) (k * (2 * bs) + 2 * bs))
  | 0, t, d, hf, _, _, _ => absurd hf (by omega)
  | f + 1, t, d, hf, h1, M, S => by
    have p40 : (2 : Nat) ^ 40 = 1099511627776 := by decide
    have p41 : (2 : Nat) ^ 41 = 2199023255552 := by decide
    have hl := M.length
    unfold stableC.l2
    have ht : (t + 1) * (2 * bs) = t * (2 * bs) + 2 * bs := Nat.succ_mul _ _
    have q1 : (2 * t) * bs = t * (2 * bs) := by rw [Nat.mul_assoc, Nat.mul_left_comm]
    have q2 : (2 * t + 1) * bs = t * (2 * bs) + bs := by rw [Nat.succ_mul, q1]
    by_cases h : t * (2 * bs) + 2 * bs ≤ n
    · have S0 : Ord c l → Sg c d (t * (2 * bs)) (t * (2 * bs) + bs) := fun O i j k1 k2 k3 => by
        rw [M.out i (by omega), M.out j (by omega)]; exact B O (2 * t) i j (by omega) k2 (by omega) (by omega)
      have S0' : Ord c l → Sg c d (t * (2 * bs) + bs) (t * (2 * bs) + 2 * bs) := fun O i j k1 k2 k3 => by
        rw [M.out i (by omega), M.out j (by omega)]; exact B O (2 * t + 1) i j (by omega) k2 (by omega) (by omega)
      have hk : ∀ k, k < t → k * (2 * bs) + 2 * bs ≤ t * (2 * bs) := fun k hk => by
        rw [← Nat.succ_mul]; exact Nat.mul_le_mul_right _ hk
      generalize hA : t * (2 * bs) = A at *
      obtain ⟨d1, e1, M1, S1⟩ := sym_spec (cmp := cmp) (c := c) hm m d A (A + bs) (A + 2 * bs) (by omega) (by omega) (by omega) (by omega) (by omega) (C.perm M.perm)
      have e0 : i64.wrap ((A : Int) + (bs : Int)) = ((A + bs : Nat) : Int) := by rw [i64_id (by omega) (by omega)]; omega
      have e2 : i64.wrap ((2 : Int) * (bs : Int)) = ((2 * bs : Nat) : Int) := by rw [i64_id (by omega) (by omega)]; omega
      have e3 : i64.wrap (((A + 2 * bs : Nat) : Int) + ((2 * bs : Nat) : Int)) = ((A + 2 * bs + 2 * bs : Nat) : Int) := by rw [i64_id (by omega) (by omega)]; omega
      rw [if_pos (by simp only [decide_eq_true_eq]; omega), e0, e1, Option.bind_some, e2, e3]
      have := stb_l2 hm hn hs hb hbn C B f (t + 1) d1 (by omega) (by omega) (by rw [ht]; exact (M.wide (Nat.le_refl _) (by omega)).trans (M1.wide (by omega) (by omega))) (fun O k hk2 i j k1 k2 k3 => by
        by_cases hkt : k = t
        · subst hkt; rw [hA] at k1 k3; exact S1 (O.perm M.perm) (S0 O) (S0' O) _ _ k1 k2 k3
        · have := hk k (by omega)
          rw [M1.out i (by omega), M1.out j (by omega)]; exact S O k (by omega) _ _ k1 k2 k3)
      rw [ht] at this
      exact this
    · exact ⟨d, t, _, by rw [if_neg (by simp only [decide_eq_true_eq]; omega)], h1, by omega, M, S⟩
theorem stb_l1 (hm : 2 ^ 41 ≤ m) {n : Nat} : ∀ (f bs : Nat) (l : List Int), n = l.length → l.length < 2 ^ 40 → Cm cmp c l → n - bs < f → 0 < bs → bs < 2 ^ 42 → (Ord c l → Blks c l bs n) →
    ∃ d y, stableC.l1 m (n : Int) cmp f l (bs : Int) = some (d, y) ∧ d.Perm l ∧ (Ord c l → Sg c d 0 n)
  | 0, bs, l, _, _, _, hf, _, _, _ => absurd hf (by omega)
  | f + 1, bs, l, hn, hs, C, hf, hb, hb2, B => by
    have p40 : (2 : Nat) ^ 40 = 1099511627776 := by decide
    have p41 : (2 : Nat) ^ 41 = 2199023255552 := by decide
    have p42 : (2 : Nat) ^ 42 = 4398046511104 := by decide
    unfold stableC.l1
    by_cases h : bs < n
    · have e2 : i64.wrap ((2 : Int) * (bs : Int)) = ((2 * bs : Nat) : Int) := by rw [i64_id (by omega) (by omega)]; omega
      have e3 : i64.wrap ((bs : Int) * (2 : Int)) = ((2 * bs : Nat) : Int) := by rw [i64_id (by omega) (by omega)]; omega
      obtain ⟨d1, t, y, k1, k2, k3, M1, S1⟩ := stb_l2 (cmp := cmp) (c := c) hm hn hs hb h C B m 0 l (by omega) (by omega) Mv.refl (fun O k hk => absurd hk (by omega))
      have l1 := M1.length
      simp only [Nat.zero_mul, Nat.zero_add] at k1
      have k1 : stableC.l2 m (n : Int) cmp (bs : Int) m l (0 : Int) ((2 * bs : Nat) : Int) = _ := k1
      rw [if_pos (by simp only [decide_eq_true_eq]; omega), e2, k1, Option.bind_some]
      dsimp only
      rw [e3]
      have q1 : (2 * t) * bs = t * (2 * bs) := by rw [Nat.mul_assoc, Nat.mul_left_comm]
      have q2 : (2 * t + 1) * bs = t * (2 * bs) + bs := by rw [Nat.succ_mul, q1]
      have hk : ∀ k, k < t → k * (2 * bs) + 2 * bs ≤ t * (2 * bs) := fun k hk => by
        rw [← Nat.succ_mul]; exact Nat.mul_le_mul_right _ hk
      have hk2 : ∀ k, t < k → t * (2 * bs) + 2 * bs ≤ k * (2 * bs) := fun k hk => by
        rw [← Nat.succ_mul]; exact Nat.mul_le_mul_right _ hk
      have e0 : i64.wrap (((t * (2 * bs) : Nat) : Int) + (bs : Int)) = ((t * (2 * bs) + bs : Nat) : Int) := by rw [i64_id (by omega) (by omega)]; omega
      rw [e0]
      by_cases h2 : t * (2 * bs) + bs < n
      · obtain ⟨d2, e4, M2, S2⟩ := sym_spec (cmp := cmp) (c := c) hm m d1 (t * (2 * bs)) (t * (2 * bs) + bs) n (by omega) (by omega) (by omega) (by omega) (by omega) (C.perm M1.perm)
        rw [if_pos (by simp only [decide_eq_true_eq]; omega), e4, Option.bind_some]
        have P2 := M2.perm.trans M1.perm
        obtain ⟨d, y, g1, g2, g3⟩ := stb_l1 (n := n) hm f (2 * bs) d2 (by have := P2.length_eq; omega) (by have := P2.length_eq; omega) (C.perm P2) (by omega) (by omega) (by omega) (fun O k i j w1 w2 w3 w4 => by
          have O := O.perm P2.symm
          by_cases u1 : k < t
          · have := hk k u1
            rw [M2.out i (by omega), M2.out j (by omega)]; exact S1 O k u1 _ _ w1 w2 w3
          · by_cases u2 : k = t
            · subst u2
              refine S2 (O.perm M1.perm) (fun i j x1 x2 x3 => ?_) (fun i j x1 x2 x3 => ?_) _ _ w1 w2 w4
              · rw [M1.out i (by omega), M1.out j (by omega)]; exact B O (2 * k) i j (by omega) x2 (by omega) (by omega)
              · rw [M1.out i (by omega), M1.out j (by omega)]; exact B O (2 * k + 1) i j (by omega) x2 (by omega) (by omega)
            · have := hk2 k (by omega); omega)
        exact ⟨d, y, g1, g2.trans P2, fun O => g3 (O.perm P2)⟩
      · rw [if_neg (by simp only [decide_eq_true_eq]; omega)]
        have P2 := M1.perm
        obtain ⟨d, y, g1, g2, g3⟩ := stb_l1 (n := n) hm f (2 * bs) d1 (by have := P2.length_eq; omega) (by have := P2.length_eq; omega) (C.perm P2) (by omega) (by omega) (by omega) (fun O k i j w1 w2 w3 w4 => by
          have O := O.perm P2.symm
          by_cases u1 : k < t
          · exact S1 O k u1 _ _ w1 w2 w3
          · by_cases u2 : k = t
            · subst u2
              rw [M1.out i (by omega), M1.out j (by omega)]; exact B O (2 * k) i j (by omega) w2 (by omega) (by omega)
            · have := hk2 k (by omega); omega)
        exact ⟨d, y, g1, g2.trans P2, fun O => g3 (O.perm P2)⟩
    · refine ⟨l, bs, by rw [if_neg (by simp only [decide_eq_true_eq]; omega)], List.Perm.refl _, fun O i j w1 w2 w3 => B O 0 i j (by omega) w2 (by omega) w3⟩
theorem sort_spec (hm : 2 ^ 41 ≤ m) {l : List Int} (hs : l.length < 2 ^ 40) (C : Cm cmp c l) : ∃ d, SortStableFI.f m l cmp = some d ∧ d.Perm l ∧ (Ord c l → Sg c d 0 l.length) := by
  have p40 : (2 : Nat) ^ 40 = 1099511627776 := by decide
  have p41 : (2 : Nat) ^ 41 = 2199023255552 := by decide
  have p42 : (2 : Nat) ^ 42 = 4398046511104 := by decide
  unfold SortStableFI.f stableC.f
  obtain ⟨d1, t, y, k1, k2, k3, M1, S1⟩ := stb_l0 (cmp := cmp) (c := c) hm rfl hs C m 0 l (by omega) (by omega) Mv.refl (fun O k hk => absurd hk (by omega))
  have k1 : stableC.l0 m (l.length : Int) cmp m l (0 : Int) (20 : Int) = _ := k1
  have l1 := M1.length
  rw [k1, Option.bind_some]
  dsimp only
  obtain ⟨d2, e2, M2, S2⟩ := ins_spec (a := 20 * t) (b := l.length) (cmp := cmp) (c := c) hm (l := d1) (by omega) (by omega) (by omega) (C.perm M1.perm)
  rw [e2, Option.bind_some]
  have P2 := M2.perm.trans M1.perm
  obtain ⟨d, y, g1, g2, g3⟩ := stb_l1 (cmp := cmp) (c := c) (n := l.length) hm m 20 d2 P2.length_eq.symm (by rw [P2.length_eq]; exact hs) (C.perm P2) (by omega) (by omega) (by omega) (fun O k i j w1 w2 w3 w4 => by
    have O := O.perm P2.symm
    by_cases u1 : k < t
    · rw [M2.out i (by omega), M2.out j (by omega)]; exact S1 O k u1 _ _ (by omega) w2 (by omega)
    · exact S2 (O.perm M1.perm) _ _ (by omega) w2 (by omega))
  have g1 : stableC.l1 m (l.length : Int) cmp m d2 (20 : Int) = _ := g1
  rw [g1]
  exact ⟨d, rfl, g2.trans P2, fun O => g3 (O.perm P2)⟩
end
end Go.Proofs.YtmekcfdllhphlaaDoor

namespace Go.Proofs.YtmekcfdllhphlaaDoor
open Go Go.R
open Go.IntKind (i64 u64 u8 u32)
def ann61 : Ann := { keep := [0, 1, 2, 3], locs := [2], dead := [(0, [0, 3]), (1, [0, 1, 2])], frz := [], frz2 := [] }
noncomputable def g61R0 := sub [0] (codeOf Tryd.f61)
noncomputable def g61R1 := sub [1, 0] (codeOf Tryd.f61)
theorem g61_eq : codeOf Tryd.f61 = (.seq g61R0 (.seq g61R1 .ret)) := by kernel_rfl
def tree_Valid_1.f (m : Nat) (n0 : VNode) (x0 : VTree) : Option (Bool) := (tree_node.f m n0 (x0.nodes.length : Int)).bind fun x1 => some (!x1)
def tree_Valid_1.fin (h : AHeap) (r : Bool) (s : St) : Prop := resultA Tryd.prog (s.open ann61) Tryd.f61.results.toList = some (.bool r) ∧ s.h = h
def S61 (cf : CallF) (m : Nat) : Prop := ∀ (n0 : VNode) (x0 : VTree) (r : Bool), tree_Valid_1.f m n0 x0 = some r → ∀ h L (qad_x0_ ad_x0 : Nat), Has h L → L[qad_x0_]? = some (ad_x0, .ob [eNode.fz x0.nodes, .int .i64 x0.root]) → cf 61 [.agg [.int .i64 n0.kind, .int .i64 n0.int, .str n0.label, eInt.fz n0.args], .ptr ad_x0 0] h = some (.bool r, h)
section
variable {cf : CallF} {m : Nat}
theorem tree_Valid_1_body {ann : FuncId → Ann} (ha : ann 61 = ann61) (S62_ : S62 cf m) (n0 : VNode) (x0 : VTree) (h : AHeap) (L : Mem)  {qad_x0_ ad_x0 : Nat} (hqad_x0_ : L[qad_x0_]? = some (ad_x0, .ob [eNode.fz x0.nodes, .int .i64 x0.root])) (o : Has h (L)) {out : Bool} (H : tree_Valid_1.f m n0 x0 = some out) :
    ∃ r h', bodyA Tryd.prog ann cf m 61 [.agg [.int .i64 n0.kind, .int .i64 n0.int, .str n0.label, eInt.fz n0.args], .ptr ad_x0 0] h = some (r, h') ∧ r = (.bool out) ∧ h' = h := by
  refine body_of_ends2 (fn := Tryd.f61) ha Tryd.func61 (by kernel_rfl) (by kernel_rfl) ?_
  refine ends_fin (Q := fun s => tree_Valid_1.fin h out s) (fun _ _ ⟨h1, h2, h3⟩ => ⟨h1, _, h2, rfl, h3⟩) ?_
  refine ends_of_eq g61_eq ?_
  have H : _ = some out := H
  unfold tree_Valid_1.f at H
  show Enz _ cf ann61 m _ ⟨[.agg [.int .i64 n0.kind, .int .i64 n0.int, .str n0.label, eInt.fz n0.args], .ptr ad_x0 0, .any, .any], [none], h⟩ _
  refine sr [] [] ⟨[.any, .ptr ad_x0 0, .lp 2 0, .any], [some [.int .i64 n0.kind, .int .i64 n0.int, .str n0.label, eInt.fz n0.args]], h⟩ ((True) ∧ True) (by kernel_rfl) ⟨trivial, trivial⟩ ?_
  refine ends_seq ?_
  obtain ⟨x1, e0, H⟩ := bsi H
  refine er [] [(2, eNode.fz x0.nodes, none), (4, .bool x1, some h)] ⟨Ay3 [.bool (!x1)], [none], h⟩ ((True) ∧ loadH Tryd.prog h 29 (.ptr ad_x0 0) = some (eNode.fz x0.nodes) ∧ callO cf (.fn 62 []) [.agg [.int .i64 n0.kind, .int .i64 n0.int, .str n0.label, eInt.fz n0.args], .int .i64 (x0.nodes.length : Int)] h = some (.bool x1, h) ∧ True) (by kernel_rfl) ⟨trivial, ⟨ld_ob (q := qad_x0_) (cs := [eNode.fz x0.nodes, .int .i64 x0.root]) o hqad_x0_ (by kernel_rfl), callO_of (by kernel_rfl) (S62_ _ _ _ e0 _ _ (frs (fr_cons (fr_agg (fr_cons (fr_int) (fr_cons (fr_int) (fr_cons (fr_str) (fr_cons (fr_fz (E := eInt)) (fr_nil)))))) (fr_cons (fr_int) (fr_nil))))), trivial⟩⟩ ?_
  refine ends_ret ?_
  have H := Option.some.inj H
  subst H
  exact ⟨.inl rfl, ⟨by kernel_rfl, rfl⟩⟩
end
end Go.Proofs.YtmekcfdllhphlaaDoor

namespace Go.Proofs.YtmekcfdllhphlaaDoor
open Go Go.R
open Go.IntKind (i64 u64 u8 u32)
def ann45 : Ann := { keep := [0, 1, 2], locs := [], dead := [(0, [0, 2]), (1, [0, 1])], frz := [], frz2 := [] }
noncomputable def g45R0 := sub [0] (codeOf Tryd.f45)
noncomputable def g45R1 := sub [1, 0] (codeOf Tryd.f45)
theorem g45_eq : codeOf Tryd.f45 = (.seq g45R0 (.seq g45R1 .ret)) := by kernel_rfl
def tree_Valid.f (m : Nat) (t0 : VTree) : Option (Bool) := if (decide ((t0.nodes.length : Int) ≥ (1 : Int))) = true then (if (decide ((t0.nodes.length : Int) ≤ (8000 : Int))) = true then (if (decide (t0.root ≥ (0 : Int))) = true then (if (decide (t0.root < (t0.nodes.length : Int))) = true then ((ContainsFN.f m t0.nodes (fun y0 => tree_Valid_1.f m y0 t0)).bind fun x0 => some (!x0)) else (some false)) else (some false)) else (some false)) else (some false)
def tree_Valid.fin (L : Mem) (r : Bool) (s : St) : Prop := ∃ av, resultA Tryd.prog (s.open ann45) Tryd.f45.results.toList = some av ∧ Frb s.h av (.bool r)
def S45 (cf : CallF) (m : Nat) : Prop := ∀ (t0 : VTree) (r : Bool), tree_Valid.f m t0 = some r → ∀ h xs, FrzS 1000 h xs [.agg [eNode.fz t0.nodes, .int .i64 t0.root]] → cf 45 xs h = some (.bool r, h)
section
variable {cf : CallF} {m : Nat}
theorem tree_Valid_body {ann : FuncId → Ann} (ha : ann 45 = ann45) (S34_ : S34 cf m) (S61_ : S61 cf m) (t0 : VTree) (h : AHeap) (L : Mem)  (o : Has h (L)) {out : Bool} (H : tree_Valid.f m t0 = some out) :
    ∃ r h', bodyA Tryd.prog ann cf m 45 [.agg [eNode.fz t0.nodes, .int .i64 t0.root]] h = some (r, h') ∧ Frb h' r (.bool out) := by
  refine body_of_ends2 (fn := Tryd.f45) ha Tryd.func45 (by kernel_rfl) (by kernel_rfl) ?_
  refine ends_fin (Q := fun s => tree_Valid.fin L out s) (fun _ _ h => h) ?_
  refine ends_of_eq g45_eq ?_
  have H : _ = some out := H
  unfold tree_Valid.f at H
  show Enz _ cf ann45 m _ ⟨[.agg [eNode.fz t0.nodes, .int .i64 t0.root], .any, .any], [], h⟩ _
  refine ends_seq ?_
  obtain ⟨ad0, h0, e0, o0⟩ := bx_new (cs := [eNode.fz t0.nodes, .int .i64 t0.root]) o (by kernel_rfl)
  refine er [] [(0, .ptr ad0 0, some h0)] ⟨[.any, .ptr ad0 0, .any], [], h0⟩ ((True) ∧ boxH h [eNode.fz t0.nodes, .int .i64 t0.root] = some (.ptr ad0 0, h0) ∧ True) (by kernel_rfl) ⟨trivial, ⟨e0, trivial⟩⟩ ?_
  refine ends_seq ?_
  rcases bft (decide ((t0.nodes.length : Int) ≥ (1 : Int))) with c0 | c0
  · have H := ifp c0 H
    rcases bft (decide ((t0.nodes.length : Int) ≤ (8000 : Int))) with c1 | c1
    · have H := ifp c1 H
      rcases bft (decide (t0.root ≥ (0 : Int))) with c2 | c2
      · have H := ifp c2 H
        rcases bft (decide (t0.root < (t0.nodes.length : Int))) with c3 | c3
        · have H := ifp c3 H
          obtain ⟨x0, e1, H⟩ := bsi H
          refine er [] [(1, eNode.fz t0.nodes, none), (4, .bool true, none), (6, eNode.fz t0.nodes, none), (10, .bool true, none), (12, .int .i64 t0.root, none), (15, .bool true, none), (17, .int .i64 t0.root, none), (19, eNode.fz t0.nodes, none), (23, .bool true, none), (25, eNode.fz t0.nodes, none), (27, .bool x0, some h0)] ⟨[.any, .any, .bool (!x0)], [], h0⟩ ((True) ∧ loadH Tryd.prog h0 29 (.ptr ad0 0) = some (eNode.fz t0.nodes) ∧ AV.bool (decide ((t0.nodes.length : Int) ≥ (1 : Int))) = AV.bool true ∧ loadH Tryd.prog h0 29 (.ptr ad0 0) = some (eNode.fz t0.nodes) ∧ AV.bool (decide ((t0.nodes.length : Int) ≤ (8000 : Int))) = AV.bool true ∧ loadH Tryd.prog h0 3 (.ptr ad0 1) = some (.int .i64 t0.root) ∧ AV.bool (decide (t0.root ≥ (0 : Int))) = AV.bool true ∧ loadH Tryd.prog h0 3 (.ptr ad0 1) = some (.int .i64 t0.root) ∧ loadH Tryd.prog h0 29 (.ptr ad0 0) = some (eNode.fz t0.nodes) ∧ AV.bool (decide (t0.root < (t0.nodes.length : Int))) = AV.bool true ∧ loadH Tryd.prog h0 29 (.ptr ad0 0) = some (eNode.fz t0.nodes) ∧ callO cf (.fn 34 []) [eNode.fz t0.nodes, .fn 61 [.ptr ad0 0]] h0 = some (.bool x0, h0) ∧ True) (by kernel_rfl) ⟨trivial, ⟨ld_ob (q := 0) (cs := [eNode.fz t0.nodes, .int .i64 t0.root]) o0 rfl (by kernel_rfl), congrArg AV.bool c0, ld_ob (q := 0) (cs := [eNode.fz t0.nodes, .int .i64 t0.root]) o0 rfl (by kernel_rfl), congrArg AV.bool c1, ld_ob (q := 0) (cs := [eNode.fz t0.nodes, .int .i64 t0.root]) o0 rfl (by kernel_rfl), congrArg AV.bool c2, ld_ob (q := 0) (cs := [eNode.fz t0.nodes, .int .i64 t0.root]) o0 rfl (by kernel_rfl), ld_ob (q := 0) (cs := [eNode.fz t0.nodes, .int .i64 t0.root]) o0 rfl (by kernel_rfl), congrArg AV.bool c3, ld_ob (q := 0) (cs := [eNode.fz t0.nodes, .int .i64 t0.root]) o0 rfl (by kernel_rfl), callO_of (by kernel_rfl) (S34_ _ _ _ e1 h0 (Has.pos o0) 61 [.ptr ad0 0] rfl (fun y0 r hr => S61_ y0 _ r hr h0 _ 0 _ o0 rfl) _ (can_cons (can_pure (pu_fz (E := eNode))) (can_cons (rfl) (can_nil)))), trivial⟩⟩ ?_
          have o1 : Has h0 (L) := Has.del o0 0
          refine ends_ret ?_
          have H := Option.some.inj H
          subst H
          exact ⟨.inl rfl, ⟨.bool (!x0), by kernel_rfl, frb (fb_bool)⟩⟩
        · have H := ifn c3 H
          refine er [] [(1, eNode.fz t0.nodes, none), (4, .bool true, none), (6, eNode.fz t0.nodes, none), (10, .bool true, none), (12, .int .i64 t0.root, none), (15, .bool true, none), (17, .int .i64 t0.root, none), (19, eNode.fz t0.nodes, none), (23, .bool false, none)] ⟨[.any, .any, .bool false], [], h0⟩ ((True) ∧ loadH Tryd.prog h0 29 (.ptr ad0 0) = some (eNode.fz t0.nodes) ∧ AV.bool (decide ((t0.nodes.length : Int) ≥ (1 : Int))) = AV.bool true ∧ loadH Tryd.prog h0 29 (.ptr ad0 0) = some (eNode.fz t0.nodes) ∧ AV.bool (decide ((t0.nodes.length : Int) ≤ (8000 : Int))) = AV.bool true ∧ loadH Tryd.prog h0 3 (.ptr ad0 1) = some (.int .i64 t0.root) ∧ AV.bool (decide (t0.root ≥ (0 : Int))) = AV.bool true ∧ loadH Tryd.prog h0 3 (.ptr ad0 1) = some (.int .i64 t0.root) ∧ loadH Tryd.prog h0 29 (.ptr ad0 0) = some (eNode.fz t0.nodes) ∧ AV.bool (decide (t0.root < (t0.nodes.length : Int))) = AV.bool false ∧ True) (by kernel_rfl) ⟨trivial, ⟨ld_ob (q := 0) (cs := [eNode.fz t0.nodes, .int .i64 t0.root]) o0 rfl (by kernel_rfl), congrArg AV.bool c0, ld_ob (q := 0) (cs := [eNode.fz t0.nodes, .int .i64 t0.root]) o0 rfl (by kernel_rfl), congrArg AV.bool c1, ld_ob (q := 0) (cs := [eNode.fz t0.nodes, .int .i64 t0.root]) o0 rfl (by kernel_rfl), congrArg AV.bool c2, ld_ob (q := 0) (cs := [eNode.fz t0.nodes, .int .i64 t0.root]) o0 rfl (by kernel_rfl), ld_ob (q := 0) (cs := [eNode.fz t0.nodes, .int .i64 t0.root]) o0 rfl (by kernel_rfl), congrArg AV.bool c3, trivial⟩⟩ ?_
          have o2 : Has h0 (L) := Has.del o0 0
          refine ends_ret ?_
          have H := Option.some.inj H
          subst H
          exact ⟨.inl rfl, ⟨.bool false, by kernel_rfl, frb (fb_bool)⟩⟩
      · have H := ifn c2 H
        refine er [] [(1, eNode.fz t0.nodes, none), (4, .bool true, none), (6, eNode.fz t0.nodes, none), (10, .bool true, none), (12, .int .i64 t0.root, none), (15, .bool false, none)] ⟨[.any, .any, .bool false], [], h0⟩ ((True) ∧ loadH Tryd.prog h0 29 (.ptr ad0 0) = some (eNode.fz t0.nodes) ∧ AV.bool (decide ((t0.nodes.length : Int) ≥ (1 : Int))) = AV.bool true ∧ loadH Tryd.prog h0 29 (.ptr ad0 0) = some (eNode.fz t0.nodes) ∧ AV.bool (decide ((t0.nodes.length : Int) ≤ (8000 : Int))) = AV.bool true ∧ loadH Tryd.prog h0 3 (.ptr ad0 1) = some (.int .i64 t0.root) ∧ AV.bool (decide (t0.root ≥ (0 : Int))) = AV.bool false ∧ True) (by kernel_rfl) ⟨trivial, ⟨ld_ob (q := 0) (cs := [eNode.fz t0.nodes, .int .i64 t0.root]) o0 rfl (by kernel_rfl), congrArg AV.bool c0, ld_ob (q := 0) (cs := [eNode.fz t0.nodes, .int .i64 t0.root]) o0 rfl (by kernel_rfl), congrArg AV.bool c1, ld_ob (q := 0) (cs := [eNode.fz t0.nodes, .int .i64 t0.root]) o0 rfl (by kernel_rfl), congrArg AV.bool c2, trivial⟩⟩ ?_
        have o3 : Has h0 (L) := Has.del o0 0
        refine ends_ret ?_
        have H := Option.some.inj H
        subst H
        exact ⟨.inl rfl, ⟨.bool false, by kernel_rfl, frb (fb_bool)⟩⟩
    · have H := ifn c1 H
      refine er [] [(1, eNode.fz t0.nodes, none), (4, .bool true, none), (6, eNode.fz t0.nodes, none), (10, .bool false, none)] ⟨[.any, .any, .bool false], [], h0⟩ ((True) ∧ loadH Tryd.prog h0 29 (.ptr ad0 0) = some (eNode.fz t0.nodes) ∧ AV.bool (decide ((t0.nodes.length : Int) ≥ (1 : Int))) = AV.bool true ∧ loadH Tryd.prog h0 29 (.ptr ad0 0) = some (eNode.fz t0.nodes) ∧ AV.bool (decide ((t0.nodes.length : Int) ≤ (8000 : Int))) = AV.bool false ∧ True) (by kernel_rfl) ⟨trivial, ⟨ld_ob (q := 0) (cs := [eNode.fz t0.nodes, .int .i64 t0.root]) o0 rfl (by kernel_rfl), congrArg AV.bool c0, ld_ob (q := 0) (cs := [eNode.fz t0.nodes, .int .i64 t0.root]) o0 rfl (by kernel_rfl), congrArg AV.bool c1, trivial⟩⟩ ?_
      have o4 : Has h0 (L) := Has.del o0 0
      refine ends_ret ?_
      have H := Option.some.inj H
      subst H
      exact ⟨.inl rfl, ⟨.bool false, by kernel_rfl, frb (fb_bool)⟩⟩
  · have H := ifn c0 H
    refine er [] [(1, eNode.fz t0.nodes, none), (4, .bool false, none)] ⟨[.any, .any, .bool false], [], h0⟩ ((True) ∧ loadH Tryd.prog h0 29 (.ptr ad0 0) = some (eNode.fz t0.nodes) ∧ AV.bool (decide ((t0.nodes.length : Int) ≥ (1 : Int))) = AV.bool false ∧ True) (by kernel_rfl) ⟨trivial, ⟨ld_ob (q := 0) (cs := [eNode.fz t0.nodes, .int .i64 t0.root]) o0 rfl (by kernel_rfl), congrArg AV.bool c0, trivial⟩⟩ ?_
    have o5 : Has h0 (L) := Has.del o0 0
    refine ends_ret ?_
    have H := Option.some.inj H
    subst H
    exact ⟨.inl rfl, ⟨.bool false, by kernel_rfl, frb (fb_bool)⟩⟩
end
end Go.Proofs.YtmekcfdllhphlaaDoor

namespace Go.Proofs.YtmekcfdllhphlaaDoor
open Go Go.R
open Go.IntKind (i64 u64 u8 u32)
def ann108 : Ann := { keep := [0, 2], locs := [], dead := [(0, [2]), (1, [0])], frz := [], frz2 := [] }
noncomputable def g108R0 := sub [0] (codeOf Tryd.f108)
noncomputable def g108R1 := sub [1, 0] (codeOf Tryd.f108)
theorem g108_eq : codeOf Tryd.f108 = (.seq g108R0 (.seq g108R1 .ret)) := by kernel_rfl
def cmp_isNaN_int.f (m : Nat) (x0 : Int) : Option (Bool) := some (!(x0 == x0))
def cmp_isNaN_int.fin (L : Mem) (r : Bool) (s : St) : Prop := ∃ av, resultA Tryd.prog (s.open ann108) Tryd.f108.results.toList = some av ∧ Frb s.h av (.bool r)
def S108 (cf : CallF) (m : Nat) : Prop := ∀ (x0 : Int) (r : Bool), cmp_isNaN_int.f m x0 = some r → ∀ h xs, FrzS 1000 h xs [.int .i64 x0] → cf 108 xs h = some (.bool r, h)
section
variable {cf : CallF} {m : Nat}
theorem cmp_isNaN_int_body {ann : FuncId → Ann} (ha : ann 108 = ann108)  (x0 : Int) (h : AHeap) (L : Mem)  (o : Has h (L)) {out : Bool} (H : cmp_isNaN_int.f m x0 = some out) :
    ∃ r h', bodyA Tryd.prog ann cf m 108 [.int .i64 x0] h = some (r, h') ∧ Frb h' r (.bool out) := by
  refine body_of_ends2 (fn := Tryd.f108) ha Tryd.func108 (by kernel_rfl) (by kernel_rfl) ?_
  refine ends_fin (Q := fun s => cmp_isNaN_int.fin L out s) (fun _ _ h => h) ?_
  refine ends_of_eq g108_eq ?_
  have H : _ = some out := H
  unfold cmp_isNaN_int.f at H
  show Enz _ cf ann108 m _ ⟨[.int .i64 x0, .any], [], h⟩ _
  refine sr [] [] ⟨[.int .i64 x0, .any], [], h⟩ ((True) ∧ True) (by kernel_rfl) ⟨trivial, trivial⟩ ?_
  refine sr [] [] ⟨[.any, .bool (!(x0 == x0))], [], h⟩ ((True) ∧ True) (by kernel_rfl) ⟨trivial, trivial⟩ ?_
  refine ends_ret ?_
  have H := Option.some.inj H
  subst H
  exact ⟨.inl rfl, ⟨.bool (!(x0 == x0)), by kernel_rfl, frb (fb_bool)⟩⟩
end
end Go.Proofs.YtmekcfdllhphlaaDoor

namespace Go.Proofs.YtmekcfdllhphlaaDoor
open Go Go.R
open Go.IntKind (i64 u64 u8 u32)
def ann81 : Ann := { keep := [0, 1, 4, 5, 6, 11, 12, 13, 16, 19], locs := [], dead := [(0, [4, 5, 6, 11, 12, 13, 16, 19]), (1, [4, 6, 11, 12, 13, 16, 19]), (2, [4, 11, 12, 13, 16, 19]), (3, [4, 5, 12, 13, 16, 19]), (4, [0, 1, 4, 5, 6, 11, 13, 16, 19]), (5, [0, 1, 5, 6, 11, 12, 13, 16, 19]), (6, [0, 1, 5, 6, 11, 12, 13, 16, 19]), (7, [4, 5, 6, 11, 12, 16, 19]), (8, [0, 1, 5, 6, 11, 12, 13, 16, 19]), (9, [4, 5, 6, 11, 12, 13, 19]), (10, [0, 1, 5, 6, 11, 12, 13, 16, 19]), (11, [0, 1, 4, 5, 6, 11, 12, 13, 16]), (12, [0, 1, 5, 6, 11, 12, 13, 16, 19]), (13, [0, 1, 5, 6, 11, 12, 13, 16, 19])], frz := [], frz2 := [] }
noncomputable def g81R0 := sub [0] (codeOf Tryd.f81)
noncomputable def g81R1 := sub [1, 0] (codeOf Tryd.f81)
noncomputable def g81R2 := sub [1, 1, 0] (codeOf Tryd.f81)
noncomputable def g81R3 := sub [1, 1, 1, 0, 0] (codeOf Tryd.f81)
noncomputable def g81R4 := sub [1, 1, 1, 0, 1, 0, 0, 0] (codeOf Tryd.f81)
noncomputable def g81R5 := sub [1, 1, 1, 0, 1, 0, 0, 1, 0, 0] (codeOf Tryd.f81)
noncomputable def g81R6 := sub [1, 1, 1, 0, 1, 0, 1, 0] (codeOf Tryd.f81)
noncomputable def g81R7 := sub [1, 1, 1, 1, 0, 0] (codeOf Tryd.f81)
noncomputable def g81R8 := sub [1, 1, 1, 1, 0, 1, 0, 0] (codeOf Tryd.f81)
noncomputable def g81R9 := sub [1, 1, 1, 1, 1, 0, 0] (codeOf Tryd.f81)
noncomputable def g81R10 := sub [1, 1, 1, 1, 1, 0, 1, 0, 0] (codeOf Tryd.f81)
noncomputable def g81R11 := sub [1, 1, 1, 1, 1, 1, 0, 0] (codeOf Tryd.f81)
noncomputable def g81R12 := sub [1, 1, 1, 1, 1, 1, 0, 1, 0, 0] (codeOf Tryd.f81)
noncomputable def g81R13 := sub [1, 1, 1, 1, 1, 1, 1, 0] (codeOf Tryd.f81)
theorem g81_eq : codeOf Tryd.f81 = (.seq g81R0 (.seq g81R1 (.seq g81R2 (.seq (.seq g81R3 (.cond (.tmp 11) (.seq (.seq g81R4 (.cond (.tmp 12) (.seq g81R5 .ret) .skip)) (.seq g81R6 .ret)) .skip)) (.seq (.seq g81R7 (.cond (.tmp 13) (.seq g81R8 .ret) .skip)) (.seq (.seq g81R9 (.cond (.tmp 16) (.seq g81R10 .ret) .skip)) (.seq (.seq g81R11 (.cond (.tmp 19) (.seq g81R12 .ret) .skip)) (.seq g81R13 .ret)))))))) := by kernel_rfl
def cmp_Compare_int.f (m : Nat) (x0 : Int) (y0 : Int) : Option (Int) := (cmp_isNaN_int.f m x0).bind fun x1 => (cmp_isNaN_int.f m y0).bind fun x2 => if x1 = true then (if x2 = true then (some (0 : Int)) else (some (-1 : Int))) else (if x2 = true then (some (1 : Int)) else (if (decide (x0 < y0)) = true then (some (-1 : Int)) else (if (decide (x0 > y0)) = true then (some (1 : Int)) else (some (0 : Int)))))
def cmp_Compare_int.fin (L : Mem) (r : Int) (s : St) : Prop := ∃ av, resultA Tryd.prog (s.open ann81) Tryd.f81.results.toList = some av ∧ Frb s.h av (.int .i64 r)
def S81 (cf : CallF) (m : Nat) : Prop := ∀ (x0 : Int) (y0 : Int) (r : Int), cmp_Compare_int.f m x0 y0 = some r → ∀ h xs, FrzS 1000 h xs [.int .i64 x0, .int .i64 y0] → cf 81 xs h = some (.int .i64 r, h)
section
variable {cf : CallF} {m : Nat}
theorem cmp_Compare_int_body {ann : FuncId → Ann} (ha : ann 81 = ann81) (S108_ : S108 cf m) (x0 : Int) (y0 : Int) (h : AHeap) (L : Mem)  (o : Has h (L)) {out : Int} (H : cmp_Compare_int.f m x0 y0 = some out) :
    ∃ r h', bodyA Tryd.prog ann cf m 81 [.int .i64 x0, .int .i64 y0] h = some (r, h') ∧ Frb h' r (.int .i64 out) := by
  refine body_of_ends2 (fn := Tryd.f81) ha Tryd.func81 (by kernel_rfl) (by kernel_rfl) ?_
  refine ends_fin (Q := fun s => cmp_Compare_int.fin L out s) (fun _ _ h => h) ?_
  refine ends_of_eq g81_eq ?_
  have H : _ = some out := H
  unfold cmp_Compare_int.f at H
  show Enz _ cf ann81 m _ ⟨.int .i64 x0 :: .int .i64 y0 :: Ay8 [], [], h⟩ _
  refine sr [] [] ⟨.int .i64 x0 :: .int .i64 y0 :: Ay8 [], [], h⟩ ((True) ∧ True) (by kernel_rfl) ⟨trivial, trivial⟩ ?_
  refine ends_seq ?_
  obtain ⟨x1, e0, H⟩ := bsi H
  refine er [] [(1, .bool x1, some h)] ⟨.int .i64 x0 :: .int .i64 y0 :: .any :: .bool x1 :: Ay6 [], [], h⟩ ((True) ∧ callO cf (.fn 108 []) [.int .i64 x0] h = some (.bool x1, h) ∧ True) (by kernel_rfl) ⟨trivial, ⟨callO_of (by kernel_rfl) (S108_ _ _ e0 _ _ (frs (fr_cons (fr_int) (fr_nil)))), trivial⟩⟩ ?_
  refine ends_seq ?_
  obtain ⟨x2, e1, H⟩ := bsi H
  refine er [] [(1, .bool x2, some h)] ⟨.int .i64 x0 :: .int .i64 y0 :: .any :: .bool x1 :: .bool x2 :: Ay5 [], [], h⟩ ((True) ∧ callO cf (.fn 108 []) [.int .i64 y0] h = some (.bool x2, h) ∧ True) (by kernel_rfl) ⟨trivial, ⟨callO_of (by kernel_rfl) (S108_ _ _ e1 _ _ (frs (fr_cons (fr_int) (fr_nil)))), trivial⟩⟩ ?_
  refine ends_seq ?_
  refine sr [] [] ⟨.int .i64 x0 :: .int .i64 y0 :: .any :: .any :: .bool x2 :: .bool x1 :: Ay4 [], [], h⟩ ((True) ∧ True) (by kernel_rfl) ⟨trivial, trivial⟩ ?_
  refine ends_cond (x1) (by kernel_rfl) (fun c0 => ?_) (fun c0 => ?_)
  · have H := ifp c0 H
    refine ends_seq ?_
    refine sr [] [] ⟨Ay6 (.bool x2 :: Ay3 []), [], h⟩ ((True) ∧ True) (by kernel_rfl) ⟨trivial, trivial⟩ ?_
    refine ends_cond (x2) (by kernel_rfl) (fun c1 => ?_) (fun c1 => ?_)
    · have H := ifp c1 H
      refine sr [] [] ⟨.any :: .any :: .int .i64 (0 : Int) :: Ay7 [], [], h⟩ ((True) ∧ True) (by kernel_rfl) ⟨trivial, trivial⟩ ?_
      refine ends_ret ?_
      have H := Option.some.inj H
      subst H
      exact ⟨.inl rfl, ⟨.int .i64 (0 : Int), by kernel_rfl, frb (fb_int)⟩⟩
    · have H := ifn c1 H
      refine ends_skip ?_
      refine sr [] [] ⟨.any :: .any :: .int .i64 (-1 : Int) :: Ay7 [], [], h⟩ ((True) ∧ True) (by kernel_rfl) ⟨trivial, trivial⟩ ?_
      refine ends_ret ?_
      have H := Option.some.inj H
      subst H
      exact ⟨.inl rfl, ⟨.int .i64 (-1 : Int), by kernel_rfl, frb (fb_int)⟩⟩
  · have H := ifn c0 H
    refine ends_skip ?_
    refine ends_seq ?_
    refine sr [] [] ⟨.int .i64 x0 :: .int .i64 y0 :: Ay5 [.bool x2, .any, .any], [], h⟩ ((True) ∧ True) (by kernel_rfl) ⟨trivial, trivial⟩ ?_
    refine ends_cond (x2) (by kernel_rfl) (fun c2 => ?_) (fun c2 => ?_)
    · have H := ifp c2 H
      refine sr [] [] ⟨.any :: .any :: .int .i64 (1 : Int) :: Ay7 [], [], h⟩ ((True) ∧ True) (by kernel_rfl) ⟨trivial, trivial⟩ ?_
      refine ends_ret ?_
      have H := Option.some.inj H
      subst H
      exact ⟨.inl rfl, ⟨.int .i64 (1 : Int), by kernel_rfl, frb (fb_int)⟩⟩
    · have H := ifn c2 H
      refine ends_skip ?_
      refine ends_seq ?_
      refine sr [] [] ⟨.int .i64 x0 :: .int .i64 y0 :: Ay6 [.bool (decide (x0 < y0)), .any], [], h⟩ ((True) ∧ True) (by kernel_rfl) ⟨trivial, trivial⟩ ?_
      refine ends_cond (decide (x0 < y0)) (by kernel_rfl) (fun c3 => ?_) (fun c3 => ?_)
      · have H := ifp c3 H
        refine sr [] [] ⟨.any :: .any :: .int .i64 (-1 : Int) :: Ay7 [], [], h⟩ ((True) ∧ True) (by kernel_rfl) ⟨trivial, trivial⟩ ?_
        refine ends_ret ?_
        have H := Option.some.inj H
        subst H
        exact ⟨.inl rfl, ⟨.int .i64 (-1 : Int), by kernel_rfl, frb (fb_int)⟩⟩
      · have H := ifn c3 H
        refine ends_skip ?_
        refine ends_seq ?_
        refine sr [] [] ⟨Ay9 [.bool (decide (x0 > y0))], [], h⟩ ((True) ∧ True) (by kernel_rfl) ⟨trivial, trivial⟩ ?_
        refine ends_cond (decide (x0 > y0)) (by kernel_rfl) (fun c4 => ?_) (fun c4 => ?_)
        · have H := ifp c4 H
          refine sr [] [] ⟨.any :: .any :: .int .i64 (1 : Int) :: Ay7 [], [], h⟩ ((True) ∧ True) (by kernel_rfl) ⟨trivial, trivial⟩ ?_
          refine ends_ret ?_
          have H := Option.some.inj H
          subst H
          exact ⟨.inl rfl, ⟨.int .i64 (1 : Int), by kernel_rfl, frb (fb_int)⟩⟩
        · have H := ifn c4 H
          refine ends_skip ?_
          refine sr [] [] ⟨.any :: .any :: .int .i64 (0 : Int) :: Ay7 [], [], h⟩ ((True) ∧ True) (by kernel_rfl) ⟨trivial, trivial⟩ ?_
          refine ends_ret ?_
          have H := Option.some.inj H
          subst H
          exact ⟨.inl rfl, ⟨.int .i64 (0 : Int), by kernel_rfl, frb (fb_int)⟩⟩
end
end Go.Proofs.YtmekcfdllhphlaaDoor

namespace Go.Proofs.YtmekcfdllhphlaaDoor
open Go Go.R
open Go.IntKind (i64 u64 u8 u32)
def ann82 : Ann := { keep := [0, 2, 3, 5, 6, 7, 8, 9, 14], locs := [], dead := [(0, [2, 3, 5, 6, 7, 8, 9, 14]), (1, [2, 5, 6, 7, 8, 9, 14]), (2, [0, 2, 5, 9, 14]), (3, [0, 2, 5, 14]), (4, [0, 2, 9, 14]), (5, [0, 2, 9]), (6, [0, 3, 5, 6, 7, 8, 9, 14]), (7, [0, 2, 5, 9, 14]), (8, [0, 3, 5, 6, 7, 8, 9, 14])], frz := [], frz2 := [] }
noncomputable def g82R0 := sub [0] (codeOf Tryd.f82)
noncomputable def g82R1 := sub [1, 0] (codeOf Tryd.f82)
noncomputable def g82R2 := sub [1, 1, 0, 0] (codeOf Tryd.f82)
noncomputable def g82L0 := sub [1, 1, 0, 1, 0, 0] (codeOf Tryd.f82)
noncomputable def g82R3 := sub [1, 1, 0, 1, 0, 0, 0] (codeOf Tryd.f82)
noncomputable def g82R4 := sub [1, 1, 0, 1, 0, 0, 1, 1, 0, 0, 0] (codeOf Tryd.f82)
noncomputable def g82R5 := sub [1, 1, 0, 1, 0, 0, 1, 1, 0, 0, 1, 0] (codeOf Tryd.f82)
noncomputable def g82R6 := sub [1, 1, 0, 1, 0, 0, 1, 1, 0, 0, 1, 1, 0, 0] (codeOf Tryd.f82)
noncomputable def g82R7 := sub [1, 1, 0, 1, 0, 0, 1, 1, 1] (codeOf Tryd.f82)
noncomputable def g82R8 := sub [1, 1, 1, 0] (codeOf Tryd.f82)
theorem g82L0_eq : g82L0 = (.seq g82R3 (.seq (.cond (.tmp 9) .skip (.exit 0)) (.seq (.block 1 (.seq g82R4 (.seq g82R5 (.cond (.tmp 14) (.seq g82R6 .ret) .skip)))) g82R7))) := by kernel_rfl
theorem g82_eq : codeOf Tryd.f82 = (.seq g82R0 (.seq g82R1 (.seq (.seq g82R2 (.block 0 (.loop g82L0))) (.seq g82R8 .ret)))) := by kernel_rfl
def cmp_Or_int.l0 (m : Nat) (vals0 : List Int) : Nat → Int → Option (Sum Int (Int))
  | 0, _ => none
  | k + 1, x0 => if (decide (x0 < (vals0.length : Int))) = true then ((ix vals0 x0).bind fun v0 => if (!(v0 == (0 : Int))) = true then (some (.inl v0)) else (cmp_Or_int.l0 m vals0 k (i64.wrap (x0 + (1 : Int))))) else (some (.inr x0))
def cmp_Or_int.f (m : Nat) (vals0 : List Int) : Option (Int) := (cmp_Or_int.l0 m vals0 m (0 : Int)).bind fun out0 => match out0 with | .inl r0 => some r0 | .inr x1 => some (0 : Int)
def cmp_Or_int.fin (L : Mem) (r : Int) (s : St) : Prop := ∃ av, resultA Tryd.prog (s.open ann82) Tryd.f82.results.toList = some av ∧ Frb s.h av (.int .i64 r)
def S82 (cf : CallF) (m : Nat) : Prop := ∀ (vals0 : List Int) (r : Int), cmp_Or_int.f m vals0 = some r → ∀ h xs, FrzS 1000 h xs [eInt.fz vals0] → cf 82 xs h = some (.int .i64 r, h)
section
variable {cf : CallF} {m : Nat}
def cmp_Or_int.l0.R (L : Mem) (vals0 : List Int) (σ : Int) (s : St) : Prop :=
  match σ with
  | x0 => ∃ (g0 : AV) (g1 : AV) (h0 : AHeap), s = ⟨[.any, .any, .int .i64 (0 : Int), .any, eInt.fz vals0, .int .i64 (vals0.length : Int), .int .i64 x0, g0, g1], [], h0⟩ ∧ Has h0 (L)
def cmp_Or_int.l0.Q (L : Mem) (vals0 : List Int) (out : Sum Int (Int)) (e : Ex) (s : St) : Prop :=
  (e = .exit 0 ∧ ∃ (x0 : Int), .inr x0 = out ∧ ∃ (x6_ : AV) (x7_ : AV) (x8_ : AV) (x9_ : AV) (x14_ : AV) (h0 : AHeap), s = ⟨[.any, .any, .int .i64 (0 : Int), .any, x6_, x7_, x8_, x9_, x14_], [], h0⟩ ∧ Has h0 (L)) ∨ (e = .ret ∧ ∃ r, .inl r = out ∧ cmp_Or_int.fin L r s)
theorem cmp_Or_int.l0_ok (L : Mem) (vals0 : List Int)   {σ : Int} {s : St} {out : Sum Int (Int)} (hr : cmp_Or_int.l0.R L vals0 σ s) (H : (fun k σ => cmp_Or_int.l0 m vals0 k σ) m σ = some out) : Enz Tryd.prog cf ann82 m (.loop g82L0) s (cmp_Or_int.l0.Q L vals0 out) := by
  refine ends_loop (fun k σ => cmp_Or_int.l0 m vals0 k σ) (cmp_Or_int.l0.R L vals0) (cmp_Or_int.l0.Q L vals0) (fun _ => rfl) ?_ hr H (fun _ _ _ h => h)
  clear hr H σ s out
  rintro k x0 s out ⟨g0, g1, h0, rfl, o0⟩ H
  have H : cmp_Or_int.l0 m vals0 (k + 1) x0 = some out := H
  refine ends_of_eq g82L0_eq ?_
  refine sr [] [] ⟨[.any, .any, .int .i64 (0 : Int), .any, eInt.fz vals0, .int .i64 (vals0.length : Int), .int .i64 x0, .bool (decide (x0 < (vals0.length : Int))), .any], [], h0⟩ ((True) ∧ True) (by kernel_rfl) ⟨trivial, trivial⟩ ?_
  refine ends_seq ?_
  refine ends_cond (decide (x0 < (vals0.length : Int))) (by kernel_rfl) (fun c0 => ?_) (fun c0 => ?_)
  · have H := ifp c0 H
    refine ends_skip ?_
    refine ends_seq ?_
    refine ends_block ?_
    refine ends_seq ?_
    obtain ⟨v0, e0, H⟩ := bsi H
    refine er [] [(0, .fp (eInt.l vals0) (x0.toNat * 1), none), (1, .int .i64 v0, none)] ⟨[.any, .any, .int .i64 (0 : Int), .int .i64 v0, eInt.fz vals0, .int .i64 (vals0.length : Int), .int .i64 x0, .any, .any], [], h0⟩ ((True) ∧ indexAddrA Tryd.prog 42 (eInt.fz vals0) (.int .i64 x0) = some (.fp (eInt.l vals0) (x0.toNat * 1)) ∧ loadH Tryd.prog h0 3 (.fp (eInt.l vals0) (x0.toNat * 1)) = some (.int .i64 v0) ∧ True) (by kernel_rfl) ⟨trivial, ⟨ia_fz (E := eInt) (l := vals0) T42 e0, ld_fz0 (E := eInt) (l := vals0) h0 A3 e0 rfl, trivial⟩⟩ ?_
    refine sr [] [] ⟨[.any, .any, .int .i64 (0 : Int), .int .i64 v0, eInt.fz vals0, .int .i64 (vals0.length : Int), .int .i64 x0, .any, .bool (!(v0 == (0 : Int)))], [], h0⟩ ((True) ∧ True) (by kernel_rfl) ⟨trivial, trivial⟩ ?_
    refine ends_cond (!(v0 == (0 : Int))) (by kernel_rfl) (fun c1 => ?_) (fun c1 => ?_)
    · have H := ifp c1 H
      refine sr [] [] ⟨.any :: .int .i64 v0 :: Ay7 [], [], h0⟩ ((True) ∧ True) (by kernel_rfl) ⟨trivial, trivial⟩ ?_
      refine ends_ret ?_
      have H := Option.some.inj H
      exact Or.inr (⟨rfl, _, H, ⟨.int .i64 v0, by kernel_rfl, frb (fb_int)⟩⟩)
    · have H := ifn c1 H
      refine ends_skip ?_
      refine er [] [] ⟨[.any, .any, .int .i64 (0 : Int), .any, eInt.fz vals0, .int .i64 (vals0.length : Int), .int .i64 (i64.wrap (x0 + (1 : Int))), .any, .any], [], h0⟩ ((True) ∧ True) (by kernel_rfl) ⟨trivial, trivial⟩ ?_
      exact ⟨i64.wrap (x0 + (1 : Int)), ⟨.any, .any, h0, rfl, o0⟩, H⟩
  · have H := ifn c0 H
    refine ends_exit ?_
    have H := Option.some.inj H
    exact Or.inl (⟨rfl, x0, H, eInt.fz vals0, .int .i64 (vals0.length : Int), .int .i64 x0, .bool (decide (x0 < (vals0.length : Int))), .any, h0, rfl, o0⟩)
theorem cmp_Or_int_body {ann : FuncId → Ann} (ha : ann 82 = ann82)  (vals0 : List Int) (h : AHeap) (L : Mem)  (o : Has h (L)) {out : Int} (H : cmp_Or_int.f m vals0 = some out) :
    ∃ r h', bodyA Tryd.prog ann cf m 82 [eInt.fz vals0] h = some (r, h') ∧ Frb h' r (.int .i64 out) := by
  refine body_of_ends2 (fn := Tryd.f82) ha Tryd.func82 (by kernel_rfl) (by kernel_rfl) ?_
  refine ends_fin (Q := fun s => cmp_Or_int.fin L out s) (fun _ _ h => h) ?_
  refine ends_of_eq g82_eq ?_
  have H : _ = some out := H
  unfold cmp_Or_int.f at H
  show Enz _ cf ann82 m _ ⟨eInt.fz vals0 :: Ay8 [], [], h⟩ _
  refine sr [] [] ⟨eInt.fz vals0 :: Ay8 [], [], h⟩ ((True) ∧ True) (by kernel_rfl) ⟨trivial, trivial⟩ ?_
  refine sr [] [] ⟨eInt.fz vals0 :: .any :: .int .i64 (0 : Int) :: Ay6 [], [], h⟩ ((True) ∧ True) (by kernel_rfl) ⟨trivial, trivial⟩ ?_
  refine ends_seq ?_
  refine sr [] [] ⟨[.any, .any, .int .i64 (0 : Int), .any, eInt.fz vals0, .int .i64 (vals0.length : Int), .int .i64 (0 : Int), .any, .any], [], h⟩ ((True) ∧ True) (by kernel_rfl) ⟨trivial, trivial⟩ ?_
  refine ends_block ?_
  obtain ⟨out0, e1, H⟩ := bsi H
  refine ends_mono (cmp_Or_int.l0_ok L vals0   (σ := (0 : Int)) ⟨.any, .any, h, rfl, o⟩ e1) ?_
  rintro e s (⟨rfl, x1, rfl, g2, g3, g4, g5, g6, h1, rfl, o1⟩ | ⟨rfl, r0, rfl, hf0⟩)
  · try dsimp only at H
    refine sr [] [] ⟨.any :: .int .i64 (0 : Int) :: Ay7 [], [], h1⟩ ((True) ∧ True) (by kernel_rfl) ⟨trivial, trivial⟩ ?_
    refine ends_ret ?_
    have H := Option.some.inj H
    subst H
    exact ⟨.inl rfl, ⟨.int .i64 (0 : Int), by kernel_rfl, frb (fb_int)⟩⟩
  · try dsimp only at H
    have H := Option.some.inj H
    subst H
    exact ⟨.inl rfl, hf0⟩
end
end Go.Proofs.YtmekcfdllhphlaaDoor

namespace Go.Proofs.YtmekcfdllhphlaaDoor
open Go Go.R
open Go.IntKind (i64 u64 u8 u32)
def ann109 : Ann := { keep := [0, 2], locs := [], dead := [(0, [2]), (1, [0])], frz := [], frz2 := [] }
noncomputable def g109R0 := sub [0] (codeOf Tryd.f109)
noncomputable def g109R1 := sub [1, 0] (codeOf Tryd.f109)
theorem g109_eq : codeOf Tryd.f109 = (.seq g109R0 (.seq g109R1 .ret)) := by kernel_rfl
def cmp_isNaN_string.f (m : Nat) (x0 : ByteArray) : Option (Bool) := some (!(x0.data.toList == x0.data.toList))
def cmp_isNaN_string.fin (L : Mem) (r : Bool) (s : St) : Prop := ∃ av, resultA Tryd.prog (s.open ann109) Tryd.f109.results.toList = some av ∧ Frb s.h av (.bool r)
def S109 (cf : CallF) (m : Nat) : Prop := ∀ (x0 : ByteArray) (r : Bool), cmp_isNaN_string.f m x0 = some r → ∀ h xs, FrzS 1000 h xs [.str x0] → cf 109 xs h = some (.bool r, h)
section
variable {cf : CallF} {m : Nat}
theorem cmp_isNaN_string_body {ann : FuncId → Ann} (ha : ann 109 = ann109)  (x0 : ByteArray) (h : AHeap) (L : Mem)  (o : Has h (L)) {out : Bool} (H : cmp_isNaN_string.f m x0 = some out) :
    ∃ r h', bodyA Tryd.prog ann cf m 109 [.str x0] h = some (r, h') ∧ Frb h' r (.bool out) := by
  refine body_of_ends2 (fn := Tryd.f109) ha Tryd.func109 (by kernel_rfl) (by kernel_rfl) ?_
  refine ends_fin (Q := fun s => cmp_isNaN_string.fin L out s) (fun _ _ h => h) ?_
  refine ends_of_eq g109_eq ?_
  have H : _ = some out := H
  unfold cmp_isNaN_string.f at H
  show Enz _ cf ann109 m _ ⟨[.str x0, .any], [], h⟩ _
  refine sr [] [] ⟨[.str x0, .any], [], h⟩ ((True) ∧ True) (by kernel_rfl) ⟨trivial, trivial⟩ ?_
  refine sr [] [] ⟨[.any, .bool (!(x0.data.toList == x0.data.toList))], [], h⟩ ((True) ∧ True) (by kernel_rfl) ⟨trivial, trivial⟩ ?_
  refine ends_ret ?_
  have H := Option.some.inj H
  subst H
  exact ⟨.inl rfl, ⟨.bool (!(x0.data.toList == x0.data.toList)), by kernel_rfl, frb (fb_bool)⟩⟩
end
end Go.Proofs.YtmekcfdllhphlaaDoor

namespace Go.Proofs.YtmekcfdllhphlaaDoor
open Go Go.R
open Go.IntKind (i64 u64 u8 u32)
def ann83 : Ann := { keep := [0, 1, 4, 5, 6, 11, 12, 13, 16, 19], locs := [], dead := [(0, [4, 5, 6, 11, 12, 13, 16, 19]), (1, [4, 6, 11, 12, 13, 16, 19]), (2, [4, 11, 12, 13, 16, 19]), (3, [4, 5, 12, 13, 16, 19]), (4, [0, 1, 4, 5, 6, 11, 13, 16, 19]), (5, [0, 1, 5, 6, 11, 12, 13, 16, 19]), (6, [0, 1, 5, 6, 11, 12, 13, 16, 19]), (7, [4, 5, 6, 11, 12, 16, 19]), (8, [0, 1, 5, 6, 11, 12, 13, 16, 19]), (9, [4, 5, 6, 11, 12, 13, 19]), (10, [0, 1, 5, 6, 11, 12, 13, 16, 19]), (11, [0, 1, 4, 5, 6, 11, 12, 13, 16]), (12, [0, 1, 5, 6, 11, 12, 13, 16, 19]), (13, [0, 1, 5, 6, 11, 12, 13, 16, 19])], frz := [], frz2 := [] }
noncomputable def g83R0 := sub [0] (codeOf Tryd.f83)
noncomputable def g83R1 := sub [1, 0] (codeOf Tryd.f83)
noncomputable def g83R2 := sub [1, 1, 0] (codeOf Tryd.f83)
noncomputable def g83R3 := sub [1, 1, 1, 0, 0] (codeOf Tryd.f83)
noncomputable def g83R4 := sub [1, 1, 1, 0, 1, 0, 0, 0] (codeOf Tryd.f83)
noncomputable def g83R5 := sub [1, 1, 1, 0, 1, 0, 0, 1, 0, 0] (codeOf Tryd.f83)
noncomputable def g83R6 := sub [1, 1, 1, 0, 1, 0, 1, 0] (codeOf Tryd.f83)
noncomputable def g83R7 := sub [1, 1, 1, 1, 0, 0] (codeOf Tryd.f83)
noncomputable def g83R8 := sub [1, 1, 1, 1, 0, 1, 0, 0] (codeOf Tryd.f83)
noncomputable def g83R9 := sub [1, 1, 1, 1, 1, 0, 0] (codeOf Tryd.f83)
noncomputable def g83R10 := sub [1, 1, 1, 1, 1, 0, 1, 0, 0] (codeOf Tryd.f83)
noncomputable def g83R11 := sub [1, 1, 1, 1, 1, 1, 0, 0] (codeOf Tryd.f83)
noncomputable def g83R12 := sub [1, 1, 1, 1, 1, 1, 0, 1, 0, 0] (codeOf Tryd.f83)
noncomputable def g83R13 := sub [1, 1, 1, 1, 1, 1, 1, 0] (codeOf Tryd.f83)
theorem g83_eq : codeOf Tryd.f83 = (.seq g83R0 (.seq g83R1 (.seq g83R2 (.seq (.seq g83R3 (.cond (.tmp 11) (.seq (.seq g83R4 (.cond (.tmp 12) (.seq g83R5 .ret) .skip)) (.seq g83R6 .ret)) .skip)) (.seq (.seq g83R7 (.cond (.tmp 13) (.seq g83R8 .ret) .skip)) (.seq (.seq g83R9 (.cond (.tmp 16) (.seq g83R10 .ret) .skip)) (.seq (.seq g83R11 (.cond (.tmp 19) (.seq g83R12 .ret) .skip)) (.seq g83R13 .ret)))))))) := by kernel_rfl
def cmp_Compare_string.f (m : Nat) (x0 : ByteArray) (y0 : ByteArray) : Option (Int) := (cmp_isNaN_string.f m x0).bind fun x1 => (cmp_isNaN_string.f m y0).bind fun x2 => if x1 = true then (if x2 = true then (some (0 : Int)) else (some (-1 : Int))) else (if x2 = true then (some (1 : Int)) else (if (Op.bytesLess x0.data.toList y0.data.toList) = true then (some (-1 : Int)) else (if (!strLe x0 y0) = true then (some (1 : Int)) else (some (0 : Int)))))
def cmp_Compare_string.fin (L : Mem) (r : Int) (s : St) : Prop := ∃ av, resultA Tryd.prog (s.open ann83) Tryd.f83.results.toList = some av ∧ Frb s.h av (.int .i64 r)
def S83 (cf : CallF) (m : Nat) : Prop := ∀ (x0 : ByteArray) (y0 : ByteArray) (r : Int), cmp_Compare_string.f m x0 y0 = some r → ∀ h xs, FrzS 1000 h xs [.str x0, .str y0] → cf 83 xs h = some (.int .i64 r, h)
section
variable {cf : CallF} {m : Nat}
theorem cmp_Compare_string_body {ann : FuncId → Ann} (ha : ann 83 = ann83) (S109_ : S109 cf m) (x0 : ByteArray) (y0 : ByteArray) (h : AHeap) (L : Mem)  (o : Has h (L)) {out : Int} (H : cmp_Compare_string.f m x0 y0 = some out) :
    ∃ r h', bodyA Tryd.prog ann cf m 83 [.str x0, .str y0] h = some (r, h') ∧ Frb h' r (.int .i64 out) := by
  refine body_of_ends2 (fn := Tryd.f83) ha Tryd.func83 (by kernel_rfl) (by kernel_rfl) ?_
  refine ends_fin (Q := fun s => cmp_Compare_string.fin L out s) (fun _ _ h => h) ?_
  refine ends_of_eq g83_eq ?_
  have H : _ = some out := H
  unfold cmp_Compare_string.f at H
  show Enz _ cf ann83 m _ ⟨.str x0 :: .str y0 :: Ay8 [], [], h⟩ _
  refine sr [] [] ⟨.str x0 :: .str y0 :: Ay8 [], [], h⟩ ((True) ∧ True) (by kernel_rfl) ⟨trivial, trivial⟩ ?_
  refine ends_seq ?_
  obtain ⟨x1, e0, H⟩ := bsi H
  refine er [] [(1, .bool x1, some h)] ⟨.str x0 :: .str y0 :: .any :: .bool x1 :: Ay6 [], [], h⟩ ((True) ∧ callO cf (.fn 109 []) [.str x0] h = some (.bool x1, h) ∧ True) (by kernel_rfl) ⟨trivial, ⟨callO_of (by kernel_rfl) (S109_ _ _ e0 _ _ (frs (fr_cons (fr_str) (fr_nil)))), trivial⟩⟩ ?_
  refine ends_seq ?_
  obtain ⟨x2, e1, H⟩ := bsi H
  refine er [] [(1, .bool x2, some h)] ⟨.str x0 :: .str y0 :: .any :: .bool x1 :: .bool x2 :: Ay5 [], [], h⟩ ((True) ∧ callO cf (.fn 109 []) [.str y0] h = some (.bool x2, h) ∧ True) (by kernel_rfl) ⟨trivial, ⟨callO_of (by kernel_rfl) (S109_ _ _ e1 _ _ (frs (fr_cons (fr_str) (fr_nil)))), trivial⟩⟩ ?_
  refine ends_seq ?_
  refine sr [] [] ⟨.str x0 :: .str y0 :: .any :: .any :: .bool x2 :: .bool x1 :: Ay4 [], [], h⟩ ((True) ∧ True) (by kernel_rfl) ⟨trivial, trivial⟩ ?_
  refine ends_cond (x1) (by kernel_rfl) (fun c0 => ?_) (fun c0 => ?_)
  · have H := ifp c0 H
    refine ends_seq ?_
    refine sr [] [] ⟨Ay6 (.bool x2 :: Ay3 []), [], h⟩ ((True) ∧ True) (by kernel_rfl) ⟨trivial, trivial⟩ ?_
    refine ends_cond (x2) (by kernel_rfl) (fun c1 => ?_) (fun c1 => ?_)
    · have H := ifp c1 H
      refine sr [] [] ⟨.any :: .any :: .int .i64 (0 : Int) :: Ay7 [], [], h⟩ ((True) ∧ True) (by kernel_rfl) ⟨trivial, trivial⟩ ?_
      refine ends_ret ?_
      have H := Option.some.inj H
      subst H
      exact ⟨.inl rfl, ⟨.int .i64 (0 : Int), by kernel_rfl, frb (fb_int)⟩⟩
    · have H := ifn c1 H
      refine ends_skip ?_
      refine sr [] [] ⟨.any :: .any :: .int .i64 (-1 : Int) :: Ay7 [], [], h⟩ ((True) ∧ True) (by kernel_rfl) ⟨trivial, trivial⟩ ?_
      refine ends_ret ?_
      have H := Option.some.inj H
      subst H
      exact ⟨.inl rfl, ⟨.int .i64 (-1 : Int), by kernel_rfl, frb (fb_int)⟩⟩
  · have H := ifn c0 H
    refine ends_skip ?_
    refine ends_seq ?_
    refine sr [] [] ⟨.str x0 :: .str y0 :: Ay5 [.bool x2, .any, .any], [], h⟩ ((True) ∧ True) (by kernel_rfl) ⟨trivial, trivial⟩ ?_
    refine ends_cond (x2) (by kernel_rfl) (fun c2 => ?_) (fun c2 => ?_)
    · have H := ifp c2 H
      refine sr [] [] ⟨.any :: .any :: .int .i64 (1 : Int) :: Ay7 [], [], h⟩ ((True) ∧ True) (by kernel_rfl) ⟨trivial, trivial⟩ ?_
      refine ends_ret ?_
      have H := Option.some.inj H
      subst H
      exact ⟨.inl rfl, ⟨.int .i64 (1 : Int), by kernel_rfl, frb (fb_int)⟩⟩
    · have H := ifn c2 H
      refine ends_skip ?_
      refine ends_seq ?_
      refine sr [] [] ⟨.str x0 :: .str y0 :: Ay6 [.bool (Op.bytesLess x0.data.toList y0.data.toList), .any], [], h⟩ ((True) ∧ True) (by kernel_rfl) ⟨trivial, trivial⟩ ?_
      refine ends_cond (Op.bytesLess x0.data.toList y0.data.toList) (by kernel_rfl) (fun c3 => ?_) (fun c3 => ?_)
      · have H := ifp c3 H
        refine sr [] [] ⟨.any :: .any :: .int .i64 (-1 : Int) :: Ay7 [], [], h⟩ ((True) ∧ True) (by kernel_rfl) ⟨trivial, trivial⟩ ?_
        refine ends_ret ?_
        have H := Option.some.inj H
        subst H
        exact ⟨.inl rfl, ⟨.int .i64 (-1 : Int), by kernel_rfl, frb (fb_int)⟩⟩
      · have H := ifn c3 H
        refine ends_skip ?_
        refine ends_seq ?_
        refine sr [] [] ⟨Ay9 [.bool (!strLe x0 y0)], [], h⟩ ((True) ∧ True) (by kernel_rfl) ⟨trivial, trivial⟩ ?_
        refine ends_cond (!strLe x0 y0) (by kernel_rfl) (fun c4 => ?_) (fun c4 => ?_)
        · have H := ifp c4 H
          refine sr [] [] ⟨.any :: .any :: .int .i64 (1 : Int) :: Ay7 [], [], h⟩ ((True) ∧ True) (by kernel_rfl) ⟨trivial, trivial⟩ ?_
          refine ends_ret ?_
          have H := Option.some.inj H
          subst H
          exact ⟨.inl rfl, ⟨.int .i64 (1 : Int), by kernel_rfl, frb (fb_int)⟩⟩
        · have H := ifn c4 H
          refine ends_skip ?_
          refine sr [] [] ⟨.any :: .any :: .int .i64 (0 : Int) :: Ay7 [], [], h⟩ ((True) ∧ True) (by kernel_rfl) ⟨trivial, trivial⟩ ?_
          refine ends_ret ?_
          have H := Option.some.inj H
          subst H
          exact ⟨.inl rfl, ⟨.int .i64 (0 : Int), by kernel_rfl, frb (fb_int)⟩⟩
end
end Go.Proofs.YtmekcfdllhphlaaDoor

namespace Go.Proofs.YtmekcfdllhphlaaDoor
open Go Go.R
open Go.IntKind (i64 u64 u8 u32)
def ann65 : Ann := { keep := [0, 1, 2, 3, 4, 5, 16], locs := [2, 3], dead := [(0, [0, 1, 4, 5, 16]), (1, [0, 1, 4, 16]), (2, [0, 1, 2, 3, 5, 16]), (3, [0, 1, 4, 5]), (4, [0, 1, 2, 3, 5, 16]), (5, [0, 1, 2, 3, 5, 16])], frz := [], frz2 := [] }
noncomputable def g65R0 := sub [0] (codeOf Tryd.f65)
noncomputable def g65R1 := sub [1, 0, 0, 0] (codeOf Tryd.f65)
noncomputable def g65R2 := sub [1, 0, 0, 1, 0, 0] (codeOf Tryd.f65)
noncomputable def g65R3 := sub [1, 0, 0, 1, 1, 0] (codeOf Tryd.f65)
noncomputable def g65R4 := sub [1, 0, 0, 1, 1, 1, 0, 0] (codeOf Tryd.f65)
noncomputable def g65R5 := sub [1, 1, 0] (codeOf Tryd.f65)
theorem g65_eq : codeOf Tryd.f65 = (.seq g65R0 (.seq (.block 0 (.seq g65R1 (.cond (.tmp 5) (.seq g65R2 .ret) (.seq g65R3 (.cond (.tmp 16) (.seq g65R4 .ret) .skip))))) (.seq g65R5 .ret))) := by kernel_rfl
def tree_compareTop.f (m : Nat) (a0 : VNode) (b0 : VNode) : Option (Int) := if (!(a0.kind == b0.kind)) = true then ((cmp_Compare_int.f m a0.kind b0.kind).bind fun x0 => some x0) else (if (a0.kind == (3 : Int)) = true then ((cmp_Compare_int.f m (a0.args.length : Int) (b0.args.length : Int)).bind fun x1 => (cmp_Compare_string.f m a0.label b0.label).bind fun x2 => (cmp_Or_int.f m ([x1, x2])).bind fun x3 => some x3) else ((cmp_Compare_string.f m a0.label b0.label).bind fun x4 => (cmp_Compare_int.f m a0.int b0.int).bind fun x5 => (cmp_Or_int.f m ([x4, x5])).bind fun x6 => some x6))
def tree_compareTop.fin (L : Mem) (r : Int) (s : St) : Prop := ∃ av, resultA Tryd.prog (s.open ann65) Tryd.f65.results.toList = some av ∧ Frb s.h av (.int .i64 r)
def S65 (cf : CallF) (m : Nat) : Prop := ∀ (a0 : VNode) (b0 : VNode) (r : Int), tree_compareTop.f m a0 b0 = some r → ∀ h xs, FrzS 1000 h xs [.agg [.int .i64 a0.kind, .int .i64 a0.int, .str a0.label, eInt.fz a0.args], .agg [.int .i64 b0.kind, .int .i64 b0.int, .str b0.label, eInt.fz b0.args]] → cf 65 xs h = some (.int .i64 r, h)
section
variable {cf : CallF} {m : Nat}
theorem tree_compareTop_body {ann : FuncId → Ann} (ha : ann 65 = ann65) (S81_ : S81 cf m) (S82_ : S82 cf m) (S83_ : S83 cf m) (a0 : VNode) (b0 : VNode) (h : AHeap) (L : Mem)  (o : Has h (L)) {out : Int} (H : tree_compareTop.f m a0 b0 = some out) :
    ∃ r h', bodyA Tryd.prog ann cf m 65 [.agg [.int .i64 a0.kind, .int .i64 a0.int, .str a0.label, eInt.fz a0.args], .agg [.int .i64 b0.kind, .int .i64 b0.int, .str b0.label, eInt.fz b0.args]] h = some (r, h') ∧ Frb h' r (.int .i64 out) := by
  refine body_of_ends2 (fn := Tryd.f65) ha Tryd.func65 (by kernel_rfl) (by kernel_rfl) ?_
  refine ends_fin (Q := fun s => tree_compareTop.fin L out s) (fun _ _ h => h) ?_
  refine ends_of_eq g65_eq ?_
  have H : _ = some out := H
  unfold tree_compareTop.f at H
  show Enz _ cf ann65 m _ ⟨.agg [.int .i64 a0.kind, .int .i64 a0.int, .str a0.label, eInt.fz a0.args] :: .agg [.int .i64 b0.kind, .int .i64 b0.int, .str b0.label, eInt.fz b0.args] :: Ay5 [], [none, none], h⟩ _
  refine sr [] [] ⟨.any :: .any :: .lp 2 0 :: .lp 3 0 :: Ay3 [], [some [.int .i64 a0.kind, .int .i64 a0.int, .str a0.label, eInt.fz a0.args], some [.int .i64 b0.kind, .int .i64 b0.int, .str b0.label, eInt.fz b0.args]], h⟩ ((True) ∧ True) (by kernel_rfl) ⟨trivial, trivial⟩ ?_
  refine ends_seq ?_
  refine ends_block ?_
  refine sr [] [] ⟨[.any, .any, .lp 2 0, .lp 3 0, .any, .bool (!(a0.kind == b0.kind)), .any], [some [.int .i64 a0.kind, .int .i64 a0.int, .str a0.label, eInt.fz a0.args], some [.int .i64 b0.kind, .int .i64 b0.int, .str b0.label, eInt.fz b0.args]], h⟩ ((True) ∧ True) (by kernel_rfl) ⟨trivial, trivial⟩ ?_
  refine ends_cond (!(a0.kind == b0.kind)) (by kernel_rfl) (fun c0 => ?_) (fun c0 => ?_)
  · have H := ifp c0 H
    refine ends_seq ?_
    obtain ⟨x0, e0, H⟩ := bsi H
    refine er [] [(4, .int .i64 x0, some h)] ⟨Ay4 [.int .i64 x0, .any, .any], [none, none], h⟩ ((True) ∧ callO cf (.fn 81 []) [.int .i64 a0.kind, .int .i64 b0.kind] h = some (.int .i64 x0, h) ∧ True) (by kernel_rfl) ⟨trivial, ⟨callO_of (by kernel_rfl) (S81_ _ _ _ e0 _ _ (frs (fr_cons (fr_int) (fr_cons (fr_int) (fr_nil))))), trivial⟩⟩ ?_
    refine ends_ret ?_
    have H := Option.some.inj H
    subst H
    exact ⟨.inl rfl, ⟨.int .i64 x0, by kernel_rfl, frb (fb_int)⟩⟩
  · have H := ifn c0 H
    refine sr [] [] ⟨[.any, .any, .lp 2 0, .lp 3 0, .any, .any, .bool (a0.kind == (3 : Int))], [some [.int .i64 a0.kind, .int .i64 a0.int, .str a0.label, eInt.fz a0.args], some [.int .i64 b0.kind, .int .i64 b0.int, .str b0.label, eInt.fz b0.args]], h⟩ ((True) ∧ True) (by kernel_rfl) ⟨trivial, trivial⟩ ?_
    refine ends_cond (a0.kind == (3 : Int)) (by kernel_rfl) (fun c1 => ?_) (fun c1 => ?_)
    · have H := ifp c1 H
      refine ends_seq ?_
      obtain ⟨x1, e1, H⟩ := bsi H
      obtain ⟨x2, e2, H⟩ := bsi H
      obtain ⟨x3, e3, H⟩ := bsi H
      refine er [] [(6, .int .i64 x1, some h), (11, .int .i64 x2, some h), (13, .int .i64 x3, some h)] ⟨Ay4 [.int .i64 x3, .any, .any], [none, none], h⟩ ((True) ∧ callO cf (.fn 81 []) [.int .i64 (a0.args.length : Int), .int .i64 (b0.args.length : Int)] h = some (.int .i64 x1, h) ∧ callO cf (.fn 83 []) [.str a0.label, .str b0.label] h = some (.int .i64 x2, h) ∧ callO cf (.fn 82 []) [.fz [.int .i64 x1, .int .i64 x2] 2 true] h = some (.int .i64 x3, h) ∧ True) (by kernel_rfl) ⟨trivial, ⟨callO_of (by kernel_rfl) (S81_ _ _ _ e1 _ _ (frs (fr_cons (fr_int) (fr_cons (fr_int) (fr_nil))))), callO_of (by kernel_rfl) (S83_ _ _ _ e2 _ _ (frs (fr_cons (fr_str) (fr_cons (fr_str) (fr_nil))))), callO_of (by kernel_rfl) (S82_ _ _ e3 _ _ (frs (fr_cons (fr_lit (E := eInt) (l := [x1, x2]) (by kernel_rfl) (by kernel_rfl) rfl) (fr_nil)))), trivial⟩⟩ ?_
      refine ends_ret ?_
      have H := Option.some.inj H
      subst H
      exact ⟨.inl rfl, ⟨.int .i64 x3, by kernel_rfl, frb (fb_int)⟩⟩
    · have H := ifn c1 H
      refine ends_skip ?_
      refine ends_seq ?_
      obtain ⟨x4, e4, H⟩ := bsi H
      obtain ⟨x5, e5, H⟩ := bsi H
      obtain ⟨x6, e6, H⟩ := bsi H
      refine er [] [(4, .int .i64 x4, some h), (9, .int .i64 x5, some h), (11, .int .i64 x6, some h)] ⟨Ay4 [.int .i64 x6, .any, .any], [none, none], h⟩ ((True) ∧ callO cf (.fn 83 []) [.str a0.label, .str b0.label] h = some (.int .i64 x4, h) ∧ callO cf (.fn 81 []) [.int .i64 a0.int, .int .i64 b0.int] h = some (.int .i64 x5, h) ∧ callO cf (.fn 82 []) [.fz [.int .i64 x4, .int .i64 x5] 2 true] h = some (.int .i64 x6, h) ∧ True) (by kernel_rfl) ⟨trivial, ⟨callO_of (by kernel_rfl) (S83_ _ _ _ e4 _ _ (frs (fr_cons (fr_str) (fr_cons (fr_str) (fr_nil))))), callO_of (by kernel_rfl) (S81_ _ _ _ e5 _ _ (frs (fr_cons (fr_int) (fr_cons (fr_int) (fr_nil))))), callO_of (by kernel_rfl) (S82_ _ _ e6 _ _ (frs (fr_cons (fr_lit (E := eInt) (l := [x4, x5]) (by kernel_rfl) (by kernel_rfl) rfl) (fr_nil)))), trivial⟩⟩ ?_
      refine ends_ret ?_
      have H := Option.some.inj H
      subst H
      exact ⟨.inl rfl, ⟨.int .i64 x6, by kernel_rfl, frb (fb_int)⟩⟩
end
end Go.Proofs.YtmekcfdllhphlaaDoor

namespace Go.Proofs.YtmekcfdllhphlaaDoor
open Go Go.R
open Go.IntKind (i64 u64 u8 u32)
def ann85 : Ann := { keep := [0, 1, 2, 5], locs := [], dead := [(0, [5]), (1, [0, 1, 2])], frz := [], frz2 := [] }
noncomputable def g85R0 := sub [0] (codeOf Tryd.f85)
noncomputable def g85R1 := sub [1, 0] (codeOf Tryd.f85)
theorem g85_eq : codeOf Tryd.f85 = (.seq g85R0 (.seq g85R1 .ret)) := by kernel_rfl
def tree_classes_1.f (m : Nat) (i0 : Int) (j0 : Int) (x0 : List VNode) : Option (Int) := (ix x0 i0).bind fun v0 => (ix x0 j0).bind fun v1 => (tree_compareTop.f m v0 v1).bind fun x1 => some x1
def tree_classes_1.fin (h : AHeap) (r : Int) (s : St) : Prop := resultA Tryd.prog (s.open ann85) Tryd.f85.results.toList = some (.int .i64 r) ∧ s.h = h
def S85 (cf : CallF) (m : Nat) : Prop := ∀ (i0 : Int) (j0 : Int) (x0 : List VNode) (r : Int), tree_classes_1.f m i0 j0 x0 = some r → ∀ h L (qad_x0_ ad_x0 : Nat), Has h L → L[qad_x0_]? = some (ad_x0, .ob [eNode.fz x0]) → cf 85 [.int .i64 i0, .int .i64 j0, .ptr ad_x0 0] h = some (.int .i64 r, h)
section
variable {cf : CallF} {m : Nat}
theorem tree_classes_1_body {ann : FuncId → Ann} (ha : ann 85 = ann85) (S65_ : S65 cf m) (i0 : Int) (j0 : Int) (x0 : List VNode) (h : AHeap) (L : Mem)  {qad_x0_ ad_x0 : Nat} (hqad_x0_ : L[qad_x0_]? = some (ad_x0, .ob [eNode.fz x0])) (o : Has h (L)) {out : Int} (H : tree_classes_1.f m i0 j0 x0 = some out) :
    ∃ r h', bodyA Tryd.prog ann cf m 85 [.int .i64 i0, .int .i64 j0, .ptr ad_x0 0] h = some (r, h') ∧ r = (.int .i64 out) ∧ h' = h := by
  refine body_of_ends2 (fn := Tryd.f85) ha Tryd.func85 (by kernel_rfl) (by kernel_rfl) ?_
  refine ends_fin (Q := fun s => tree_classes_1.fin h out s) (fun _ _ ⟨h1, h2, h3⟩ => ⟨h1, _, h2, rfl, h3⟩) ?_
  refine ends_of_eq g85_eq ?_
  have H : _ = some out := H
  unfold tree_classes_1.f at H
  show Enz _ cf ann85 m _ ⟨[.int .i64 i0, .int .i64 j0, .ptr ad_x0 0, .any], [], h⟩ _
  refine sr [] [] ⟨[.int .i64 i0, .int .i64 j0, .ptr ad_x0 0, .any], [], h⟩ ((True) ∧ True) (by kernel_rfl) ⟨trivial, trivial⟩ ?_
  refine ends_seq ?_
  obtain ⟨v0, e0, H⟩ := bsi H
  obtain ⟨v1, e1, H⟩ := bsi H
  obtain ⟨x1, e2, H⟩ := bsi H
  refine er [] [(0, eNode.fz x0, none), (2, .fp (eNode.l x0) (i0.toNat * 4), none), (3, .agg [.int .i64 v0.kind, .int .i64 v0.int, .str v0.label, eInt.fz v0.args], none), (4, eNode.fz x0, none), (6, .fp (eNode.l x0) (j0.toNat * 4), none), (7, .agg [.int .i64 v1.kind, .int .i64 v1.int, .str v1.label, eInt.fz v1.args], none), (8, .int .i64 x1, some h)] ⟨Ay3 [.int .i64 x1], [], h⟩ ((True) ∧ loadH Tryd.prog h 29 (.ptr ad_x0 0) = some (eNode.fz x0) ∧ indexAddrA Tryd.prog 29 (eNode.fz x0) (.int .i64 i0) = some (.fp (eNode.l x0) (i0.toNat * 4)) ∧ loadH Tryd.prog h 48 (.fp (eNode.l x0) (i0.toNat * 4)) = some (.agg [.int .i64 v0.kind, .int .i64 v0.int, .str v0.label, eInt.fz v0.args]) ∧ loadH Tryd.prog h 29 (.ptr ad_x0 0) = some (eNode.fz x0) ∧ indexAddrA Tryd.prog 29 (eNode.fz x0) (.int .i64 j0) = some (.fp (eNode.l x0) (j0.toNat * 4)) ∧ loadH Tryd.prog h 48 (.fp (eNode.l x0) (j0.toNat * 4)) = some (.agg [.int .i64 v1.kind, .int .i64 v1.int, .str v1.label, eInt.fz v1.args]) ∧ callO cf (.fn 65 []) [.agg [.int .i64 v0.kind, .int .i64 v0.int, .str v0.label, eInt.fz v0.args], .agg [.int .i64 v1.kind, .int .i64 v1.int, .str v1.label, eInt.fz v1.args]] h = some (.int .i64 x1, h) ∧ True) (by kernel_rfl) ⟨trivial, ⟨ld_ob (q := qad_x0_) (cs := [eNode.fz x0]) o hqad_x0_ (by kernel_rfl), ia_fz (E := eNode) (l := x0) T29 e0, ld_fzA (E := eNode) (l := x0) h A48 Z48 e0, ld_ob (q := qad_x0_) (cs := [eNode.fz x0]) o hqad_x0_ (by kernel_rfl), ia_fz (E := eNode) (l := x0) T29 e1, ld_fzA (E := eNode) (l := x0) h A48 Z48 e1, callO_of (by kernel_rfl) (S65_ _ _ _ e2 _ _ (frs (fr_cons (fr_agg (fr_cons (fr_int) (fr_cons (fr_int) (fr_cons (fr_str) (fr_cons (fr_fz (E := eInt)) (fr_nil)))))) (fr_cons (fr_agg (fr_cons (fr_int) (fr_cons (fr_int) (fr_cons (fr_str) (fr_cons (fr_fz (E := eInt)) (fr_nil)))))) (fr_nil))))), trivial⟩⟩ ?_
  refine ends_ret ?_
  have H := Option.some.inj H
  subst H
  exact ⟨.inl rfl, ⟨by kernel_rfl, rfl⟩⟩
end
end Go.Proofs.YtmekcfdllhphlaaDoor

namespace Go.Proofs.YtmekcfdllhphlaaDoor
open Go Go.R
open Go.IntKind (i64 u64 u8 u32)
def validB (t : VTree) : Bool := decide (1 ≤ t.nodes.length) && decide (t.nodes.length ≤ 8000) && decide (0 ≤ t.root) && decide (t.root < t.nodes.length) && t.nodes.all fun n => nodeB n t.nodes.length
theorem valid_spec {m : Nat} (hm : 2 ^ 30 ≤ m) (t : VTree) : tree_Valid.f m t = some (validB t) := by
  have p30 : (2 : Nat) ^ 30 = 1073741824 := by decide
  have p40 : (2 : Nat) ^ 40 = 1099511627776 := by decide
  unfold tree_Valid.f validB
  by_cases h1 : 1 ≤ t.nodes.length
  · rw [if_pos (by simp only [decide_eq_true_eq]; omega), decide_eq_true h1]
    by_cases h2 : t.nodes.length ≤ 8000
    · rw [if_pos (by simp only [decide_eq_true_eq]; omega), decide_eq_true h2]
      by_cases h3 : 0 ≤ t.root
      · rw [if_pos (by simp only [decide_eq_true_eq]; omega), decide_eq_true h3]
        by_cases h4 : t.root < t.nodes.length
        · rw [if_pos (by simp only [decide_eq_true_eq]; omega), decide_eq_true h4]
          rw [containsN (g := fun n => !(nodeB n t.nodes.length)) (by omega) (by omega) (fun n _ => by unfold tree_Valid_1.f; rw [node_spec (by omega)]; rfl), Option.bind_some]
          simp [List.not_any_eq_all_not]
        · rw [if_neg (by simp only [decide_eq_true_eq]; omega), decide_eq_false h4]; rfl
      · rw [if_neg (by simp only [decide_eq_true_eq]; omega), decide_eq_false h3]; rfl
    · rw [if_neg (by simp only [decide_eq_true_eq]; omega), decide_eq_false h2]; rfl
  · rw [if_neg (by simp only [decide_eq_true_eq]; omega), decide_eq_false h1]; rfl
def cI (x y : Int) : Int := if x < y then -1 else if y < x then 1 else 0
def cS (x y : ByteArray) : Int := if Op.bytesLess x.data.toList y.data.toList = true then -1 else if (!strLe x y) = true then 1 else 0
def cOr (x y : Int) : Int := if x = 0 then y else x
def cT (a b : VNode) : Int := if a.kind = b.kind then (if a.kind = 3 then cOr (cI a.args.length b.args.length) (cS a.label b.label) else cOr (cS a.label b.label) (cI a.int b.int)) else cI a.kind b.kind
theorem cI_spec {m : Nat} (x y : Int) : cmp_Compare_int.f m x y = some (cI x y) := by
  unfold cmp_Compare_int.f cmp_isNaN_int.f cI
  simp only [beq_self_eq_true, Bool.not_true, Option.bind_some, Bool.false_eq_true, if_false]
  by_cases h : x < y
  · rw [if_pos (by simpa using h), if_pos h]
  · rw [if_neg (by simpa using h), if_neg h]
    by_cases h2 : y < x
    · rw [if_pos (by simpa using h2), if_pos h2]
    · rw [if_neg (by simpa using h2), if_neg h2]
theorem cS_spec {m : Nat} (x y : ByteArray) : cmp_Compare_string.f m x y = some (cS x y) := by
  unfold cmp_Compare_string.f cmp_isNaN_string.f cS
  simp only [beq_self_eq_true, Bool.not_true, Option.bind_some, Bool.false_eq_true, if_false]
  split
  · rfl
  · split
    · rfl
    · rfl
theorem cOr_spec {m : Nat} (hm : 3 ≤ m) (x y : Int) : cmp_Or_int.f m [x, y] = some (cOr x y) := by
  obtain ⟨k, rfl⟩ : ∃ k, m = k + 3 := ⟨m - 3, by omega⟩
  unfold cmp_Or_int.f cOr
  have e1 : i64.wrap ((0 : Int) + 1) = 1 := by decide
  have e2 : i64.wrap ((1 : Int) + 1) = 2 := by decide
  have a0 : ix [x, y] 0 = some x := rfl
  have a1 : ix [x, y] 1 = some y := rfl
  unfold cmp_Or_int.l0
  rw [if_pos (by simp), a0, Option.bind_some]
  by_cases h : x = 0
  · subst h
    rw [if_neg (by simp), e1, if_pos rfl]
    unfold cmp_Or_int.l0
    rw [if_pos (by simp), a1, Option.bind_some]
    by_cases h2 : y = 0
    · subst h2
      rw [if_neg (by simp), e2]
      unfold cmp_Or_int.l0
      rw [if_neg (by simp)]; rfl
    · rw [if_pos (by simpa using h2)]; rfl
  · rw [if_pos (by simpa using h), if_neg h]; rfl
theorem cT_spec {m : Nat} (hm : 3 ≤ m) (a b : VNode) : tree_compareTop.f m a b = some (cT a b) := by
  unfold tree_compareTop.f cT
  by_cases h : a.kind = b.kind
  · rw [if_neg (by simp [h]), if_pos h]
    by_cases h3 : a.kind = 3
    · rw [if_pos (by simpa using h3), if_pos h3, cI_spec, cS_spec, Option.bind_some, Option.bind_some, cOr_spec hm]; rfl
    · rw [if_neg (by simpa using h3), if_neg h3, cI_spec, cS_spec, Option.bind_some, Option.bind_some, cOr_spec hm]; rfl
  · rw [if_pos (by simpa using h), if_neg h, cI_spec]; rfl
def nd (l : List VNode) (i : Int) : VNode := l.getD i.toNat ⟨0, 0, ⟨#[]⟩, []⟩
theorem ix_nd {l : List VNode} {i : Int} (h0 : 0 ≤ i) (h1 : i < l.length) : ix l i = some (nd l i) := by
  unfold ix nd
  have h : i.toNat < l.length := by omega
  rw [if_pos h0, List.getD_eq_getElem?_getD, List.getElem?_eq_getElem h]; rfl
theorem nd_mem {l : List VNode} {i : Int} (h0 : 0 ≤ i) (h1 : i < l.length) : nd l i ∈ l := by
  have := ix_nd h0 h1
  unfold ix at this
  rw [if_pos h0] at this
  exact List.mem_of_getElem? this
theorem top_spec {m : Nat} (hm : 3 ≤ m) {l : List VNode} {i j : Int} (h0 : 0 ≤ i) (h1 : i < l.length) (h2 : 0 ≤ j) (h3 : j < l.length) : tree_classes_1.f m i j l = some (cT (nd l i) (nd l j)) := by
  unfold tree_classes_1.f
  rw [ix_nd h0 h1, ix_nd h2 h3, Option.bind_some, Option.bind_some, cT_spec hm]; rfl
end Go.Proofs.YtmekcfdllhphlaaDoor

