/- Part of the proof: Q68, Q47, PT10, Q54, Q59, Q43, PR2, Q74, Q55. -/
import Derived.Test.YtmekcfdllhphlaaDoorK10
set_option linter.unusedVariables false
set_option linter.unusedSimpArgs false
set_option maxRecDepth 100000
namespace Go.Proofs.YtmekcfdllhphlaaDoor
open Go Go.R
open Go.IntKind (i64 u64 u8 u32)
def ann68 : Ann := { keep := [0, 1, 2, 3, 4, 5, 7, 8, 9, 10, 11, 12, 14, 24, 53, 54, 55, 56], locs := [11], dead := [(0, [7, 8, 9, 10, 11, 12, 14, 24, 53, 54, 55, 56]), (1, [7, 10, 11, 12, 14, 24, 53, 54, 55, 56]), (2, [7, 9, 10, 11, 12, 14, 53, 54, 55, 56]), (3, [0, 1, 2, 3, 4, 5, 8, 9, 10, 11, 12, 14, 24, 53, 54, 55, 56]), (4, [7, 8, 9, 11, 12, 14, 24, 53, 54, 55, 56]), (5, [1, 2, 7, 8, 9, 11, 12, 14, 24, 53, 54, 55, 56]), (6, [0, 1, 2, 4, 7, 8, 9, 12, 14, 24, 53, 54, 55, 56]), (7, [0, 1, 2, 4, 7, 8, 9, 12, 14, 24, 53, 54, 55, 56]), (8, [0, 1, 2, 4, 7, 8, 9, 14, 24, 53, 54, 55, 56]), (9, [0, 1, 2, 4, 7, 8, 9, 11, 14, 24, 56]), (10, [0, 1, 2, 4, 7, 8, 9, 11, 14, 24]), (11, [0, 1, 2, 4, 7, 8, 9, 11, 24, 56]), (12, [0, 1, 2, 4, 7, 8, 9, 11, 14, 24, 56]), (13, [0, 1, 2, 4, 7, 8, 9, 11, 14, 24, 56]), (14, [0, 1, 2, 3, 4, 5, 7, 8, 9, 11, 12, 14, 24, 53, 54, 55, 56]), (15, [0, 1, 2, 3, 4, 5, 8, 9, 10, 11, 12, 14, 24, 53, 54, 55, 56])], frz := [(14, [(12, none, 0)])], frz2 := [(8, [(12, none, 1)])] }
noncomputable def g68R0 := sub [0] (codeOf Tryd.f68)
noncomputable def g68R1 := sub [1, 0, 0] (codeOf Tryd.f68)
noncomputable def g68R2 := sub [1, 0, 1, 0] (codeOf Tryd.f68)
noncomputable def g68R3 := sub [1, 0, 1, 1, 0, 0] (codeOf Tryd.f68)
noncomputable def g68R4 := sub [1, 1, 0] (codeOf Tryd.f68)
noncomputable def g68R5 := sub [1, 1, 1, 0] (codeOf Tryd.f68)
noncomputable def g68R6 := sub [1, 1, 1, 1, 0] (codeOf Tryd.f68)
noncomputable def g68R7 := sub [1, 1, 1, 1, 1, 0] (codeOf Tryd.f68)
noncomputable def g68R8 := sub [1, 1, 1, 1, 1, 1, 0] (codeOf Tryd.f68)
noncomputable def g68R9 := sub [1, 1, 1, 1, 1, 1, 1, 0, 0] (codeOf Tryd.f68)
noncomputable def g68L0 := sub [1, 1, 1, 1, 1, 1, 1, 0, 1, 0, 0] (codeOf Tryd.f68)
noncomputable def g68R10 := sub [1, 1, 1, 1, 1, 1, 1, 0, 1, 0, 0, 0] (codeOf Tryd.f68)
noncomputable def g68R11 := sub [1, 1, 1, 1, 1, 1, 1, 0, 1, 0, 0, 1, 1, 0, 0, 0] (codeOf Tryd.f68)
noncomputable def g68R12 := sub [1, 1, 1, 1, 1, 1, 1, 0, 1, 0, 0, 1, 1, 0, 0, 1] (codeOf Tryd.f68)
noncomputable def g68R13 := sub [1, 1, 1, 1, 1, 1, 1, 0, 1, 0, 0, 1, 1, 1] (codeOf Tryd.f68)
noncomputable def g68R14 := sub [1, 1, 1, 1, 1, 1, 1, 1, 0] (codeOf Tryd.f68)
noncomputable def g68R15 := sub [1, 1, 1, 1, 1, 1, 1, 1, 1, 0] (codeOf Tryd.f68)
theorem g68L0_eq : g68L0 = (.seq g68R10 (.seq (.cond (.tmp 56) .skip (.exit 0)) (.seq (.block 1 (.seq g68R11 g68R12)) g68R13))) := by kernel_rfl
theorem g68_eq : codeOf Tryd.f68 = (.seq g68R0 (.seq (.seq g68R1 (.seq g68R2 (.cond (.tmp 24) (.seq g68R3 .ret) .skip))) (.seq g68R4 (.seq g68R5 (.seq g68R6 (.seq g68R7 (.seq g68R8 (.seq (.seq g68R9 (.block 0 (.loop g68L0))) (.seq g68R14 (.seq g68R15 .ret)))))))))) := by kernel_rfl
def tree_least_1.l0 (m : Nat) (x1 : List Int) (x3 : VTree) (rec : Int → (List (Int × Int)) → (List Int) → VTree → VTree → Option (Int × (List (Int × Int)) × VTree)) (v2 : VNode) : Nat → (List Int) → Int → (List (Int × Int)) → VTree → Option ((List Int) × Int × (List (Int × Int)) × VTree)
  | 0, _, _, _, _ => none
  | k + 1, args0, x6, x7, x8 => if (decide (x6 < (v2.args.length : Int))) = true then ((ix v2.args x6).bind fun v3 => (rec v3 x7 x1 x8 x3).bind fun x9 => (app 8 args0 ([x9.1])).bind fun x10 => tree_least_1.l0 m x1 x3 rec v2 k x10 (i64.wrap (x6 + (1 : Int))) x9.2.1 x9.2.2) else (some ((args0, x6, x7, x8)))
def tree_least_1.b (m : Nat) (rec : Int → (List (Int × Int)) → (List Int) → VTree → VTree → Option (Int × (List (Int × Int)) × VTree)) (i0 : Int) (x0 : List (Int × Int)) (x1 : List Int) (x2 : VTree) (x3 : VTree) : Option (Int × (List (Int × Int)) × VTree) := (ix x1 i0).bind fun v0 => if ((mgI x0 v0).2) = true then (some ((mgI x0 v0).1, x0, x2)) else ((ix x1 i0).bind fun v1 => (ix x3.nodes i0).bind fun v2 => (app 56 x2.nodes ([(VNode.mk v2.kind v2.int v2.label ([]))])).bind fun x5 => (tree_least_1.l0 m x1 x3 rec v2 m ([] : List Int) (0 : Int) (msI x0 v1 (x2.nodes.length : Int)) (VTree.mk x5 x2.root)).bind fun out0 => match out0 with | (args1, x11, x12, x13) => (ix x13.nodes (x2.nodes.length : Int)).bind fun v4 => some ((x2.nodes.length : Int), x12, (VTree.mk (x13.nodes.set (x2.nodes.length : Int).toNat (VNode.mk v4.kind v4.int v4.label args1)) x13.root)))
def tree_least_1.f (m : Nat) : Nat → Int → (List (Int × Int)) → (List Int) → VTree → VTree → Option (Int × (List (Int × Int)) × VTree)
  | 0, _, _, _, _, _ => none
  | k + 1, i0, x0, x1, x2, x3 => tree_least_1.b m (tree_least_1.f m k) i0 x0 x1 x2 x3
def tree_least_1.fin (L : Mem) (ad_x0 : Nat) (im_x0 : Nat) (ad_x1 : Nat) (ad_x2 : Nat) (is_x2_0 : Nat) (ad_x3 : Nat) (ad_x4 : Nat) (i0 : Int) (x0 : List (Int × Int)) (x1 : List Int) (x2 : VTree) (x3 : VTree) (r : Int × (List (Int × Int)) × VTree) (s : St) : Prop := ∃ iw3_0 : Nat, resultA Tryd.prog (s.open ann68) Tryd.f68.results.toList = some (.int .i64 r.1) ∧ Has s.h ((ad_x0, .ob [.mp im_x0]) :: (im_x0, .mp (mpI r.2.1)) :: (ad_x1, .ob [eInt.fz x1]) :: (ad_x2, .ob [.rs iw3_0 0 r.2.2.nodes.length 4, .int .i64 r.2.2.root]) :: (iw3_0, .sl r.2.2.nodes.length 4 (eNode.l r.2.2.nodes)) :: (ad_x3, .ob [eNode.fz x3.nodes, .int .i64 x3.root]) :: (ad_x4, .ob [.fn 68 [.ptr ad_x0 0, .ptr ad_x1 0, .ptr ad_x2 0, .ptr ad_x3 0, .ptr ad_x4 0]]) :: L)
def S68 (cf : CallF) (m : Nat) (kk : Nat) : Prop := ∀ (i0 : Int) (x0 : List (Int × Int)) (x1 : List Int) (x2 : VTree) (x3 : VTree) (r : Int × (List (Int × Int)) × VTree), tree_least_1.f m kk i0 x0 x1 x2 x3 = some r → ∀ h L (ad_x0 : Nat) (im_x0 : Nat) (ad_x1 : Nat) (ad_x2 : Nat) (is_x2_0 : Nat) (ad_x3 : Nat) (ad_x4 : Nat), Has h ((ad_x0, .ob [.mp im_x0]) :: (im_x0, .mp (mpI x0)) :: (ad_x1, .ob [eInt.fz x1]) :: (ad_x2, .ob [.rs is_x2_0 0 x2.nodes.length 4, .int .i64 x2.root]) :: (is_x2_0, .sl x2.nodes.length 4 (eNode.l x2.nodes)) :: (ad_x3, .ob [eNode.fz x3.nodes, .int .i64 x3.root]) :: (ad_x4, .ob [.fn 68 [.ptr ad_x0 0, .ptr ad_x1 0, .ptr ad_x2 0, .ptr ad_x3 0, .ptr ad_x4 0]]) :: L) → ∀ xs, xs.map canonArg = [.int .i64 i0, .ptr ad_x0 0, .ptr ad_x1 0, .ptr ad_x2 0, .ptr ad_x3 0, .ptr ad_x4 0] → ∃ iw3_0 h', cf 68 xs h = some (.int .i64 r.1, h') ∧ Has h' ((ad_x0, .ob [.mp im_x0]) :: (im_x0, .mp (mpI r.2.1)) :: (ad_x1, .ob [eInt.fz x1]) :: (ad_x2, .ob [.rs iw3_0 0 r.2.2.nodes.length 4, .int .i64 r.2.2.root]) :: (iw3_0, .sl r.2.2.nodes.length 4 (eNode.l r.2.2.nodes)) :: (ad_x3, .ob [eNode.fz x3.nodes, .int .i64 x3.root]) :: (ad_x4, .ob [.fn 68 [.ptr ad_x0 0, .ptr ad_x1 0, .ptr ad_x2 0, .ptr ad_x3 0, .ptr ad_x4 0]]) :: L)
section
variable {cf : CallF} {m : Nat}
def tree_least_1.l0.R (L : Mem) (ad_x0 : Nat) (im_x0 : Nat) (ad_x1 : Nat) (ad_x2 : Nat) (is_x2_0 : Nat) (ad_x3 : Nat) (ad_x4 : Nat) (i0 : Int) (x0 : List (Int × Int)) (x1 : List Int) (x2 : VTree) (x3 : VTree) (v2 : VNode) (σ : (List Int) × Int × (List (Int × Int)) × VTree) (s : St) : Prop :=
  match σ with
  | (args0, x6, x7, x8) => ∃ (g0 : AV) (g1 : AV) (ad1 : Nat) (ad2 : Nat) (h3 : AHeap), s = ⟨Ay3 (.ptr ad_x2 0 :: .any :: .ptr ad_x4 0 :: Ay3 [.int .i64 (x2.nodes.length : Int), .any, .rs ad1 0 args0.length 1, .any, g0, eInt.fz v2.args, .int .i64 (v2.args.length : Int), .int .i64 x6, g1]), [none], h3⟩ ∧ Has h3 ((ad1, .sl args0.length 1 (eInt.l args0)) :: (ad_x0, .ob [.mp im_x0]) :: (im_x0, .mp (mpI x7)) :: (ad_x1, .ob [eInt.fz x1]) :: (ad_x2, .ob [.rs ad2 0 x8.nodes.length 4, .int .i64 x8.root]) :: (ad2, .sl x8.nodes.length 4 (eNode.l x8.nodes)) :: (ad_x3, .ob [eNode.fz x3.nodes, .int .i64 x3.root]) :: (ad_x4, .ob [.fn 68 [.ptr ad_x0 0, .ptr ad_x1 0, .ptr ad_x2 0, .ptr ad_x3 0, .ptr ad_x4 0]]) :: L)
def tree_least_1.l0.Q (L : Mem) (ad_x0 : Nat) (im_x0 : Nat) (ad_x1 : Nat) (ad_x2 : Nat) (is_x2_0 : Nat) (ad_x3 : Nat) (ad_x4 : Nat) (i0 : Int) (x0 : List (Int × Int)) (x1 : List Int) (x2 : VTree) (x3 : VTree) (v2 : VNode) (out : (List Int) × Int × (List (Int × Int)) × VTree) (e : Ex) (s : St) : Prop :=
  (e = .exit 0 ∧ ∃ (args0 : List Int) (x6 : Int) (x7 : List (Int × Int)) (x8 : VTree), (args0, x6, x7, x8) = out ∧ ∃ (x5_ : AV) (x24_ : AV) (x53_ : AV) (x54_ : AV) (x55_ : AV) (x56_ : AV) (ad1 : Nat) (ad2 : Nat) (h3 : AHeap), s = ⟨Ay3 (.ptr ad_x2 0 :: .any :: x5_ :: Ay3 [.int .i64 (x2.nodes.length : Int), .any, .rs ad1 0 args0.length 1, .any, x24_, x53_, x54_, x55_, x56_]), [none], h3⟩ ∧ Has h3 ((ad1, .sl args0.length 1 (eInt.l args0)) :: (ad_x0, .ob [.mp im_x0]) :: (im_x0, .mp (mpI x7)) :: (ad_x1, .ob [eInt.fz x1]) :: (ad_x2, .ob [.rs ad2 0 x8.nodes.length 4, .int .i64 x8.root]) :: (ad2, .sl x8.nodes.length 4 (eNode.l x8.nodes)) :: (ad_x3, .ob [eNode.fz x3.nodes, .int .i64 x3.root]) :: (ad_x4, .ob [.fn 68 [.ptr ad_x0 0, .ptr ad_x1 0, .ptr ad_x2 0, .ptr ad_x3 0, .ptr ad_x4 0]]) :: L))
theorem tree_least_1.l0_ok (L : Mem) (ad_x0 : Nat) (im_x0 : Nat) (ad_x1 : Nat) (ad_x2 : Nat) (is_x2_0 : Nat) (ad_x3 : Nat) (ad_x4 : Nat) (i0 : Int) (x0 : List (Int × Int)) (x1 : List Int) (x2 : VTree) (x3 : VTree) (v2 : VNode)  {kk : Nat} (S68_ : S68 cf m kk)  {σ : (List Int) × Int × (List (Int × Int)) × VTree} {s : St} {out : (List Int) × Int × (List (Int × Int)) × VTree} (hr : tree_least_1.l0.R L ad_x0 im_x0 ad_x1 ad_x2 is_x2_0 ad_x3 ad_x4 i0 x0 x1 x2 x3 v2 σ s) (H : (fun k σ => tree_least_1.l0 m x1 x3 (tree_least_1.f m kk) v2 k σ.1 σ.2.1 σ.2.2.1 σ.2.2.2) m σ = some out) : Enz Tryd.prog cf ann68 m (.loop g68L0) s (tree_least_1.l0.Q L ad_x0 im_x0 ad_x1 ad_x2 is_x2_0 ad_x3 ad_x4 i0 x0 x1 x2 x3 v2 out) := by
  refine ends_loop (fun k σ => tree_least_1.l0 m x1 x3 (tree_least_1.f m kk) v2 k σ.1 σ.2.1 σ.2.2.1 σ.2.2.2) (tree_least_1.l0.R L ad_x0 im_x0 ad_x1 ad_x2 is_x2_0 ad_x3 ad_x4 i0 x0 x1 x2 x3 v2) (tree_least_1.l0.Q L ad_x0 im_x0 ad_x1 ad_x2 is_x2_0 ad_x3 ad_x4 i0 x0 x1 x2 x3 v2) (fun _ => rfl) ?_ hr H (fun _ _ _ h => h)
  clear hr H σ s out
  rintro k ⟨args0, x6, x7, x8⟩ s out ⟨g0, g1, ad1, ad2, h3, rfl, o4⟩ H
  have H : tree_least_1.l0 m x1 x3 (tree_least_1.f m kk) v2 (k + 1) args0 x6 x7 x8 = some out := H
  refine ends_of_eq g68L0_eq ?_
  refine sr [] [] ⟨Ay3 (.ptr ad_x2 0 :: .any :: .ptr ad_x4 0 :: Ay3 [.int .i64 (x2.nodes.length : Int), .any, .rs ad1 0 args0.length 1, .any, .any, eInt.fz v2.args, .int .i64 (v2.args.length : Int), .int .i64 x6, .bool (decide (x6 < (v2.args.length : Int)))]), [none], h3⟩ ((True) ∧ True) (by kernel_rfl) ⟨trivial, trivial⟩ ?_
  refine ends_seq ?_
  refine ends_cond (decide (x6 < (v2.args.length : Int))) (by kernel_rfl) (fun c1 => ?_) (fun c1 => ?_)
  · have H := ifp c1 H
    refine ends_skip ?_
    refine ends_seq ?_
    refine ends_block ?_
    refine ends_seq ?_
    obtain ⟨v3, e7, H⟩ := bsi H
    refine er [] [(0, .fp (eInt.l v2.args) (x6.toNat * 1), none), (1, .int .i64 v3, none)] ⟨Ay3 (.ptr ad_x2 0 :: .any :: .ptr ad_x4 0 :: Ay3 [.int .i64 (x2.nodes.length : Int), .any, .rs ad1 0 args0.length 1, .int .i64 v3, .any, eInt.fz v2.args, .int .i64 (v2.args.length : Int), .int .i64 x6, .any]), [none], h3⟩ ((True) ∧ indexAddrA Tryd.prog 42 (eInt.fz v2.args) (.int .i64 x6) = some (.fp (eInt.l v2.args) (x6.toNat * 1)) ∧ loadH Tryd.prog h3 3 (.fp (eInt.l v2.args) (x6.toNat * 1)) = some (.int .i64 v3) ∧ True) (by kernel_rfl) ⟨trivial, ⟨ia_fz (E := eInt) (l := v2.args) T42 e7, ld_fz0 (E := eInt) (l := v2.args) h3 A3 e7 rfl, trivial⟩⟩ ?_
    obtain ⟨x9, e8, H⟩ := bsi H
    obtain ⟨ad3, h4, e9, o5⟩ := S68_ _ _ _ _ _ _ e8 h3 _ _ _ _ _ _ _ _ ((Has.front (Has.front (Has.front (Has.front (Has.front (Has.front (Has.front (Has.front o4 0 rfl) 7 rfl) 7 rfl) 7 rfl) 7 rfl) 7 rfl) 7 rfl) 7 rfl))  [.int .i64 v3, .ptr ad_x0 0, .ptr ad_x1 0, .ptr ad_x2 0, .ptr ad_x3 0, .ptr ad_x4 0] (can_cons (can_pure (pu_int)) (can_cons (rfl) (can_cons (rfl) (can_cons (rfl) (can_cons (rfl) (can_cons (rfl) (can_nil)))))))
    obtain ⟨x10, e10, H⟩ := bsi H
    obtain ⟨ad4, h5, e11, o6⟩ := ap_own (P := Tryd.prog) (E := eInt) (l := args0) (q := 7) (t2 := 42) (x := .fz [.int .i64 x9.1] 1 true) (l2 := ([x9.1])) T42 o5 rfl (by kernel_rfl) rfl e10
    refine er [] [(1, .fn 68 [.ptr ad_x0 0, .ptr ad_x1 0, .ptr ad_x2 0, .ptr ad_x3 0, .ptr ad_x4 0], none), (3, .int .i64 x9.1, some h4), (5, .rs ad4 0 x10.length 1, some h5)] ⟨Ay3 (.ptr ad_x2 0 :: .any :: .ptr ad_x4 0 :: Ay3 [.int .i64 (x2.nodes.length : Int), .any, .rs ad4 0 x10.length 1, .any, .any, eInt.fz v2.args, .int .i64 (v2.args.length : Int), .int .i64 x6, .any]), [none], h5⟩ ((True) ∧ loadH Tryd.prog h3 99 (.ptr ad_x4 0) = some (.fn 68 [.ptr ad_x0 0, .ptr ad_x1 0, .ptr ad_x2 0, .ptr ad_x3 0, .ptr ad_x4 0]) ∧ callO cf (.fn 68 [.ptr ad_x0 0, .ptr ad_x1 0, .ptr ad_x2 0, .ptr ad_x3 0, .ptr ad_x4 0]) [.int .i64 v3] h3 = some (.int .i64 x9.1, h4) ∧ appendA Tryd.prog h4 42 42 (.rs ad1 0 args0.length 1) (.fz [.int .i64 x9.1] 1 true) = some (.rs ad4 0 x10.length 1, h5) ∧ True) (by kernel_rfl) ⟨trivial, ⟨ld_ob (q := 7) (cs := [.fn 68 [.ptr ad_x0 0, .ptr ad_x1 0, .ptr ad_x2 0, .ptr ad_x3 0, .ptr ad_x4 0]]) o4 rfl (by kernel_rfl), callO_of (by kernel_rfl) e9, e11, trivial⟩⟩ ?_
    refine er [] [] ⟨Ay3 (.ptr ad_x2 0 :: .any :: .ptr ad_x4 0 :: Ay3 [.int .i64 (x2.nodes.length : Int), .any, .rs ad4 0 x10.length 1, .any, .any, eInt.fz v2.args, .int .i64 (v2.args.length : Int), .int .i64 (i64.wrap (x6 + (1 : Int))), .any]), [none], h5⟩ ((True) ∧ True) (by kernel_rfl) ⟨trivial, trivial⟩ ?_
    exact ⟨(x10, i64.wrap (x6 + (1 : Int)), x9.2.1, x9.2.2), ⟨.any, .any, ad4, ad3, h5, rfl, (Has.front (Has.front (Has.front (Has.front (Has.front (Has.front (Has.front (Has.front o6 6 rfl) 6 rfl) 6 rfl) 6 rfl) 6 rfl) 6 rfl) 6 rfl) 7 rfl)⟩, H⟩
  · have H := ifn c1 H
    refine ends_exit ?_
    have H := Option.some.inj H
    exact ⟨rfl, args0, x6, x7, x8, H, .ptr ad_x4 0, .any, eInt.fz v2.args, .int .i64 (v2.args.length : Int), .int .i64 x6, .bool (decide (x6 < (v2.args.length : Int))), ad1, ad2, h3, rfl, o4⟩
theorem tree_least_1_body {ann : FuncId → Ann} (ha : ann 68 = ann68)  (i0 : Int) (x0 : List (Int × Int)) (x1 : List Int) (x2 : VTree) (x3 : VTree) (h : AHeap) (L : Mem) (ad_x0 : Nat) (im_x0 : Nat) (ad_x1 : Nat) (ad_x2 : Nat) (is_x2_0 : Nat) (ad_x3 : Nat) (ad_x4 : Nat)  {kk : Nat} (S68_ : S68 cf m kk) (o : Has h ((ad_x0, .ob [.mp im_x0]) :: (im_x0, .mp (mpI x0)) :: (ad_x1, .ob [eInt.fz x1]) :: (ad_x2, .ob [.rs is_x2_0 0 x2.nodes.length 4, .int .i64 x2.root]) :: (is_x2_0, .sl x2.nodes.length 4 (eNode.l x2.nodes)) :: (ad_x3, .ob [eNode.fz x3.nodes, .int .i64 x3.root]) :: (ad_x4, .ob [.fn 68 [.ptr ad_x0 0, .ptr ad_x1 0, .ptr ad_x2 0, .ptr ad_x3 0, .ptr ad_x4 0]]) :: L)) {out : Int × (List (Int × Int)) × VTree} (H : tree_least_1.f m (kk + 1) i0 x0 x1 x2 x3 = some out) :
    ∃ r h', bodyA Tryd.prog ann cf m 68 [.int .i64 i0, .ptr ad_x0 0, .ptr ad_x1 0, .ptr ad_x2 0, .ptr ad_x3 0, .ptr ad_x4 0] h = some (r, h') ∧ ∃ iw3_0 : Nat, r = .int .i64 out.1 ∧ Has h' ((ad_x0, .ob [.mp im_x0]) :: (im_x0, .mp (mpI out.2.1)) :: (ad_x1, .ob [eInt.fz x1]) :: (ad_x2, .ob [.rs iw3_0 0 out.2.2.nodes.length 4, .int .i64 out.2.2.root]) :: (iw3_0, .sl out.2.2.nodes.length 4 (eNode.l out.2.2.nodes)) :: (ad_x3, .ob [eNode.fz x3.nodes, .int .i64 x3.root]) :: (ad_x4, .ob [.fn 68 [.ptr ad_x0 0, .ptr ad_x1 0, .ptr ad_x2 0, .ptr ad_x3 0, .ptr ad_x4 0]]) :: L) := by
  refine body_of_ends2 (fn := Tryd.f68) ha Tryd.func68 (by kernel_rfl) (by kernel_rfl) ?_
  refine ends_fin (Q := fun s => tree_least_1.fin L ad_x0 im_x0 ad_x1 ad_x2 is_x2_0 ad_x3 ad_x4 i0 x0 x1 x2 x3 out s) (fun _ _ ⟨h1, iw3_0, h2, h3⟩ => ⟨h1, _, h2, iw3_0, rfl, h3⟩) ?_
  refine ends_of_eq g68_eq ?_
  have H : tree_least_1.b m (tree_least_1.f m kk) i0 x0 x1 x2 x3 = some out := H
  unfold tree_least_1.b at H
  show Enz _ cf ann68 m _ ⟨.int .i64 i0 :: .ptr ad_x0 0 :: .ptr ad_x1 0 :: .ptr ad_x2 0 :: .ptr ad_x3 0 :: .ptr ad_x4 0 :: Ay12 [], [none], h⟩ _
  refine sr [] [] ⟨.int .i64 i0 :: .ptr ad_x0 0 :: .ptr ad_x1 0 :: .ptr ad_x2 0 :: .ptr ad_x3 0 :: .ptr ad_x4 0 :: Ay12 [], [none], h⟩ ((True) ∧ True) (by kernel_rfl) ⟨trivial, trivial⟩ ?_
  refine ends_seq ?_
  refine ends_seq ?_
  obtain ⟨v0, e0, H⟩ := bsi H
  refine er [] [(0, .mp im_x0, none), (1, eInt.fz x1, none), (3, .fp (eInt.l x1) (i0.toNat * 1), none), (4, .int .i64 v0, none), (5, .tup [.int .i64 ((mgI x0 v0).1), .bool ((mgI x0 v0).2)], none)] ⟨.int .i64 i0 :: .ptr ad_x0 0 :: .ptr ad_x1 0 :: .ptr ad_x2 0 :: .ptr ad_x3 0 :: .ptr ad_x4 0 :: .any :: .int .i64 ((mgI x0 v0).1) :: .bool ((mgI x0 v0).2) :: Ay9 [], [none], h⟩ ((True) ∧ loadH Tryd.prog h 98 (.ptr ad_x0 0) = some (.mp im_x0) ∧ loadH Tryd.prog h 42 (.ptr ad_x1 0) = some (eInt.fz x1) ∧ indexAddrA Tryd.prog 42 (eInt.fz x1) (.int .i64 i0) = some (.fp (eInt.l x1) (i0.toNat * 1)) ∧ loadH Tryd.prog h 3 (.fp (eInt.l x1) (i0.toNat * 1)) = some (.int .i64 v0) ∧ lookupA Tryd.prog h 98 (.mp im_x0) (.int .i64 v0) true = some (.tup [.int .i64 ((mgI x0 v0).1), .bool ((mgI x0 v0).2)]) ∧ True) (by kernel_rfl) ⟨trivial, ⟨ld_ob (q := 0) (cs := [.mp im_x0]) o rfl (by kernel_rfl), ld_ob (q := 2) (cs := [eInt.fz x1]) o rfl (by kernel_rfl), ia_fz (E := eInt) (l := x1) T42 e0, ld_fz0 (E := eInt) (l := x1) h A3 e0 rfl, (lk_I (q := 1) (l := x0) (k := v0) MP98 o rfl).1, trivial⟩⟩ ?_
  refine sr [] [] ⟨.int .i64 i0 :: .ptr ad_x0 0 :: .ptr ad_x1 0 :: .ptr ad_x2 0 :: .ptr ad_x3 0 :: .ptr ad_x4 0 :: .any :: .int .i64 ((mgI x0 v0).1) :: Ay5 (.bool ((mgI x0 v0).2) :: Ay4 []), [none], h⟩ ((True) ∧ True) (by kernel_rfl) ⟨trivial, trivial⟩ ?_
  refine ends_cond ((mgI x0 v0).2) (by kernel_rfl) (fun c0 => ?_) (fun c0 => ?_)
  · have H := ifp c0 H
    refine sr [] [] ⟨Ay6 (.int .i64 ((mgI x0 v0).1) :: Ay11 []), [none], h⟩ ((True) ∧ True) (by kernel_rfl) ⟨trivial, trivial⟩ ?_
    refine ends_ret ?_
    have H := Option.some.inj H
    subst H
    exact ⟨.inl rfl, ⟨is_x2_0, by kernel_rfl, o⟩⟩
  · have H := ifn c0 H
    refine ends_skip ?_
    refine sr [] [(1, .rs is_x2_0 0 x2.nodes.length 4, none)] ⟨.int .i64 i0 :: .ptr ad_x0 0 :: .ptr ad_x1 0 :: .ptr ad_x2 0 :: .ptr ad_x3 0 :: .ptr ad_x4 0 :: Ay3 (.int .i64 (x2.nodes.length : Int) :: Ay8 []), [none], h⟩ ((True) ∧ loadH Tryd.prog h 29 (.ptr ad_x2 0) = some (.rs is_x2_0 0 x2.nodes.length 4) ∧ True) (by kernel_rfl) ⟨trivial, ⟨ld_ob (q := 3) (cs := [.rs is_x2_0 0 x2.nodes.length 4, .int .i64 x2.root]) o rfl (by kernel_rfl), trivial⟩⟩ ?_
    refine ends_seq ?_
    obtain ⟨v1, e1, H⟩ := bsi H
    obtain ⟨h0, e2, o0⟩ := mu_I (q := 1) (l := x0) (k := v1) (v := (x2.nodes.length : Int)) MP98 o rfl
    refine er [] [(0, .mp im_x0, none), (1, eInt.fz x1, none), (3, .fp (eInt.l x1) (i0.toNat * 1), none), (4, .int .i64 v1, none), (6, .any, some h0)] ⟨.int .i64 i0 :: .any :: .any :: .ptr ad_x2 0 :: .ptr ad_x3 0 :: .ptr ad_x4 0 :: Ay3 (.int .i64 (x2.nodes.length : Int) :: Ay8 []), [none], h0⟩ ((True) ∧ loadH Tryd.prog h 98 (.ptr ad_x0 0) = some (.mp im_x0) ∧ loadH Tryd.prog h 42 (.ptr ad_x1 0) = some (eInt.fz x1) ∧ indexAddrA Tryd.prog 42 (eInt.fz x1) (.int .i64 i0) = some (.fp (eInt.l x1) (i0.toNat * 1)) ∧ loadH Tryd.prog h 3 (.fp (eInt.l x1) (i0.toNat * 1)) = some (.int .i64 v1) ∧ mapUpdA Tryd.prog h 98 (.mp im_x0) (.int .i64 v1) (.int .i64 (x2.nodes.length : Int)) = some h0 ∧ True) (by kernel_rfl) ⟨trivial, ⟨ld_ob (q := 0) (cs := [.mp im_x0]) o rfl (by kernel_rfl), ld_ob (q := 2) (cs := [eInt.fz x1]) o rfl (by kernel_rfl), ia_fz (E := eInt) (l := x1) T42 e1, ld_fz0 (E := eInt) (l := x1) h A3 e1 rfl, e2, trivial⟩⟩ ?_
    refine ends_seq ?_
    obtain ⟨v2, e3, H⟩ := bsi H
    refine er [] [(1, eNode.fz x3.nodes, none), (3, .fp (eNode.l x3.nodes) (i0.toNat * 4), none), (4, .agg [.int .i64 v2.kind, .int .i64 v2.int, .str v2.label, eInt.fz v2.args], none)] ⟨Ay3 (.ptr ad_x2 0 :: .any :: .ptr ad_x4 0 :: Ay3 (.int .i64 (x2.nodes.length : Int) :: .lp 11 0 :: Ay7 [])), [some [.int .i64 v2.kind, .int .i64 v2.int, .str v2.label, eInt.fz v2.args]], h0⟩ ((True) ∧ loadH Tryd.prog h0 29 (.ptr ad_x3 0) = some (eNode.fz x3.nodes) ∧ indexAddrA Tryd.prog 29 (eNode.fz x3.nodes) (.int .i64 i0) = some (.fp (eNode.l x3.nodes) (i0.toNat * 4)) ∧ loadH Tryd.prog h0 48 (.fp (eNode.l x3.nodes) (i0.toNat * 4)) = some (.agg [.int .i64 v2.kind, .int .i64 v2.int, .str v2.label, eInt.fz v2.args]) ∧ True) (by kernel_rfl) ⟨trivial, ⟨ld_ob (q := 5) (cs := [eNode.fz x3.nodes, .int .i64 x3.root]) o0 rfl (by kernel_rfl), ia_fz (E := eNode) (l := x3.nodes) T29 e3, ld_fzA (E := eNode) (l := x3.nodes) h0 A48 Z48 e3, trivial⟩⟩ ?_
    refine ends_seq ?_
    obtain ⟨x5, e4, H⟩ := bsi H
    obtain ⟨ad0, h1, e5, o1⟩ := ap_own (P := Tryd.prog) (E := eNode) (l := x2.nodes) (q := 4) (t2 := 29) (x := .fz [.int .i64 v2.kind, .int .i64 v2.int, .str v2.label, .nils] 1 true) (l2 := ([(VNode.mk v2.kind v2.int v2.label ([]))])) T29 o0 rfl (by kernel_rfl) rfl e4
    obtain ⟨h2, e6, o2⟩ := st_ob (P := Tryd.prog) (t := 29) (off := 0) (q := 3) (cs := [.rs is_x2_0 0 x2.nodes.length 4, .int .i64 x2.root]) (cs' := [.rs ad0 0 x5.length 4, .int .i64 x2.root]) (x := .rs ad0 0 x5.length 4) o1 rfl (by kernel_rfl)
    refine er [] [(1, .rs is_x2_0 0 x2.nodes.length 4, none), (10, .rs ad0 0 x5.length 4, some h1), (12, .any, some h2)] ⟨Ay3 (.ptr ad_x2 0 :: .any :: .ptr ad_x4 0 :: Ay3 (.int .i64 (x2.nodes.length : Int) :: .lp 11 0 :: Ay7 [])), [some [.int .i64 v2.kind, .int .i64 v2.int, .str v2.label, eInt.fz v2.args]], h2⟩ ((True) ∧ loadH Tryd.prog h0 29 (.ptr ad_x2 0) = some (.rs is_x2_0 0 x2.nodes.length 4) ∧ appendA Tryd.prog h0 29 29 (.rs is_x2_0 0 x2.nodes.length 4) (.fz [.int .i64 v2.kind, .int .i64 v2.int, .str v2.label, .nils] 1 true) = some (.rs ad0 0 x5.length 4, h1) ∧ storeH Tryd.prog h1 29 (.ptr ad_x2 0) (.rs ad0 0 x5.length 4) = some h2 ∧ True) (by kernel_rfl) ⟨trivial, ⟨ld_ob (q := 3) (cs := [.rs is_x2_0 0 x2.nodes.length 4, .int .i64 x2.root]) o0 rfl (by kernel_rfl), e5, e6, trivial⟩⟩ ?_
    refine sr [] [] ⟨Ay3 (.ptr ad_x2 0 :: .any :: .ptr ad_x4 0 :: Ay3 (.int .i64 (x2.nodes.length : Int) :: .lp 11 0 :: .rs (0) 0 (([] : List Int).length) 1 :: Ay6 [])), [some [.int .i64 v2.kind, .int .i64 v2.int, .str v2.label, eInt.fz v2.args]], h2⟩ ((True) ∧ True) (by kernel_rfl) ⟨trivial, trivial⟩ ?_
    have o3 : Has h2 (((0), .sl (([] : List Int).length) 1 (eInt.l ([] : List Int))) :: (ad_x0, .ob [.mp im_x0]) :: (im_x0, .mp (mpI (msI x0 v1 (x2.nodes.length : Int)))) :: (ad_x1, .ob [eInt.fz x1]) :: (ad_x2, .ob [.rs ad0 0 x5.length 4, .int .i64 x2.root]) :: (ad0, .sl x5.length 4 (eNode.l x5)) :: (ad_x3, .ob [eNode.fz x3.nodes, .int .i64 x3.root]) :: (ad_x4, .ob [.fn 68 [.ptr ad_x0 0, .ptr ad_x1 0, .ptr ad_x2 0, .ptr ad_x3 0, .ptr ad_x4 0]]) :: L) := Has.nil o2 1
    refine ends_seq ?_
    refine sr [] [] ⟨Ay3 (.ptr ad_x2 0 :: .any :: .ptr ad_x4 0 :: Ay3 ([.int .i64 (x2.nodes.length : Int), .any, .rs (0) 0 (([] : List Int).length) 1, .any, .any, eInt.fz v2.args, .int .i64 (v2.args.length : Int), .int .i64 (0 : Int), .any])), [none], h2⟩ ((True) ∧ True) (by kernel_rfl) ⟨trivial, trivial⟩ ?_
    refine ends_block ?_
    obtain ⟨out0, e12, H⟩ := bsi H
    refine ends_mono (tree_least_1.l0_ok L ad_x0 im_x0 ad_x1 ad_x2 is_x2_0 ad_x3 ad_x4 i0 x0 x1 x2 x3 v2  S68_  (σ := (([] : List Int), (0 : Int), msI x0 v1 (x2.nodes.length : Int), (VTree.mk x5 x2.root))) ⟨.any, .any, (0), ad0, h2, rfl, o3⟩ e12) ?_
    rintro e s ⟨rfl, args1, x11, x12, x13, rfl, g2, g3, g4, g5, g6, g7, ad5, ad6, h6, rfl, o7⟩
    try dsimp only at H
    refine ends_seq ?_
    obtain ⟨h7, e13, o8⟩ := fr_own (E := eInt) (l := args1) (q := 0) o7 rfl
    obtain ⟨v4, e14, H⟩ := bsi H
    obtain ⟨h8, e15, o9⟩ := st_own1 (P := Tryd.prog) (tf := 42) (E := eNode) (l := x13.nodes) (q := 4) (off := 3) (v := (VNode.mk v4.kind v4.int v4.label args1)) (x := eInt.fz args1) o8 rfl Z42 e14 rfl rfl (by decide) rfl
    refine er [(eInt.fz args1, h7)] [(1, .rs ad6 0 x13.nodes.length 4, none), (4, .ptr ad6 (0 + (x2.nodes.length : Int).toNat * 4), none), (6, .any, some h8)] ⟨Ay9 (.int .i64 (x2.nodes.length : Int) :: Ay8 []), [none], h8⟩ ((frzV 0 h6 (.rs ad5 0 args1.length 1) = some (eInt.fz args1, h7) ∧ True) ∧ loadH Tryd.prog h7 29 (.ptr ad_x2 0) = some (.rs ad6 0 x13.nodes.length 4) ∧ indexAddrA Tryd.prog 29 (.rs ad6 0 x13.nodes.length 4) (.int .i64 (x2.nodes.length : Int)) = some (.ptr ad6 (0 + (x2.nodes.length : Int).toNat * 4)) ∧ storeH Tryd.prog h7 42 (.ptr ad6 (0 + (x2.nodes.length : Int).toNat * 4 + 3)) (eInt.fz args1) = some h8 ∧ True) (by kernel_rfl) ⟨⟨e13, trivial⟩, ⟨ld_ob (q := 3) (cs := [.rs ad6 0 x13.nodes.length 4, .int .i64 x13.root]) o8 rfl (by kernel_rfl), ia_ownL (E := eNode) (l := x13.nodes) (q := 4) T29 o8 rfl e14, e15, trivial⟩⟩ ?_
    refine sr [] [] ⟨Ay6 (.int .i64 (x2.nodes.length : Int) :: Ay11 []), [none], h8⟩ ((True) ∧ True) (by kernel_rfl) ⟨trivial, trivial⟩ ?_
    refine ends_ret ?_
    have H := Option.some.inj H
    subst H
    exact ⟨.inl rfl, ⟨ad6, by kernel_rfl, (by have o : Has h8 ((ad_x0, .ob [.mp im_x0]) :: (im_x0, .mp (mpI x12)) :: (ad_x1, .ob [eInt.fz x1]) :: (ad_x2, .ob [.rs ad6 0 x13.nodes.length 4, .int .i64 x13.root]) :: (ad6, .sl x13.nodes.length 4 (eNode.l (x13.nodes.set (x2.nodes.length : Int).toNat (VNode.mk v4.kind v4.int v4.label args1)))) :: (ad_x3, .ob [eNode.fz x3.nodes, .int .i64 x3.root]) :: (ad_x4, .ob [.fn 68 [.ptr ad_x0 0, .ptr ad_x1 0, .ptr ad_x2 0, .ptr ad_x3 0, .ptr ad_x4 0]]) :: L) := o9; simpa only [List.length_set] using o)⟩⟩
end
end Go.Proofs.YtmekcfdllhphlaaDoor

namespace Go.Proofs.YtmekcfdllhphlaaDoor
open Go Go.R
open Go.IntKind (i64 u64 u8 u32)
def ann47 : Ann := { keep := [0, 1, 2, 3, 4, 5, 6], locs := [2, 4000005], dead := [(0, [0, 3, 4, 5, 6]), (1, [0, 4, 5, 6]), (2, [0, 5, 6]), (3, [0, 6]), (4, [0]), (5, [0, 3, 4]), (6, [0, 1, 3, 4, 6]), (7, [0, 1, 3, 4, 5, 6])], frz := [], frz2 := [(0, [(2, some 0, 4)])] }
noncomputable def g47R0 := sub [0] (codeOf Tryd.f47)
noncomputable def g47R1 := sub [1, 0] (codeOf Tryd.f47)
noncomputable def g47R2 := sub [1, 1, 0] (codeOf Tryd.f47)
noncomputable def g47R3 := sub [1, 1, 1, 0] (codeOf Tryd.f47)
noncomputable def g47R4 := sub [1, 1, 1, 1, 0] (codeOf Tryd.f47)
noncomputable def g47R5 := sub [1, 1, 1, 1, 1, 0] (codeOf Tryd.f47)
noncomputable def g47R6 := sub [1, 1, 1, 1, 1, 1, 0] (codeOf Tryd.f47)
noncomputable def g47R7 := sub [1, 1, 1, 1, 1, 1, 1, 0] (codeOf Tryd.f47)
theorem g47_eq : codeOf Tryd.f47 = (.seq g47R0 (.seq g47R1 (.seq g47R2 (.seq g47R3 (.seq g47R4 (.seq g47R5 (.seq g47R6 (.seq g47R7 .ret)))))))) := by kernel_rfl
def tree_least.f (m : Nat) (t0 : VTree) : Option (VTree) := (tree_classes.f m t0.nodes).bind fun x0 => (tree_least_1.f m m t0.root ([] : List (Int × Int)) x0 (VTree.mk ([] : List VNode) (0 : Int)) t0).bind fun x1 => some x1.2.2
def tree_least.fin (L : Mem) (r : VTree) (s : St) : Prop := ∃ av, resultA Tryd.prog (s.open ann47) Tryd.f47.results.toList = some av ∧ Frz s.h av (.agg [eNode.fz r.nodes, .int .i64 r.root])
def S47 (cf : CallF) (m : Nat) : Prop := ∀ (t0 : VTree) (r : VTree), tree_least.f m t0 = some r → ∀ h xs, PureS xs [.agg [eNode.fz t0.nodes, .int .i64 t0.root]] → cf 47 xs h = some (.agg [eNode.fz r.nodes, .int .i64 r.root], h)
section
variable {cf : CallF} {m : Nat}
theorem tree_least_body {ann : FuncId → Ann} (ha : ann 47 = ann47) (S67_ : S67 cf m) (S68_ : S68 cf m m) (t0 : VTree) (h : AHeap) (L : Mem)  (o : Has h (L)) {out : VTree} (H : tree_least.f m t0 = some out) :
    ∃ r h', bodyA Tryd.prog ann cf m 47 [.agg [eNode.fz t0.nodes, .int .i64 t0.root]] h = some (r, h') ∧ Frz h' r (.agg [eNode.fz out.nodes, .int .i64 out.root]) := by
  refine body_of_ends2 (fn := Tryd.f47) ha Tryd.func47 (by kernel_rfl) (by kernel_rfl) ?_
  refine ends_fin (Q := fun s => tree_least.fin L out s) (fun _ _ h => h) ?_
  refine ends_of_eq g47_eq ?_
  have H : _ = some out := H
  unfold tree_least.f at H
  show Enz _ cf ann47 m _ ⟨.agg [eNode.fz t0.nodes, .int .i64 t0.root] :: Ay6 [], [none, none], h⟩ _
  refine ends_seq ?_
  obtain ⟨ad0, h0, e0, o0⟩ := bx_new (cs := [eNode.fz t0.nodes, .int .i64 t0.root]) o (by kernel_rfl)
  refine er [] [(0, .ptr ad0 0, some h0)] ⟨.any :: .ptr ad0 0 :: .lp 2 0 :: Ay4 [], [some [.rs (0) 0 (([] : List VNode).length) 4, .int .i64 (0 : Int)], none], h0⟩ ((True) ∧ boxH h [eNode.fz t0.nodes, .int .i64 t0.root] = some (.ptr ad0 0, h0) ∧ True) (by kernel_rfl) ⟨trivial, ⟨e0, trivial⟩⟩ ?_
  have o1 : Has h0 (((0), .sl (([] : List VNode).length) 4 (eNode.l ([] : List VNode))) :: (ad0, .ob [eNode.fz t0.nodes, .int .i64 t0.root]) :: L) := Has.nil o0 4
  refine ends_seq ?_
  obtain ⟨x0, e1, H⟩ := bsi H
  obtain ⟨ad1, h1, e2, o2⟩ := bx_new (cs := [.nils]) o1 (by kernel_rfl)
  obtain ⟨h2, e3, o3⟩ := st_ob (P := Tryd.prog) (t := 42) (off := 0) (q := 0) (cs := [.nils]) (cs' := [eInt.fz x0]) (x := eInt.fz x0) o2 rfl (by kernel_rfl)
  refine er [] [(1, eNode.fz t0.nodes, none), (2, eInt.fz x0, some h0), (3, .ptr ad1 0, some h1), (4, .any, some h2)] ⟨.any :: .ptr ad0 0 :: .lp 2 0 :: .ptr ad1 0 :: Ay3 [], [some [.rs (0) 0 (([] : List VNode).length) 4, .int .i64 (0 : Int)], none], h2⟩ ((True) ∧ loadH Tryd.prog h0 29 (.ptr ad0 0) = some (eNode.fz t0.nodes) ∧ callO cf (.fn 67 []) [eNode.fz t0.nodes] h0 = some (eInt.fz x0, h0) ∧ boxH h0 [.nils] = some (.ptr ad1 0, h1) ∧ storeH Tryd.prog h1 42 (.ptr ad1 0) (eInt.fz x0) = some h2 ∧ True) (by kernel_rfl) ⟨trivial, ⟨ld_ob (q := 1) (cs := [eNode.fz t0.nodes, .int .i64 t0.root]) o1 rfl (by kernel_rfl), callO_of (by kernel_rfl) (S67_ _ _ e1 _ _ (frs (fr_cons (fr_fz (E := eNode)) (fr_nil)))), e2, e3, trivial⟩⟩ ?_
  refine ends_seq ?_
  obtain ⟨ad2, h3, e4, o4⟩ := mp_new o3
  obtain ⟨ad3, h4, e5, o5⟩ := bx_new (cs := [.nilm]) o4 (by kernel_rfl)
  obtain ⟨h5, e6, o6⟩ := st_ob (P := Tryd.prog) (t := 98) (off := 0) (q := 0) (cs := [.nilm]) (cs' := [.mp ad2]) (x := .mp ad2) o5 rfl (by kernel_rfl)
  refine er [] [(0, .mp ad2, some h3), (1, .ptr ad3 0, some h4), (2, .any, some h5)] ⟨[.any, .ptr ad0 0, .lp 2 0, .ptr ad1 0, .ptr ad3 0, .any, .any], [some [.rs (0) 0 (([] : List VNode).length) 4, .int .i64 (0 : Int)], none], h5⟩ ((True) ∧ (AV.mp h2.next, h2.alloc (.map [])) = (.mp ad2, h3) ∧ boxH h3 [.nilm] = some (.ptr ad3 0, h4) ∧ storeH Tryd.prog h4 98 (.ptr ad3 0) (.mp ad2) = some h5 ∧ True) (by kernel_rfl) ⟨trivial, ⟨e4, e5, e6, trivial⟩⟩ ?_
  refine ends_seq ?_
  have o7 : Has h5 ((((0)), .sl (([] : List VNode).length) 4 (eNode.l ([] : List VNode))) :: (ad3, .ob [.mp ad2]) :: (ad2, .mp (mpI ([] : List (Int × Int)))) :: (ad1, .ob [eInt.fz x0]) :: ((0), .sl (([] : List VNode).length) 4 (eNode.l ([] : List VNode))) :: (ad0, .ob [eNode.fz t0.nodes, .int .i64 t0.root]) :: L) := Has.nil o6 4
  obtain ⟨ad4, h6, e7, o8⟩ := bx_new (cs := [.rs ((0)) 0 (([] : List VNode).length) 4, .int .i64 (0 : Int)]) o7 (by kernel_rfl)
  refine er [] [(0, .ptr ad4 0, some h6)] ⟨[.any, .ptr ad0 0, .lp 2 0, .ptr ad1 0, .ptr ad3 0, .ptr ad4 0, .any], [some [.rs (0) 0 (([] : List VNode).length) 4, .int .i64 (0 : Int)], none], h6⟩ ((True) ∧ boxH h5 [.rs ((0)) 0 (([] : List VNode).length) 4, .int .i64 (0 : Int)] = some (.ptr ad4 0, h6) ∧ True) (by kernel_rfl) ⟨trivial, ⟨e7, trivial⟩⟩ ?_
  refine ends_seq ?_
  obtain ⟨ad5, h7, e8, o9⟩ := bx_new (cs := [.nilf]) o8 (by kernel_rfl)
  refine er [] [(0, .ptr ad5 0, some h7)] ⟨[.any, .ptr ad0 0, .lp 2 0, .ptr ad1 0, .ptr ad3 0, .ptr ad4 0, .ptr ad5 0], [some [.rs (0) 0 (([] : List VNode).length) 4, .int .i64 (0 : Int)], none], h7⟩ ((True) ∧ boxH h6 [.nilf] = some (.ptr ad5 0, h7) ∧ True) (by kernel_rfl) ⟨trivial, ⟨e8, trivial⟩⟩ ?_
  refine ends_seq ?_
  obtain ⟨h8, e9, o10⟩ := st_ob (P := Tryd.prog) (t := 99) (off := 0) (q := 0) (cs := [.nilf]) (cs' := [.fn 68 [.ptr ad3 0, .ptr ad1 0, .ptr ad4 0, .ptr ad0 0, .ptr ad5 0]]) (x := .fn 68 [.ptr ad3 0, .ptr ad1 0, .ptr ad4 0, .ptr ad0 0, .ptr ad5 0]) o9 rfl (by kernel_rfl)
  refine er [] [(1, .any, some h8)] ⟨[.any, .ptr ad0 0, .lp 2 0, .any, .any, .ptr ad4 0, .ptr ad5 0], [some [.rs (0) 0 (([] : List VNode).length) 4, .int .i64 (0 : Int)], none], h8⟩ ((True) ∧ storeH Tryd.prog h7 99 (.ptr ad5 0) (.fn 68 [.ptr ad3 0, .ptr ad1 0, .ptr ad4 0, .ptr ad0 0, .ptr ad5 0]) = some h8 ∧ True) (by kernel_rfl) ⟨trivial, ⟨e9, trivial⟩⟩ ?_
  refine ends_seq ?_
  obtain ⟨x1, e10, H⟩ := bsi H
  obtain ⟨ad6, h9, e11, o11⟩ := S68_ _ _ _ _ _ _ e10 h8 _ _ _ _ _ _ _ _ ((Has.front (Has.front (Has.front (Has.front (Has.front (Has.front (Has.front (Has.front o10 6 rfl) 1 rfl) 7 rfl) 4 rfl) 4 rfl) 7 rfl) 7 rfl) 7 rfl))  [.int .i64 t0.root, .ptr ad3 0, .ptr ad1 0, .ptr ad4 0, .ptr ad0 0, .ptr ad5 0] (can_cons (can_pure (pu_int)) (can_cons (rfl) (can_cons (rfl) (can_cons (rfl) (can_cons (rfl) (can_cons (rfl) (can_nil)))))))
  refine er [] [(0, .fn 68 [.ptr ad3 0, .ptr ad1 0, .ptr ad4 0, .ptr ad0 0, .ptr ad5 0], none), (2, .int .i64 t0.root, none), (3, .int .i64 x1.1, some h9)] ⟨[.any, .any, .lp 2 0, .any, .any, .ptr ad4 0, .any], [some [.rs (0) 0 (([] : List VNode).length) 4, .int .i64 (0 : Int)], none], h9⟩ ((True) ∧ loadH Tryd.prog h8 99 (.ptr ad5 0) = some (.fn 68 [.ptr ad3 0, .ptr ad1 0, .ptr ad4 0, .ptr ad0 0, .ptr ad5 0]) ∧ loadH Tryd.prog h8 3 (.ptr ad0 1) = some (.int .i64 t0.root) ∧ callO cf (.fn 68 [.ptr ad3 0, .ptr ad1 0, .ptr ad4 0, .ptr ad0 0, .ptr ad5 0]) [.int .i64 t0.root] h8 = some (.int .i64 x1.1, h9) ∧ True) (by kernel_rfl) ⟨trivial, ⟨ld_ob (q := 0) (cs := [.fn 68 [.ptr ad3 0, .ptr ad1 0, .ptr ad4 0, .ptr ad0 0, .ptr ad5 0]]) o10 rfl (by kernel_rfl), ld_ob (q := 7) (cs := [eNode.fz t0.nodes, .int .i64 t0.root]) o10 rfl (by kernel_rfl), callO_of (by kernel_rfl) e11, trivial⟩⟩ ?_
  have o12 : Has h9 ((ad3, .ob [.mp ad2]) :: (ad2, .mp (mpI x1.2.1)) :: (ad1, .ob [eInt.fz x0]) :: (ad4, .ob [.rs ad6 0 x1.2.2.nodes.length 4, .int .i64 x1.2.2.root]) :: (ad6, .sl x1.2.2.nodes.length 4 (eNode.l x1.2.2.nodes)) :: (ad0, .ob [eNode.fz t0.nodes, .int .i64 t0.root]) :: ((0), .sl (([] : List VNode).length) 4 (eNode.l ([] : List VNode))) :: L) := Has.del o11 6
  have o13 : Has h9 ((ad3, .ob [.mp ad2]) :: (ad2, .mp (mpI x1.2.1)) :: (ad1, .ob [eInt.fz x0]) :: (ad4, .ob [.rs ad6 0 x1.2.2.nodes.length 4, .int .i64 x1.2.2.root]) :: (ad6, .sl x1.2.2.nodes.length 4 (eNode.l x1.2.2.nodes)) :: ((0), .sl (([] : List VNode).length) 4 (eNode.l ([] : List VNode))) :: L) := Has.del o12 5
  have o14 : Has h9 ((ad3, .ob [.mp ad2]) :: (ad2, .mp (mpI x1.2.1)) :: (ad4, .ob [.rs ad6 0 x1.2.2.nodes.length 4, .int .i64 x1.2.2.root]) :: (ad6, .sl x1.2.2.nodes.length 4 (eNode.l x1.2.2.nodes)) :: ((0), .sl (([] : List VNode).length) 4 (eNode.l ([] : List VNode))) :: L) := Has.del o13 2
  have o15 : Has h9 ((ad3, .ob [.mp ad2]) :: (ad4, .ob [.rs ad6 0 x1.2.2.nodes.length 4, .int .i64 x1.2.2.root]) :: (ad6, .sl x1.2.2.nodes.length 4 (eNode.l x1.2.2.nodes)) :: ((0), .sl (([] : List VNode).length) 4 (eNode.l ([] : List VNode))) :: L) := Has.del o14 1
  have o16 : Has h9 ((ad4, .ob [.rs ad6 0 x1.2.2.nodes.length 4, .int .i64 x1.2.2.root]) :: (ad6, .sl x1.2.2.nodes.length 4 (eNode.l x1.2.2.nodes)) :: ((0), .sl (([] : List VNode).length) 4 (eNode.l ([] : List VNode))) :: L) := Has.del o15 0
  refine sr [] [(0, .agg [.rs ad6 0 x1.2.2.nodes.length 4, .int .i64 x1.2.2.root], none)] ⟨.any :: .any :: .lp 2 0 :: Ay4 [], [some [.rs ad6 0 x1.2.2.nodes.length 4, .int .i64 x1.2.2.root], none], h9⟩ ((True) ∧ loadH Tryd.prog h9 31 (.ptr ad4 0) = some (.agg [.rs ad6 0 x1.2.2.nodes.length 4, .int .i64 x1.2.2.root]) ∧ True) (by kernel_rfl) ⟨trivial, ⟨ld_ob (q := 0) (cs := [.rs ad6 0 x1.2.2.nodes.length 4, .int .i64 x1.2.2.root]) o16 rfl (by kernel_rfl), trivial⟩⟩ ?_
  have o17 : Has h9 ((ad4, .ob [.rs ad6 0 x1.2.2.nodes.length 4, .int .i64 x1.2.2.root]) :: (ad6, .sl x1.2.2.nodes.length 4 (eNode.l x1.2.2.nodes)) :: L) := Has.del o16 2
  have o18 : Has h9 ((ad6, .sl x1.2.2.nodes.length 4 (eNode.l x1.2.2.nodes)) :: L) := Has.del o17 0
  refine ends_ret ?_
  have H := Option.some.inj H
  subst H
  exact ⟨.inl rfl, ⟨.agg [.rs ad6 0 x1.2.2.nodes.length 4, .int .i64 x1.2.2.root], by kernel_rfl, frz (fr_agg (fr_cons (fr_rs (E := eNode) (l := x1.2.2.nodes) (q := 0) o18 rfl (fun _ => rfl)) (fr_cons (fr_int) (fr_nil))))⟩⟩
end
end Go.Proofs.YtmekcfdllhphlaaDoor

namespace Go.Proofs.YtmekcfdllhphlaaDoor
open Go Go.R
open Go.IntKind (i64 u64 u8 u32)
def enumI : List Int → Nat → List (Int × Int)
  | [], _ => []
  | k :: ks, s => (k, (s : Int)) :: enumI ks (s + 1)
theorem enumI_get : ∀ (ks : List Int) (s : Nat) (k : Int), mgI (enumI ks s) k = if k ∈ ks then (((s + ks.idxOf k : Nat) : Int), true) else (0, false)
  | [], s, k => rfl
  | a :: ks, s, k => by
    simp only [enumI, mgI, enumI_get ks (s + 1) k, List.mem_cons, List.idxOf_cons]
    by_cases h : k = a
    · subst h; simp
    · have h' : (a == k) = false := by simpa using fun z : a = k => h z.symm
      rw [if_neg h, h']
      by_cases h2 : k ∈ ks
      · simp only [h2, if_true, or_true, cond_false]
        simp only [Prod.mk.injEq, and_true]
        omega
      · simp [h2, h]
theorem enumI_set : ∀ (ks : List Int) (s : Nat) (k : Int), k ∉ ks → msI (enumI ks s) k ((s + ks.length : Nat) : Int) = enumI (ks ++ [k]) s
  | [], s, k, _ => rfl
  | a :: ks, s, k, h => by
    have h1 : k ≠ a := fun z => h (by simp [z])
    have h2 : k ∉ ks := fun z => h (by simp [z])
    simp only [enumI, msI, List.cons_append, if_neg h1, List.length_cons]
    rw [show s + (ks.length + 1) = s + 1 + ks.length by omega, enumI_set ks (s + 1) k h2]
def cla (cls : List Int) (a : Int) : Int := gt cls a.toNat
def idx (cls o : List Int) (a : Int) : Int := ((o.map (cla cls)).idxOf (cla cls a) : Nat)
def finN (cls : List Int) (l : List VNode) (o : List Int) (i : Int) : VNode := ⟨(nd l i).kind, (nd l i).int, (nd l i).label, (nd l i).args.map (idx cls o)⟩
def dfs (cls : List Int) (l : List VNode) : Nat → Int → List Int → List Int
  | 0, _, o => o
  | k + 1, i, o => if cla cls i ∈ o.map (cla cls) then o else (nd l i).args.foldl (fun o a => dfs cls l k a o) (o ++ [i])
structure Vs (cls : List Int) (n : Nat) (o : List Int) : Prop where
  nod : (o.map (cla cls)).Nodup
  rng : ∀ x ∈ o, 0 ≤ x ∧ x < n
structure Ps (cls : List Int) (l : List VNode) (o o' : List Int) (ns ns' : List VNode) : Prop where
  vs : Vs cls l.length o'
  pre : ∃ t, o' = o ++ t
  len : ns'.length = o'.length
  old : ∀ k, k < o.length → ns'[k]? = ns[k]?
  new : ∀ k, o.length ≤ k → k < o'.length → ns'[k]? = some (finN cls l o' (gt o' k))
  arg : ∀ k, o.length ≤ k → k < o'.length → ∀ a ∈ (nd l (gt o' k)).args, cla cls a ∈ o'.map (cla cls)
theorem Vs.few {cls : List Int} {n : Nat} {o : List Int} (v : Vs cls n o) : o.length ≤ n := by
  have hn : o.Nodup := by
    have := v.nod
    unfold List.Nodup at this ⊢
    rw [List.pairwise_map] at this
    exact List.Pairwise.imp (fun h e => h (by rw [e])) this
  have := hn.length_le_of_subset (l₂ := ints n) (fun x hx => mem_ints.2 (v.rng x hx))
  rwa [ints_length] at this
theorem Ps.refl {cls : List Int} {l : List VNode} {o : List Int} {ns : List VNode} (v : Vs cls l.length o) (h : ns.length = o.length) : Ps cls l o o ns ns :=
  ⟨v, ⟨[], by simp⟩, h, fun _ _ => rfl, fun k h1 h2 => by omega, fun k h1 h2 => by omega⟩
theorem gt_append {a b : List Int} {k : Nat} (h : k < a.length) : gt (a ++ b) k = gt a k := by
  unfold gt; rw [List.getD_eq_getElem?_getD, List.getD_eq_getElem?_getD, List.getElem?_append_left h]
theorem idx_append {cls o t : List Int} {a : Int} (h : cla cls a ∈ o.map (cla cls)) : idx cls (o ++ t) a = idx cls o a := by
  unfold idx; rw [List.map_append, List.idxOf_append, if_pos h]
theorem finN_append {cls : List Int} {l : List VNode} {o t : List Int} {i : Int} (h : ∀ a ∈ (nd l i).args, cla cls a ∈ o.map (cla cls)) : finN cls l (o ++ t) i = finN cls l o i := by
  unfold finN
  congr 1
  exact List.map_congr_left fun a ha => idx_append (h a ha)
theorem Ps.trans {cls : List Int} {l : List VNode} {o o1 o2 : List Int} {ns n1 n2 : List VNode} (a : Ps cls l o o1 ns n1) (b : Ps cls l o1 o2 n1 n2) : Ps cls l o o2 ns n2 := by
  obtain ⟨t1, rfl⟩ := a.pre
  obtain ⟨t2, rfl⟩ := b.pre
  have hl : (o ++ t1).length = o.length + t1.length := by simp
  refine ⟨b.vs, ⟨t1 ++ t2, by simp⟩, b.len, fun k hk => (b.old k (by omega)).trans (a.old k hk), fun k h1 h2 => ?_, fun k h1 h2 x hx => ?_⟩
  · by_cases h : k < (o ++ t1).length
    · rw [b.old k h, a.new k h1 h, gt_append h, finN_append (a.arg k h1 h)]
    · exact b.new k (by omega) h2
  · by_cases h : k < (o ++ t1).length
    · rw [gt_append h] at hx
      rw [List.map_append]
      exact List.mem_append_left _ (a.arg k h1 h x hx)
    · exact b.arg k (by omega) h2 x hx
section
variable {m : Nat} {cls : List Int} {l : List VNode} {root : Int}
abbrev RecT := Int → (List (Int × Int)) → (List Int) → VTree → VTree → Option (Int × (List (Int × Int)) × VTree)
def Visit (cls : List Int) (l : List VNode) (root : Int) (rec : RecT) (df : Int → List Int → List Int) (need : Nat) : Prop := ∀ (i : Int) (o : List Int) (ns : List VNode), 0 ≤ i → i < l.length → Vs cls l.length o → ns.length = o.length → l.length < need + o.length →
  ∃ ns', rec i (enumI (o.map (cla cls)) 0) cls ⟨ns, 0⟩ ⟨l, root⟩ = some (idx cls (df i o) i, enumI ((df i o).map (cla cls)) 0, ⟨ns', 0⟩) ∧ Ps cls l o (df i o) ns ns' ∧ cla cls i ∈ (df i o).map (cla cls)
theorem vis_l0 {rec : RecT} {df : Int → List Int → List Int} {need : Nat} (hm : 2 ^ 30 ≤ m) (ok : Okl l) (V : Visit cls l root rec df need) {v : VNode} (h8 : v.args.length ≤ 8) (ha : ∀ a ∈ v.args, 0 ≤ a ∧ a < l.length) {o0 : List Int} {ns0 : List VNode} (hneed : l.length < need + o0.length) : ∀ (f t : Nat) (o : List Int) (ns : List VNode), v.args.length - t < f → t ≤ v.args.length → Ps cls l o0 o ns0 ns → (∀ a ∈ v.args.take t, cla cls a ∈ o.map (cla cls)) →
    ∃ o' ns' x, o' = (v.args.drop t).foldl (fun o a => df a o) o ∧ tree_least_1.l0 m cls ⟨l, root⟩ rec v f ((v.args.take t).map (idx cls o)) (t : Int) (enumI (o.map (cla cls)) 0) ⟨ns, 0⟩ = some (v.args.map (idx cls o'), x, enumI (o'.map (cla cls)) 0, ⟨ns', 0⟩) ∧ Ps cls l o0 o' ns0 ns' ∧ ∀ a ∈ v.args, cla cls a ∈ o'.map (cla cls)
  | 0, t, o, ns, hf, _, _, _ => absurd hf (by omega)
  | f + 1, t, o, ns, hf, ht, P, hin => by
    have p30 : (2 : Nat) ^ 30 = 1073741824 := by decide
    unfold tree_least_1.l0
    by_cases h : t < v.args.length
    · obtain ⟨b0, b1⟩ := ha _ (gt_mem h)
      have ho0 : o0.length ≤ o.length := by obtain ⟨s, rfl⟩ := P.pre; simp
      obtain ⟨ns1, k1, P1, hi1⟩ := V (gt v.args t) o ns b0 b1 P.vs P.len (by omega)
      obtain ⟨s, hs⟩ := P1.pre
      have hT1 : v.args.take (t + 1) = v.args.take t ++ [gt v.args t] := by rw [List.take_add_one, gt_some h]; rfl
      have hD : v.args.drop t = gt v.args t :: v.args.drop (t + 1) := by
        obtain ⟨h4, h5⟩ := List.getElem?_eq_some_iff.1 (gt_some h)
        rw [← h5]; exact List.drop_eq_getElem_cons h4
      have hin1 : ∀ a ∈ v.args.take (t + 1), cla cls a ∈ (df (gt v.args t) o).map (cla cls) := fun a ha => by
        rw [hT1] at ha
        rcases List.mem_append.1 ha with ha | ha
        · rw [hs, List.map_append]; exact List.mem_append_left _ (hin a ha)
        · simp only [List.mem_singleton] at ha; subst ha; exact hi1
      obtain ⟨o', ns', x, e, k2, P2, h2⟩ := vis_l0 hm ok V h8 ha hneed f (t + 1) (df (gt v.args t) o) ns1 (by omega) (by omega) (P.trans P1) hin1
      refine ⟨o', ns', x, by rw [hD]; exact e, ?_, P2, h2⟩
      have e1 : i64.wrap ((t : Int) + 1) = ((t + 1 : Nat) : Int) := by rw [i64_id (by omega) (by omega)]; omega
      have hap : app 8 ((v.args.take t).map (idx cls o)) [idx cls (df (gt v.args t) o) (gt v.args t)] = some ((v.args.take (t + 1)).map (idx cls (df (gt v.args t) o))) := by
        unfold app
        rw [if_pos (by simp; omega), hT1, List.map_append]
        congr 2
        exact List.map_congr_left fun a ha => by rw [hs]; exact (idx_append (hin a ha)).symm
      rw [if_pos (by simp only [decide_eq_true_eq]; omega), ix_gt h, Option.bind_some, k1, Option.bind_some, hap, Option.bind_some, e1]
      exact k2
    · have : t = v.args.length := by omega
      subst this
      rw [List.take_length] at hin ⊢
      exact ⟨o, ns, _, by rw [List.drop_length]; rfl, by rw [if_neg (by simp)], P, hin⟩
theorem visit_spec (hm : 2 ^ 30 ≤ m) (ok : Okl l) (hc : cls.length = l.length) : ∀ k, Visit cls l root (tree_least_1.f m k) (dfs cls l k) k
  | 0 => fun i o ns h0 h1 v hl hn => absurd v.few (by omega)
  | k + 1 => fun i o ns h0 h1 v hl hn => by
    have p30 : (2 : Nat) ^ 30 = 1073741824 := by decide
    have h8000 := ok.1
    have hfew := v.few
    show ∃ ns', tree_least_1.b m (tree_least_1.f m k) i (enumI (o.map (cla cls)) 0) cls ⟨ns, 0⟩ ⟨l, root⟩ = _ ∧ _
    unfold tree_least_1.b
    have hx : ix cls i = some (cla cls i) := ix_gt' (by omega) (by omega)
    rw [hx, Option.bind_some, enumI_get, Nat.zero_add]
    by_cases h : cla cls i ∈ o.map (cla cls)
    · have hd : dfs cls l (k + 1) i o = o := by unfold dfs; rw [if_pos h]
      rw [hd, if_pos h]
      exact ⟨ns, rfl, Ps.refl v hl, h⟩
    · have hd : dfs cls l (k + 1) i o = (nd l i).args.foldl (fun o a => dfs cls l k a o) (o ++ [i]) := by
        show (if cla cls i ∈ o.map (cla cls) then o else (nd l i).args.foldl (fun o a => dfs cls l k a o) (o ++ [i])) = _
        rw [if_neg h]
      have v1 : Vs cls l.length (o ++ [i]) := by
        refine ⟨?_, fun x hx => ?_⟩
        · rw [List.map_append, List.nodup_append]
          refine ⟨v.nod, by simp, fun a ha b hb => ?_⟩
          simp only [List.map_cons, List.map_nil, List.mem_singleton] at hb
          subst hb; intro e; subst e; exact h ha
        · rcases List.mem_append.1 hx with hx | hx
          · exact v.rng x hx
          · simp only [List.mem_singleton] at hx; subst hx; exact ⟨h0, h1⟩
      have hfew1 := v1.few
      simp only [List.length_append, List.length_cons, List.length_nil] at hfew1
      have hap : app 56 ns [(⟨(nd l i).kind, (nd l i).int, (nd l i).label, []⟩ : VNode)] = some (ns ++ [⟨(nd l i).kind, (nd l i).int, (nd l i).label, []⟩]) := by
        unfold app; rw [if_pos (by simp; omega)]
      have hm1 : msI (enumI (o.map (cla cls)) 0) (cla cls i) ((ns.length : Nat) : Int) = enumI ((o ++ [i]).map (cla cls)) 0 := by
        have := enumI_set (o.map (cla cls)) 0 (cla cls i) h
        rw [Nat.zero_add, List.length_map, ← hl] at this
        rw [this, List.map_append]; rfl
      obtain ⟨n1, n2⟩ := ok.2 _ (nd_mem h0 h1)
      have P0 : Ps cls l (o ++ [i]) (o ++ [i]) (ns ++ [⟨(nd l i).kind, (nd l i).int, (nd l i).label, []⟩]) (ns ++ [⟨(nd l i).kind, (nd l i).int, (nd l i).label, []⟩]) := Ps.refl v1 (by simp [hl])
      obtain ⟨o', ns', x, e, k2, P2, h2⟩ := vis_l0 (m := m) (v := nd l i) (need := k) hm ok (visit_spec hm ok hc k) n1 n2 (o0 := o ++ [i]) (by simp; omega) m 0 (o ++ [i]) _ (by omega) (by omega) P0 (fun a ha => by simp at ha)
      rw [List.drop_zero] at e
      rw [List.take_zero, List.map_nil] at k2
      have k2 : tree_least_1.l0 m cls ⟨l, root⟩ (tree_least_1.f m k) (nd l i) m [] 0 _ _ = _ := k2
      obtain ⟨s, hs⟩ := P2.pre
      have hol : o.length < o'.length := by rw [hs]; simp
      have hbase : ns'[o.length]? = some ⟨(nd l i).kind, (nd l i).int, (nd l i).label, []⟩ := by
        rw [P2.old _ (by simp), ← hl, List.getElem?_append_right (Nat.le_refl _), Nat.sub_self]; rfl
      have hix : ix ns' ((ns.length : Nat) : Int) = some ⟨(nd l i).kind, (nd l i).int, (nd l i).label, []⟩ := by
        unfold ix; rw [if_pos (by omega), Int.toNat_natCast, hl, hbase]
      have hgt : gt o' o.length = i := by
        rw [hs, gt_append (by simp)]
        unfold gt; rw [List.getD_eq_getElem?_getD, List.getElem?_append_right (Nat.le_refl _), Nat.sub_self]; rfl
      have hidx : idx cls o' i = (o.length : Nat) := by
        rw [hs, idx_append (by simp)]
        unfold idx
        rw [List.map_append, List.idxOf_append, if_neg h]; simp
      rw [hd, ← e, if_neg h, if_neg (by simp), Option.bind_some, ix_nd h0 h1, Option.bind_some, hap, Option.bind_some, hm1, k2, Option.bind_some]
      dsimp only
      rw [hix, Option.bind_some, Int.toNat_natCast, hidx, hl]
      refine ⟨_, rfl, ⟨P2.vs, ⟨[i] ++ s, by rw [hs]; simp⟩, by simpa using P2.len, fun q hq => ?_, fun q h3 h4 => ?_, fun q h3 h4 a ha => ?_⟩, by rw [hs]; simp⟩
      · rw [List.getElem?_set_ne (by omega), P2.old q (by simp; omega), List.getElem?_append_left (by omega)]
      · by_cases hq : q = o.length
        · subst hq
          rw [List.getElem?_set_self (by rw [P2.len]; omega), hgt]; rfl
        · rw [List.getElem?_set_ne (by omega)]
          exact P2.new q (by simp; omega) h4
      · by_cases hq : q = o.length
        · subst hq; rw [hgt] at ha; exact h2 a ha
        · exact P2.arg q (by simp; omega) h4 a ha
end
theorem least_spec {m : Nat} (hm : 2 ^ 41 ≤ m) {t : VTree} (ok : Okl t.nodes) (h1 : 1 ≤ t.nodes.length) (r0 : 0 ≤ t.root) (r1 : t.root < t.nodes.length) (Inv : List Int → Prop)
    (hI0 : ∀ d out, d.Perm (ints t.nodes.length) → (Ord (fun x y => cT (nd t.nodes x) (nd t.nodes y)) (ints t.nodes.length) → Sg (fun x y => cT (nd t.nodes x) (nd t.nodes y)) d 0 t.nodes.length) → (∀ k, k < t.nodes.length → gt out (gt d k).toNat = rk t.nodes d k) → Inv out)
    (hI : ∀ out many ks next, Part t.nodes.length out many → Inv out → Keys t.nodes out t.nodes.length ks → next.length = t.nodes.length → (∀ i, i < t.nodes.length → gt next i = (ks.idxOf (key out (nd t.nodes i) i) : Int)) → Inv next) :
    ∃ cls many ks ns, tree_least.f m t = some ⟨ns, 0⟩ ∧ Part t.nodes.length cls many ∧ Inv cls ∧ Keys t.nodes cls t.nodes.length ks ∧ ks.length = many + 1 ∧ Ps cls t.nodes [] (dfs cls t.nodes m t.root []) [] ns ∧ cla cls t.root ∈ (dfs cls t.nodes m t.root []).map (cla cls) := by
  have p30 : (2 : Nat) ^ 30 = 1073741824 := by decide
  have p41 : (2 : Nat) ^ 41 = 2199023255552 := by decide
  have h8000 := ok.1
  obtain ⟨cls, many, ks, k1, P, I, K, hks⟩ := classes_spec hm ok h1 Inv hI0 hI
  obtain ⟨ns, k2, P2, h2⟩ := visit_spec (m := m) (root := t.root) (by omega) ok P.len m t.root [] [] r0 r1 ⟨by simp, fun x hx => by simp at hx⟩ rfl (by simp; omega)
  refine ⟨cls, many, ks, ns, ?_, P, I, K, hks, P2, h2⟩
  unfold tree_least.f
  have k2 : tree_least_1.f m m t.root [] cls ⟨[], 0⟩ t = _ := k2
  rw [k1, Option.bind_some, k2]; rfl
end Go.Proofs.YtmekcfdllhphlaaDoor

namespace Go.Proofs.YtmekcfdllhphlaaDoor
open Go Go.R
open Go.IntKind (i64 u64 u8 u32)
def ann54 : Ann := { keep := [0, 1, 5], locs := [], dead := [(1, [5]), (2, [5]), (3, [0, 1, 5])], frz := [], frz2 := [] }
noncomputable def g54L0 := sub [0, 0, 0] (codeOf Tryd.f54)
noncomputable def g54R0 := sub [0, 0, 0, 0, 0] (codeOf Tryd.f54)
noncomputable def g54R2 := sub [0, 0, 0, 1, 0, 0] (codeOf Tryd.f54)
noncomputable def g54R1 := sub [0, 0, 0, 1, 1] (codeOf Tryd.f54)
noncomputable def g54R3 := sub [1] (codeOf Tryd.f54)
theorem g54L0_eq : g54L0 = (.seq (.seq g54R0 (.cond (.tmp 5) .skip (.exit 0))) (.seq (.block 1 g54R2) g54R1)) := by kernel_rfl
theorem g54_eq : codeOf Tryd.f54 = (.seq (.block 0 (.loop g54L0)) g54R3) := by kernel_rfl
def wr_number.l0 (m : Nat)  : Nat → Int → (List Int) → Option (Int × (List Int))
  | 0, _, _ => none
  | k + 1, n1, w1 => if (decide (n1 ≥ (128 : Int))) = true then ((wB1 w1 ([bitsOr .u8 (u8.wrap n1) (128 : Int)])).bind fun bs0 => wr_number.l0 m k (shR .u64 n1 7) bs0) else (some ((n1, w1)))
def wr_number.f (m : Nat) (w0 : List Int) (n0 : Int) : Option ((List Int)) := (wr_number.l0 m m n0 w0).bind fun out0 => match out0 with | (n2, w2) => (wB1 w2 ([u8.wrap n2])).bind fun bs1 => some bs1
def wr_number.fin (L : Mem) (ad_w0 : Nat) (is_w0_0 : Nat) (w0 : List Int) (n0 : Int) (r : (List Int)) (s : St) : Prop := ∃ iw0_0 : Nat, resultA Tryd.prog (s.open ann54) Tryd.f54.results.toList = some (.tup []) ∧ Has s.h ((ad_w0, .ob [.rs iw0_0 0 r.length 1, .int .i64 (0 : Int), .int .i8 (0 : Int)]) :: (iw0_0, .row 5 (eByte.l r)) :: L)
def S54 (cf : CallF) (m : Nat) : Prop := ∀ (w0 : List Int) (n0 : Int) (r : (List Int)), wr_number.f m w0 n0 = some r → ∀ h L (ad_w0 : Nat) (is_w0_0 : Nat), Has h ((ad_w0, .ob [.rs is_w0_0 0 w0.length 1, .int .i64 (0 : Int), .int .i8 (0 : Int)]) :: (is_w0_0, .row 5 (eByte.l w0)) :: L) → ∀ xs, xs.map canonArg = [.ptr ad_w0 0, .int .u64 n0] → ∃ iw0_0 h', cf 54 xs h = some (.tup [], h') ∧ Has h' ((ad_w0, .ob [.rs iw0_0 0 r.length 1, .int .i64 (0 : Int), .int .i8 (0 : Int)]) :: (iw0_0, .row 5 (eByte.l r)) :: L)
section
variable {cf : CallF} {m : Nat}
def wr_number.l0.R (L : Mem) (ad_w0 : Nat) (is_w0_0 : Nat) (w0 : List Int) (n0 : Int) (σ : Int × (List Int)) (s : St) : Prop :=
  match σ with
  | (n1, w1) => ∃ (g0 : AV) (ad0 : Nat) (h0 : AHeap), s = ⟨[.ptr ad_w0 0, .int .u64 n1, g0], [], h0⟩ ∧ Has h0 ((ad_w0, .ob [.rs ad0 0 w1.length 1, .int .i64 (0 : Int), .int .i8 (0 : Int)]) :: (ad0, .row 5 (eByte.l w1)) :: L)
def wr_number.l0.Q (L : Mem) (ad_w0 : Nat) (is_w0_0 : Nat) (w0 : List Int) (n0 : Int) (out : Int × (List Int)) (e : Ex) (s : St) : Prop :=
  (e = .exit 0 ∧ ∃ (n1 : Int) (w1 : List Int), (n1, w1) = out ∧ ∃ (x5_ : AV) (ad0 : Nat) (h0 : AHeap), s = ⟨[.ptr ad_w0 0, .int .u64 n1, x5_], [], h0⟩ ∧ Has h0 ((ad_w0, .ob [.rs ad0 0 w1.length 1, .int .i64 (0 : Int), .int .i8 (0 : Int)]) :: (ad0, .row 5 (eByte.l w1)) :: L))
theorem wr_number.l0_ok (L : Mem) (ad_w0 : Nat) (is_w0_0 : Nat) (w0 : List Int) (n0 : Int)  (S53_ : S53 cf m) {σ : Int × (List Int)} {s : St} {out : Int × (List Int)} (hr : wr_number.l0.R L ad_w0 is_w0_0 w0 n0 σ s) (H : (fun k σ => wr_number.l0 m k σ.1 σ.2) m σ = some out) : Enz Tryd.prog cf ann54 m (.loop g54L0) s (wr_number.l0.Q L ad_w0 is_w0_0 w0 n0 out) := by
  refine ends_loop (fun k σ => wr_number.l0 m k σ.1 σ.2) (wr_number.l0.R L ad_w0 is_w0_0 w0 n0) (wr_number.l0.Q L ad_w0 is_w0_0 w0 n0) (fun _ => rfl) ?_ hr H (fun _ _ _ h => h)
  clear hr H σ s out
  rintro k ⟨n1, w1⟩ s out ⟨g0, ad0, h0, rfl, o0⟩ H
  have H : wr_number.l0 m (k + 1) n1 w1 = some out := H
  refine ends_of_eq g54L0_eq ?_
  refine ends_seq ?_
  refine sr [] [] ⟨[.ptr ad_w0 0, .int .u64 n1, .bool (decide (n1 ≥ (128 : Int)))], [], h0⟩ ((True) ∧ True) (by kernel_rfl) ⟨trivial, trivial⟩ ?_
  refine ends_cond (decide (n1 ≥ (128 : Int))) (by kernel_rfl) (fun c0 => ?_) (fun c0 => ?_)
  · have H := ifp c0 H
    refine ends_skip ?_
    refine ends_seq ?_
    refine ends_block ?_
    obtain ⟨bs0, e0, H⟩ := bsi H
    obtain ⟨ad1, h1, e1, o1⟩ := wb_own1 (bs := w1) S53_ o0 e0
    refine er [] [(6, .any, some h1)] ⟨[.ptr ad_w0 0, .int .u64 n1, .any], [], h1⟩ ((True) ∧ callO cf (.fn 53 []) [.ptr ad_w0 0, .int .u8 (bitsOr .u8 (u8.wrap n1) (128 : Int))] h0 = some (.any, h1) ∧ True) (by kernel_rfl) ⟨trivial, ⟨callO_of (by kernel_rfl) e1, trivial⟩⟩ ?_
    refine er [] [] ⟨[.ptr ad_w0 0, .int .u64 (shR .u64 n1 7), .any], [], h1⟩ ((True) ∧ True) (by kernel_rfl) ⟨trivial, trivial⟩ ?_
    exact ⟨(shR .u64 n1 7, bs0), ⟨.any, ad1, h1, rfl, o1⟩, H⟩
  · have H := ifn c0 H
    refine ends_exit ?_
    have H := Option.some.inj H
    exact ⟨rfl, n1, w1, H, .bool (decide (n1 ≥ (128 : Int))), ad0, h0, rfl, o0⟩
theorem wr_number_body {ann : FuncId → Ann} (ha : ann 54 = ann54) (S53_ : S53 cf m) (w0 : List Int) (n0 : Int) (h : AHeap) (L : Mem) (ad_w0 : Nat) (is_w0_0 : Nat)  (o : Has h ((ad_w0, .ob [.rs is_w0_0 0 w0.length 1, .int .i64 (0 : Int), .int .i8 (0 : Int)]) :: (is_w0_0, .row 5 (eByte.l w0)) :: L)) {out : (List Int)} (H : wr_number.f m w0 n0 = some out) :
    ∃ r h', bodyA Tryd.prog ann cf m 54 [.ptr ad_w0 0, .int .u64 n0] h = some (r, h') ∧ ∃ iw0_0 : Nat, r = .tup [] ∧ Has h' ((ad_w0, .ob [.rs iw0_0 0 out.length 1, .int .i64 (0 : Int), .int .i8 (0 : Int)]) :: (iw0_0, .row 5 (eByte.l out)) :: L) := by
  refine body_of_ends2 (fn := Tryd.f54) ha Tryd.func54 (by kernel_rfl) (by kernel_rfl) ?_
  refine ends_fin (Q := fun s => wr_number.fin L ad_w0 is_w0_0 w0 n0 out s) (fun _ _ ⟨h1, iw0_0, h2, h3⟩ => ⟨h1, _, h2, iw0_0, rfl, h3⟩) ?_
  refine ends_of_eq g54_eq ?_
  have H : _ = some out := H
  unfold wr_number.f at H
  show Enz _ cf ann54 m _ ⟨[.ptr ad_w0 0, .int .u64 n0, .any], [], h⟩ _
  refine ends_seq ?_
  refine ends_block ?_
  obtain ⟨out0, e2, H⟩ := bsi H
  refine ends_mono (wr_number.l0_ok L ad_w0 is_w0_0 w0 n0  S53_ (σ := (n0, w0)) ⟨.any, is_w0_0, h, rfl, o⟩ e2) ?_
  rintro e s ⟨rfl, n2, w2, rfl, g1, ad2, h2, rfl, o2⟩
  try dsimp only at H
  obtain ⟨bs1, e3, H⟩ := bsi H
  obtain ⟨ad3, h3, e4, o3⟩ := wb_own1 (bs := w2) S53_ o2 e3
  refine er [] [(5, .any, some h3)] ⟨Ay3 [], [], h3⟩ ((True) ∧ callO cf (.fn 53 []) [.ptr ad_w0 0, .int .u8 (u8.wrap n2)] h2 = some (.any, h3) ∧ True) (by kernel_rfl) ⟨trivial, ⟨callO_of (by kernel_rfl) e4, trivial⟩⟩ ?_
  have H := Option.some.inj H
  subst H
  exact ⟨.inr rfl, ⟨ad3, by kernel_rfl, o3⟩⟩
end
end Go.Proofs.YtmekcfdllhphlaaDoor

namespace Go.Proofs.YtmekcfdllhphlaaDoor
open Go Go.R
open Go.IntKind (i64 u64 u8 u32)
def ann59 : Ann := { keep := [0, 2, 3, 9], locs := [], dead := [(0, [2, 3, 9]), (1, [2, 3]), (2, [0, 2, 3, 9]), (3, [0, 3, 9]), (4, [2, 9]), (5, [0, 2, 9]), (6, [0, 3, 9])], frz := [], frz2 := [] }
noncomputable def g59R0 := sub [0] (codeOf Tryd.f59)
noncomputable def g59R1 := sub [1, 0, 0] (codeOf Tryd.f59)
noncomputable def g59R2 := sub [1, 0, 1, 0, 0] (codeOf Tryd.f59)
noncomputable def g59R3 := sub [1, 0, 1, 0, 1, 0] (codeOf Tryd.f59)
noncomputable def g59R4 := sub [1, 1, 0] (codeOf Tryd.f59)
noncomputable def g59R5 := sub [1, 1, 1, 0] (codeOf Tryd.f59)
noncomputable def g59R6 := sub [1, 1, 1, 1, 0] (codeOf Tryd.f59)
theorem g59_eq : codeOf Tryd.f59 = (.seq g59R0 (.seq (.seq g59R1 (.cond (.tmp 9) (.seq g59R2 (.seq g59R3 .ret)) .skip)) (.seq g59R4 (.seq g59R5 (.seq g59R6 .ret))))) := by kernel_rfl
def rd_byte.f (m : Nat) (r0 : Rdr) : Option (Int × Rdr) := if ((r0.f_b.length : Int) == (0 : Int)) = true then (some ((0 : Int), (Rdr.mk r0.f_b true))) else ((ix r0.f_b (0 : Int)).bind fun v0 => (slc r0.f_b (1 : Int) (r0.f_b.length : Int)).bind fun v1 => some (v0, (Rdr.mk v1 r0.f_bad)))
def rd_byte.fin (L : Mem) (ad0 : Nat) (r0 : Rdr) (r : Int × Rdr) (s : St) : Prop := resultA Tryd.prog (s.open ann59) Tryd.f59.results.toList = some (.int .u8 r.1) ∧ Has s.h ((ad0, .ob [eByte.fz r.2.f_b, .bool r.2.f_bad]) :: L)
def S59 (cf : CallF) (m : Nat) : Prop := ∀ (r0 : Rdr) (r : Int × Rdr), rd_byte.f m r0 = some r → ∀ h L (ad0 : Nat), Has h ((ad0, .ob [eByte.fz r0.f_b, .bool r0.f_bad]) :: L) → ∀ xs, xs.map canonArg = [.ptr ad0 0] → ∃ h', cf 59 xs h = some (.int .u8 r.1, h') ∧ Has h' ((ad0, .ob [eByte.fz r.2.f_b, .bool r.2.f_bad]) :: L)
section
variable {cf : CallF} {m : Nat}
theorem rd_byte_body {ann : FuncId → Ann} (ha : ann 59 = ann59)  (r0 : Rdr) (h : AHeap) (L : Mem) (ad0 : Nat)  (o : Has h ((ad0, .ob [eByte.fz r0.f_b, .bool r0.f_bad]) :: L)) {out : Int × Rdr} (H : rd_byte.f m r0 = some out) :
    ∃ r h', bodyA Tryd.prog ann cf m 59 [.ptr ad0 0] h = some (r, h') ∧ r = .int .u8 out.1 ∧ Has h' ((ad0, .ob [eByte.fz out.2.f_b, .bool out.2.f_bad]) :: L) := by
  refine body_of_ends2 (fn := Tryd.f59) ha Tryd.func59 (by kernel_rfl) (by kernel_rfl) ?_
  refine ends_fin (Q := fun s => rd_byte.fin L ad0 r0 out s) (fun _ _ ⟨h1, h2, h3⟩ => ⟨h1, _, h2, rfl, h3⟩) ?_
  refine ends_of_eq g59_eq ?_
  have H : _ = some out := H
  unfold rd_byte.f at H
  show Enz _ cf ann59 m _ ⟨.ptr ad0 0 :: Ay3 [], [], h⟩ _
  refine sr [] [] ⟨.ptr ad0 0 :: Ay3 [], [], h⟩ ((True) ∧ True) (by kernel_rfl) ⟨trivial, trivial⟩ ?_
  refine ends_seq ?_
  refine sr [] [(3, eByte.fz r0.f_b, none)] ⟨[.ptr ad0 0, .any, .any, .bool ((r0.f_b.length : Int) == (0 : Int))], [], h⟩ ((True) ∧ loadH Tryd.prog h 25 (.ptr ad0 0) = some (eByte.fz r0.f_b) ∧ True) (by kernel_rfl) ⟨trivial, ⟨ld_ob (q := 0) (cs := [eByte.fz r0.f_b, .bool r0.f_bad]) o rfl (by kernel_rfl), trivial⟩⟩ ?_
  refine ends_cond ((r0.f_b.length : Int) == (0 : Int)) (by kernel_rfl) (fun c0 => ?_) (fun c0 => ?_)
  · have H := ifp c0 H
    refine ends_seq ?_
    obtain ⟨h0, e0, o0⟩ := st_ob (P := Tryd.prog) (t := 4) (off := 1) (q := 0) (cs := [eByte.fz r0.f_b, .bool r0.f_bad]) (cs' := [eByte.fz r0.f_b, .bool true]) (x := .bool true) o rfl (by kernel_rfl)
    refine er [] [(3, .any, some h0)] ⟨Ay4 [], [], h0⟩ ((True) ∧ storeH Tryd.prog h 4 (.ptr ad0 1) (.bool true) = some h0 ∧ True) (by kernel_rfl) ⟨trivial, ⟨e0, trivial⟩⟩ ?_
    refine sr [] [] ⟨[.any, .int .u8 (0 : Int), .any, .any], [], h0⟩ ((True) ∧ True) (by kernel_rfl) ⟨trivial, trivial⟩ ?_
    refine ends_ret ?_
    have H := Option.some.inj H
    subst H
    exact ⟨.inl rfl, ⟨by kernel_rfl, o0⟩⟩
  · have H := ifn c0 H
    refine ends_skip ?_
    refine ends_seq ?_
    obtain ⟨v0, e1, H⟩ := bsi H
    refine er [] [(3, eByte.fz r0.f_b, none), (4, .fp (eByte.l r0.f_b) ((0 : Int).toNat * 1), none), (5, .int .u8 v0, none)] ⟨[.ptr ad0 0, .any, .int .u8 v0, .any], [], h⟩ ((True) ∧ loadH Tryd.prog h 25 (.ptr ad0 0) = some (eByte.fz r0.f_b) ∧ indexAddrA Tryd.prog 25 (eByte.fz r0.f_b) (.int .i64 (0 : Int)) = some (.fp (eByte.l r0.f_b) ((0 : Int).toNat * 1)) ∧ loadH Tryd.prog h 5 (.fp (eByte.l r0.f_b) ((0 : Int).toNat * 1)) = some (.int .u8 v0) ∧ True) (by kernel_rfl) ⟨trivial, ⟨ld_ob (q := 0) (cs := [eByte.fz r0.f_b, .bool r0.f_bad]) o rfl (by kernel_rfl), ia_fz (E := eByte) (l := r0.f_b) T25 e1, ld_fz0 (E := eByte) (l := r0.f_b) h A5 e1 rfl, trivial⟩⟩ ?_
    refine ends_seq ?_
    obtain ⟨v1, e2, H⟩ := bsi H
    obtain ⟨h1, e3, o1⟩ := st_ob (P := Tryd.prog) (t := 25) (off := 0) (q := 0) (cs := [eByte.fz r0.f_b, .bool r0.f_bad]) (cs' := [eByte.fz v1, .bool r0.f_bad]) (x := eByte.fz v1) o rfl (by kernel_rfl)
    refine er [] [(4, eByte.fz r0.f_b, none), (5, eByte.fz v1, none), (8, .any, some h1)] ⟨[.any, .any, .int .u8 v0, .any], [], h1⟩ ((True) ∧ loadH Tryd.prog h 25 (.ptr ad0 0) = some (eByte.fz r0.f_b) ∧ sliceA Tryd.prog 25 (eByte.fz r0.f_b) (some (.int .i64 (1 : Int))) none none = some (eByte.fz v1) ∧ storeH Tryd.prog h 25 (.ptr ad0 0) (eByte.fz v1) = some h1 ∧ True) (by kernel_rfl) ⟨trivial, ⟨ld_ob (q := 0) (cs := [eByte.fz r0.f_b, .bool r0.f_bad]) o rfl (by kernel_rfl), sl_fz10 (E := eByte) T25 e2, e3, trivial⟩⟩ ?_
    refine sr [] [] ⟨[.any, .int .u8 v0, .any, .any], [], h1⟩ ((True) ∧ True) (by kernel_rfl) ⟨trivial, trivial⟩ ?_
    refine ends_ret ?_
    have H := Option.some.inj H
    subst H
    exact ⟨.inl rfl, ⟨by kernel_rfl, o1⟩⟩
end
end Go.Proofs.YtmekcfdllhphlaaDoor

namespace Go.Proofs.YtmekcfdllhphlaaDoor
open Go Go.R
open Go.IntKind (i64 u64 u8 u32)
def ann43 : Ann := { keep := [0, 2, 3, 4, 5, 10, 24, 36], locs := [], dead := [(0, [2, 3, 4, 5, 10, 24, 36]), (1, [2, 4, 5, 10, 24, 36]), (2, [2, 5, 10, 24, 36]), (3, [2, 5, 24, 36]), (4, [2, 5, 10, 24, 36]), (5, [2, 10, 24, 36]), (6, [2, 10, 36]), (7, [0, 2, 4, 5, 10, 24, 36]), (8, [2, 10, 24, 36]), (9, [2, 5, 10, 24]), (10, [0, 3, 4, 5, 10, 24, 36])], frz := [], frz2 := [] }
noncomputable def g43R0 := sub [0] (codeOf Tryd.f43)
noncomputable def g43R1 := sub [1, 0] (codeOf Tryd.f43)
noncomputable def g43R2 := sub [1, 1, 0, 0] (codeOf Tryd.f43)
noncomputable def g43L0 := sub [1, 1, 0, 1, 0, 0] (codeOf Tryd.f43)
noncomputable def g43R3 := sub [1, 1, 0, 1, 0, 0, 0, 0] (codeOf Tryd.f43)
noncomputable def g43R5 := sub [1, 1, 0, 1, 0, 0, 1, 0, 0, 0] (codeOf Tryd.f43)
noncomputable def g43R6 := sub [1, 1, 0, 1, 0, 0, 1, 0, 0, 1, 0, 0] (codeOf Tryd.f43)
noncomputable def g43R7 := sub [1, 1, 0, 1, 0, 0, 1, 0, 0, 1, 0, 1, 0, 0] (codeOf Tryd.f43)
noncomputable def g43R8 := sub [1, 1, 0, 1, 0, 0, 1, 0, 0, 1, 1, 0] (codeOf Tryd.f43)
noncomputable def g43R9 := sub [1, 1, 0, 1, 0, 0, 1, 0, 0, 1, 1, 1, 0] (codeOf Tryd.f43)
noncomputable def g43R4 := sub [1, 1, 0, 1, 0, 0, 1, 1] (codeOf Tryd.f43)
noncomputable def g43R10 := sub [1, 1, 1, 0] (codeOf Tryd.f43)
theorem g43L0_eq : g43L0 = (.seq (.seq g43R3 (.cond (.tmp 10) .skip (.exit 0))) (.seq (.block 1 (.seq g43R5 (.seq (.seq g43R6 (.cond (.tmp 24) (.seq g43R7 (.exit 0)) .skip)) (.seq g43R8 (.seq g43R9 (.cond (.tmp 36) (.exit 0) .skip)))))) g43R4)) := by kernel_rfl
theorem g43_eq : codeOf Tryd.f43 = (.seq g43R0 (.seq g43R1 (.seq (.seq g43R2 (.block 0 (.loop g43L0))) (.seq g43R10 .ret)))) := by kernel_rfl
def rd_number.l0 (m : Nat)  : Nat → Int → Int → Rdr → Option (Int × Int × Rdr)
  | 0, _, _, _ => none
  | k + 1, n0, shift0, r1 => if (!r1.f_bad) = true then ((rd_byte.f m r1).bind fun x0 => if (decide (shift0 > (56 : Int))) = true then (some ((n0, shift0, (Rdr.mk x0.2.f_b true)))) else (if (decide (shift0 > (0 : Int))) = true then (if (x0.1 == (0 : Int)) = true then (some ((n0, shift0, (Rdr.mk x0.2.f_b true)))) else ((shLv .u64 (u64.wrap (bitsAnd .u8 x0.1 (127 : Int))) shift0).bind fun v0 => if (decide (x0.1 < (128 : Int))) = true then (some ((bitsOr .u64 n0 v0, shift0, x0.2))) else (rd_number.l0 m k (bitsOr .u64 n0 v0) (i64.wrap (shift0 + (7 : Int))) x0.2))) else ((shLv .u64 (u64.wrap (bitsAnd .u8 x0.1 (127 : Int))) shift0).bind fun v1 => if (decide (x0.1 < (128 : Int))) = true then (some ((bitsOr .u64 n0 v1, shift0, x0.2))) else (rd_number.l0 m k (bitsOr .u64 n0 v1) (i64.wrap (shift0 + (7 : Int))) x0.2)))) else (some ((n0, shift0, r1)))
def rd_number.f (m : Nat) (r0 : Rdr) : Option (Int × Rdr) := (rd_number.l0 m m (0 : Int) (0 : Int) r0).bind fun out0 => match out0 with | (n1, shift1, r2) => some (i64.wrap n1, r2)
def rd_number.fin (L : Mem) (ad0 : Nat) (r0 : Rdr) (r : Int × Rdr) (s : St) : Prop := resultA Tryd.prog (s.open ann43) Tryd.f43.results.toList = some (.int .i64 r.1) ∧ Has s.h ((ad0, .ob [eByte.fz r.2.f_b, .bool r.2.f_bad]) :: L)
def S43 (cf : CallF) (m : Nat) : Prop := ∀ (r0 : Rdr) (r : Int × Rdr), rd_number.f m r0 = some r → ∀ h L (ad0 : Nat), Has h ((ad0, .ob [eByte.fz r0.f_b, .bool r0.f_bad]) :: L) → ∀ xs, xs.map canonArg = [.ptr ad0 0] → ∃ h', cf 43 xs h = some (.int .i64 r.1, h') ∧ Has h' ((ad0, .ob [eByte.fz r.2.f_b, .bool r.2.f_bad]) :: L)
section
variable {cf : CallF} {m : Nat}
def rd_number.l0.R (L : Mem) (ad0 : Nat) (r0 : Rdr) (σ : Int × Int × Rdr) (s : St) : Prop :=
  match σ with
  | (n0, shift0, r1) => ∃ (g0 : AV) (g1 : AV) (g2 : AV) (h0 : AHeap), s = ⟨[.ptr ad0 0, .any, .int .u64 n0, .int .i64 shift0, .any, g0, g1, g2], [], h0⟩ ∧ Has h0 ((ad0, .ob [eByte.fz r1.f_b, .bool r1.f_bad]) :: L)
def rd_number.l0.Q (L : Mem) (ad0 : Nat) (r0 : Rdr) (out : Int × Int × Rdr) (e : Ex) (s : St) : Prop :=
  (e = .exit 0 ∧ ∃ (n0 : Int) (shift0 : Int) (r1 : Rdr), (n0, shift0, r1) = out ∧ ∃ (x0_ : AV) (x4_ : AV) (x10_ : AV) (x24_ : AV) (x36_ : AV) (h0 : AHeap), s = ⟨[x0_, .any, .int .u64 n0, x4_, .any, x10_, x24_, x36_], [], h0⟩ ∧ Has h0 ((ad0, .ob [eByte.fz r1.f_b, .bool r1.f_bad]) :: L))
theorem rd_number.l0_ok (L : Mem) (ad0 : Nat) (r0 : Rdr)  (S59_ : S59 cf m) {σ : Int × Int × Rdr} {s : St} {out : Int × Int × Rdr} (hr : rd_number.l0.R L ad0 r0 σ s) (H : (fun k σ => rd_number.l0 m k σ.1 σ.2.1 σ.2.2) m σ = some out) : Enz Tryd.prog cf ann43 m (.loop g43L0) s (rd_number.l0.Q L ad0 r0 out) := by
  refine ends_loop (fun k σ => rd_number.l0 m k σ.1 σ.2.1 σ.2.2) (rd_number.l0.R L ad0 r0) (rd_number.l0.Q L ad0 r0) (fun _ => rfl) ?_ hr H (fun _ _ _ h => h)
  clear hr H σ s out
  rintro k ⟨n0, shift0, r1⟩ s out ⟨g0, g1, g2, h0, rfl, o0⟩ H
  have H : rd_number.l0 m (k + 1) n0 shift0 r1 = some out := H
  refine ends_of_eq g43L0_eq ?_
  refine ends_seq ?_
  refine sr [] [(3, .bool r1.f_bad, none)] ⟨[.ptr ad0 0, .any, .int .u64 n0, .int .i64 shift0, .any, .bool (!r1.f_bad), .any, .any], [], h0⟩ ((True) ∧ loadH Tryd.prog h0 4 (.ptr ad0 1) = some (.bool r1.f_bad) ∧ True) (by kernel_rfl) ⟨trivial, ⟨ld_ob (q := 0) (cs := [eByte.fz r1.f_b, .bool r1.f_bad]) o0 rfl (by kernel_rfl), trivial⟩⟩ ?_
  refine ends_cond (!r1.f_bad) (by kernel_rfl) (fun c0 => ?_) (fun c0 => ?_)
  · have H := ifp c0 H
    refine ends_skip ?_
    refine ends_seq ?_
    refine ends_block ?_
    refine ends_seq ?_
    obtain ⟨x0, e0, H⟩ := bsi H
    obtain ⟨h1, e1, o1⟩ := S59_ _ _ e0 h0 _ _ (o0)  [.ptr ad0 0] (can_cons (rfl) (can_nil))
    refine er [] [(1, .int .u8 x0.1, some h1)] ⟨.ptr ad0 0 :: .any :: .int .u64 n0 :: .int .i64 shift0 :: .int .u8 x0.1 :: Ay3 [], [], h1⟩ ((True) ∧ callO cf (.fn 59 []) [.ptr ad0 0] h0 = some (.int .u8 x0.1, h1) ∧ True) (by kernel_rfl) ⟨trivial, ⟨callO_of (by kernel_rfl) e1, trivial⟩⟩ ?_
    refine ends_seq ?_
    refine ends_seq ?_
    rcases bft (decide (shift0 > (56 : Int))) with c1 | c1
    · have H := ifp c1 H
      refine er [] [(2, .bool true, none)] ⟨[.ptr ad0 0, .any, .int .u64 n0, .int .i64 shift0, .int .u8 x0.1, .any, .bool true, .any], [], h1⟩ ((True) ∧ AV.bool (decide (shift0 > (56 : Int))) = AV.bool true ∧ True) (by kernel_rfl) ⟨trivial, ⟨congrArg AV.bool c1, trivial⟩⟩ ?_
      refine ends_cond true (by kernel_rfl) (fun c2 => ?_) (fun c2 => ?_)
      rotate_left
      · cases c2
      refine ends_seq ?_
      obtain ⟨h2, e2, o2⟩ := st_ob (P := Tryd.prog) (t := 4) (off := 1) (q := 0) (cs := [eByte.fz x0.2.f_b, .bool x0.2.f_bad]) (cs' := [eByte.fz x0.2.f_b, .bool true]) (x := .bool true) o1 rfl (by kernel_rfl)
      refine er [] [(3, .any, some h2)] ⟨.any :: .any :: .int .u64 n0 :: Ay5 [], [], h2⟩ ((True) ∧ storeH Tryd.prog h1 4 (.ptr ad0 1) (.bool true) = some h2 ∧ True) (by kernel_rfl) ⟨trivial, ⟨e2, trivial⟩⟩ ?_
      refine ends_exit ?_
      have H := Option.some.inj H
      exact ⟨rfl, n0, shift0, (Rdr.mk x0.2.f_b true), H, .any, .any, .any, .any, .any, h2, rfl, o2⟩
    · have H := ifn c1 H
      rcases bft (decide (shift0 > (0 : Int))) with c3 | c3
      · have H := ifp c3 H
        refine er [] [(2, .bool false, none), (5, .bool true, none)] ⟨[.ptr ad0 0, .any, .int .u64 n0, .int .i64 shift0, .int .u8 x0.1, .any, .bool (x0.1 == (0 : Int)), .any], [], h1⟩ ((True) ∧ AV.bool (decide (shift0 > (56 : Int))) = AV.bool false ∧ AV.bool (decide (shift0 > (0 : Int))) = AV.bool true ∧ True) (by kernel_rfl) ⟨trivial, ⟨congrArg AV.bool c1, congrArg AV.bool c3, trivial⟩⟩ ?_
        refine ends_cond (x0.1 == (0 : Int)) (by kernel_rfl) (fun c4 => ?_) (fun c4 => ?_)
        · have H := ifp c4 H
          refine ends_seq ?_
          obtain ⟨h3, e3, o3⟩ := st_ob (P := Tryd.prog) (t := 4) (off := 1) (q := 0) (cs := [eByte.fz x0.2.f_b, .bool x0.2.f_bad]) (cs' := [eByte.fz x0.2.f_b, .bool true]) (x := .bool true) o1 rfl (by kernel_rfl)
          refine er [] [(3, .any, some h3)] ⟨.any :: .any :: .int .u64 n0 :: Ay5 [], [], h3⟩ ((True) ∧ storeH Tryd.prog h1 4 (.ptr ad0 1) (.bool true) = some h3 ∧ True) (by kernel_rfl) ⟨trivial, ⟨e3, trivial⟩⟩ ?_
          refine ends_exit ?_
          have H := Option.some.inj H
          exact ⟨rfl, n0, shift0, (Rdr.mk x0.2.f_b true), H, .any, .any, .any, .any, .any, h3, rfl, o3⟩
        · have H := ifn c4 H
          refine ends_skip ?_
          refine ends_seq ?_
          obtain ⟨v0, e4, H⟩ := bsi H
          refine er [] [(5, .int .u64 v0, none)] ⟨.ptr ad0 0 :: .any :: .int .u64 (bitsOr .u64 n0 v0) :: .int .i64 shift0 :: .int .u8 x0.1 :: Ay3 [], [], h1⟩ ((True) ∧ binOpA Tryd.prog .shl 40 (.int .u64 (u64.wrap (bitsAnd .u8 x0.1 (127 : Int)))) (.int .i64 shift0) = some (.int .u64 v0) ∧ True) (by kernel_rfl) ⟨trivial, ⟨shL_ok e4, trivial⟩⟩ ?_
          refine sr [] [] ⟨.ptr ad0 0 :: .any :: .int .u64 (bitsOr .u64 n0 v0) :: .int .i64 shift0 :: Ay3 [.bool (decide (x0.1 < (128 : Int)))], [], h1⟩ ((True) ∧ True) (by kernel_rfl) ⟨trivial, trivial⟩ ?_
          refine ends_cond (decide (x0.1 < (128 : Int))) (by kernel_rfl) (fun c5 => ?_) (fun c5 => ?_)
          · have H := ifp c5 H
            refine ends_exit ?_
            have H := Option.some.inj H
            exact ⟨rfl, bitsOr .u64 n0 v0, shift0, x0.2, H, .ptr ad0 0, .int .i64 shift0, .any, .any, .bool (decide (x0.1 < (128 : Int))), h1, rfl, o1⟩
          · have H := ifn c5 H
            refine ends_skip ?_
            refine er [] [] ⟨.ptr ad0 0 :: .any :: .int .u64 (bitsOr .u64 n0 v0) :: .int .i64 (i64.wrap (shift0 + (7 : Int))) :: Ay4 [], [], h1⟩ ((True) ∧ True) (by kernel_rfl) ⟨trivial, trivial⟩ ?_
            exact ⟨(bitsOr .u64 n0 v0, i64.wrap (shift0 + (7 : Int)), x0.2), ⟨.any, .any, .any, h1, rfl, o1⟩, H⟩
      · have H := ifn c3 H
        refine er [] [(2, .bool false, none), (5, .bool false, none)] ⟨[.ptr ad0 0, .any, .int .u64 n0, .int .i64 shift0, .int .u8 x0.1, .any, .bool false, .any], [], h1⟩ ((True) ∧ AV.bool (decide (shift0 > (56 : Int))) = AV.bool false ∧ AV.bool (decide (shift0 > (0 : Int))) = AV.bool false ∧ True) (by kernel_rfl) ⟨trivial, ⟨congrArg AV.bool c1, congrArg AV.bool c3, trivial⟩⟩ ?_
        refine ends_cond false (by kernel_rfl) (fun c6 => ?_) (fun c6 => ?_)
        · cases c6
        refine ends_skip ?_
        refine ends_seq ?_
        obtain ⟨v1, e5, H⟩ := bsi H
        refine er [] [(5, .int .u64 v1, none)] ⟨.ptr ad0 0 :: .any :: .int .u64 (bitsOr .u64 n0 v1) :: .int .i64 shift0 :: .int .u8 x0.1 :: Ay3 [], [], h1⟩ ((True) ∧ binOpA Tryd.prog .shl 40 (.int .u64 (u64.wrap (bitsAnd .u8 x0.1 (127 : Int)))) (.int .i64 shift0) = some (.int .u64 v1) ∧ True) (by kernel_rfl) ⟨trivial, ⟨shL_ok e5, trivial⟩⟩ ?_
        refine sr [] [] ⟨.ptr ad0 0 :: .any :: .int .u64 (bitsOr .u64 n0 v1) :: .int .i64 shift0 :: Ay3 [.bool (decide (x0.1 < (128 : Int)))], [], h1⟩ ((True) ∧ True) (by kernel_rfl) ⟨trivial, trivial⟩ ?_
        refine ends_cond (decide (x0.1 < (128 : Int))) (by kernel_rfl) (fun c7 => ?_) (fun c7 => ?_)
        · have H := ifp c7 H
          refine ends_exit ?_
          have H := Option.some.inj H
          exact ⟨rfl, bitsOr .u64 n0 v1, shift0, x0.2, H, .ptr ad0 0, .int .i64 shift0, .any, .any, .bool (decide (x0.1 < (128 : Int))), h1, rfl, o1⟩
        · have H := ifn c7 H
          refine ends_skip ?_
          refine er [] [] ⟨.ptr ad0 0 :: .any :: .int .u64 (bitsOr .u64 n0 v1) :: .int .i64 (i64.wrap (shift0 + (7 : Int))) :: Ay4 [], [], h1⟩ ((True) ∧ True) (by kernel_rfl) ⟨trivial, trivial⟩ ?_
          exact ⟨(bitsOr .u64 n0 v1, i64.wrap (shift0 + (7 : Int)), x0.2), ⟨.any, .any, .any, h1, rfl, o1⟩, H⟩
  · have H := ifn c0 H
    refine ends_exit ?_
    have H := Option.some.inj H
    exact ⟨rfl, n0, shift0, r1, H, .ptr ad0 0, .int .i64 shift0, .bool (!r1.f_bad), .any, .any, h0, rfl, o0⟩
theorem rd_number_body {ann : FuncId → Ann} (ha : ann 43 = ann43) (S59_ : S59 cf m) (r0 : Rdr) (h : AHeap) (L : Mem) (ad0 : Nat)  (o : Has h ((ad0, .ob [eByte.fz r0.f_b, .bool r0.f_bad]) :: L)) {out : Int × Rdr} (H : rd_number.f m r0 = some out) :
    ∃ r h', bodyA Tryd.prog ann cf m 43 [.ptr ad0 0] h = some (r, h') ∧ r = .int .i64 out.1 ∧ Has h' ((ad0, .ob [eByte.fz out.2.f_b, .bool out.2.f_bad]) :: L) := by
  refine body_of_ends2 (fn := Tryd.f43) ha Tryd.func43 (by kernel_rfl) (by kernel_rfl) ?_
  refine ends_fin (Q := fun s => rd_number.fin L ad0 r0 out s) (fun _ _ ⟨h1, h2, h3⟩ => ⟨h1, _, h2, rfl, h3⟩) ?_
  refine ends_of_eq g43_eq ?_
  have H : _ = some out := H
  unfold rd_number.f at H
  show Enz _ cf ann43 m _ ⟨.ptr ad0 0 :: Ay7 [], [], h⟩ _
  refine sr [] [] ⟨.ptr ad0 0 :: Ay7 [], [], h⟩ ((True) ∧ True) (by kernel_rfl) ⟨trivial, trivial⟩ ?_
  refine sr [] [] ⟨.ptr ad0 0 :: .any :: .int .u64 (0 : Int) :: Ay5 [], [], h⟩ ((True) ∧ True) (by kernel_rfl) ⟨trivial, trivial⟩ ?_
  refine ends_seq ?_
  refine sr [] [] ⟨.ptr ad0 0 :: .any :: .int .u64 (0 : Int) :: .int .i64 (0 : Int) :: Ay4 [], [], h⟩ ((True) ∧ True) (by kernel_rfl) ⟨trivial, trivial⟩ ?_
  refine ends_block ?_
  obtain ⟨out0, e6, H⟩ := bsi H
  refine ends_mono (rd_number.l0_ok L ad0 r0  S59_ (σ := ((0 : Int), (0 : Int), r0)) ⟨.any, .any, .any, h, rfl, o⟩ e6) ?_
  rintro e s ⟨rfl, n1, shift1, r2, rfl, g3, g4, g5, g6, g7, h4, rfl, o4⟩
  try dsimp only at H
  refine sr [] [] ⟨.any :: .int .i64 (i64.wrap n1) :: Ay6 [], [], h4⟩ ((True) ∧ True) (by kernel_rfl) ⟨trivial, trivial⟩ ?_
  refine ends_ret ?_
  have H := Option.some.inj H
  subst H
  exact ⟨.inl rfl, ⟨by kernel_rfl, o4⟩⟩
end
end Go.Proofs.YtmekcfdllhphlaaDoor

namespace Go.Proofs.YtmekcfdllhphlaaDoor
open Go Go.R
open Go.IntKind (i64 u64 u8 u32)
theorem wB1_some {bs news : List Int} (h : bs ≠ []) (hn : news ≠ []) (hl : bs.length + news.length ≤ 140737488355328) : wB1 bs news = some (bs ++ news) := by
  unfold wB1 wB
  rw [if_neg h, if_pos ⟨hl, hn⟩]
theorem wnum_l (m : Nat) : ∀ (k n : Nat) (w : List Int) (f : Nat), k < f → n < 128 ^ (k + 1) → n < 2 ^ 64 → w ≠ [] → w.length + k ≤ 140737488355328 →
    ∃ (x : Nat) (pre : List Int), x < 128 ∧ wr_number.l0 m f (n : Int) w = some ((x : Int), w ++ pre) ∧ pre ++ [(x : Int)] = encN n ∧ pre.length ≤ k
  | _, _, _, 0, hf, _, _, _, _ => absurd hf (by omega)
  | k, n, w, f + 1, hf, hk, hn, hw, hl => by
    by_cases h : n < 128
    · refine ⟨n, [], h, ?_, by rw [encN_small h]; rfl, Nat.zero_le _⟩
      unfold wr_number.l0
      rw [if_neg (by simp; omega), List.append_nil]
    · cases k with
      | zero => simp at hk; omega
      | succ k =>
        have hd : n / 128 < 128 ^ (k + 1) := by
          rw [Nat.div_lt_iff_lt_mul (by omega)]
          calc n < 128 ^ (k + 1 + 1) := hk
            _ = _ := by rw [Nat.pow_succ]
        obtain ⟨x, pre, h1, h2, h3, h4⟩ := wnum_l m k (n / 128) (w ++ [((n % 128 + 128 : Nat) : Int)]) f (by omega) hd (by omega) (by simp) (by simp; omega)
        refine ⟨x, ((n % 128 + 128 : Nat) : Int) :: pre, h1, ?_, by rw [encN_big h, List.cons_append, h3], by simp; omega⟩
        unfold wr_number.l0
        rw [if_pos (by simp; omega), u8_wrap, or128, wB1_some hw (by simp) (by simp; omega), Option.bind_some, shr7, h2, List.append_assoc]
        rfl
theorem wnum {m n : Nat} {w : List Int} (hm : 11 ≤ m) (hn : n < 2 ^ 64) (hw : w ≠ []) (hl : w.length + 20 ≤ 140737488355328) : wr_number.f m w (n : Int) = some (w ++ encN n) := by
  obtain ⟨x, pre, h1, h2, h3, h4⟩ := wnum_l m 10 n w m (by omega) (by omega) hn hw (by omega)
  unfold wr_number.f
  rw [h2, Option.bind_some]
  simp only
  rw [u8_wrap, show ((x : Int) % 256) = (x : Int) by omega, wB1_some (by simp [hw]) (by simp) (by simp; omega), Option.bind_some, List.append_assoc, ← h3]
theorem rbyte {m : Nat} {c : Int} {l : List Int} {bad : Bool} : rd_byte.f m ⟨c :: l, bad⟩ = some (c, ⟨l, bad⟩) := by
  unfold rd_byte.f
  rw [if_neg (by simp; omega)]
  have h1 : ix (c :: l) 0 = some c := rfl
  have h2 : slc (c :: l) 1 ((c :: l).length : Int) = some l := by
    unfold slc
    rw [if_pos ⟨by omega, by simp; omega, Int.le_refl _⟩]
    simp
  simp only [h1, h2, Option.bind_some]
theorem rnum_l (m : Nat) : ∀ (k f : Nat), k < f → ∀ (n a j : Nat) (rest : List Int), n < 128 ^ (k + 1) → a < 2 ^ (7 * j) → a + n * 2 ^ (7 * j) < 2 ^ 63 → (j = 0 ∨ 1 ≤ n) →
    ∃ s' : Int, rd_number.l0 m f (a : Int) ((7 * j : Nat) : Int) ⟨encN n ++ rest, false⟩ = some (((a + n * 2 ^ (7 * j) : Nat) : Int), s', ⟨rest, false⟩)
  | k, 0, hf, _, _, _, _, _, _, _, _ => absurd hf (by omega)
  | k, f + 1, hf, n, a, j, rest, hk, ha, hn, h0 => by
    have hs : 7 * j ≤ 56 := by
      rcases h0 with h0 | h0
      · omega
      · have : 7 * j ≤ 62 := by
          apply Nat.le_of_not_lt
          intro h
          have h1 : 2 ^ 63 ≤ 2 ^ (7 * j) := Nat.pow_le_pow_right (by omega) (by omega)
          have h2 : 1 * 2 ^ (7 * j) ≤ n * 2 ^ (7 * j) := Nat.mul_le_mul_right _ h0
          omega
        omega
    by_cases h : n < 128
    · rw [encN_small h]
      obtain ⟨g1, g2⟩ := or_shl a n (7 * j) ha hs (by omega) h
      have g3 : bitsAnd .u8 (n : Int) 127 = (n : Int) := by rw [and127 n (by omega)]; omega
      refine ⟨((7 * j : Nat) : Int), ?_⟩
      unfold rd_number.l0
      rw [if_pos (show (!false) = true from rfl), List.singleton_append, rbyte, Option.bind_some, if_neg (by simp; omega)]
      dsimp only
      rw [g3, g1, Option.bind_some]
      rw [if_pos (show decide ((n : Int) < 128) = true by simp; omega), g2]
      by_cases hj : j = 0
      · rw [if_neg (by simp; omega)]
      · rw [if_pos (by simp; omega), if_neg (by simp; omega)]
    · rw [encN_big h]
      cases k with
      | zero => simp at hk; omega
      | succ k =>
        have hd : n / 128 < 128 ^ (k + 1) := by
          rw [Nat.div_lt_iff_lt_mul (by omega)]
          calc n < 128 ^ (k + 1 + 1) := hk
            _ = _ := by rw [Nat.pow_succ]
        have hp : 2 ^ (7 * (j + 1)) = 128 * 2 ^ (7 * j) := by rw [show 7 * (j + 1) = 7 + 7 * j by omega, Nat.pow_add]
        have hsum : a + n % 128 * 2 ^ (7 * j) + n / 128 * 2 ^ (7 * (j + 1)) = a + n * 2 ^ (7 * j) := by
          rw [hp, ← Nat.mul_assoc, Nat.add_assoc, ← Nat.add_mul]
          congr 2
          omega
        have ha2 : a + n % 128 * 2 ^ (7 * j) < 2 ^ (7 * (j + 1)) := by
          rw [hp]
          have : n % 128 * 2 ^ (7 * j) ≤ 127 * 2 ^ (7 * j) := Nat.mul_le_mul_right _ (by omega)
          omega
        obtain ⟨g1, g2⟩ := or_shl a (n % 128) (7 * j) ha hs (by have := Nat.zero_le (n / 128 * 2 ^ (7 * (j + 1))); omega) (Nat.mod_lt _ (by omega))
        have g3 : bitsAnd .u8 ((n % 128 + 128 : Nat) : Int) 127 = ((n % 128 : Nat) : Int) := by
          rw [and127 _ (by omega)]; omega
        obtain ⟨s', ih⟩ := rnum_l m k f (by omega) (n / 128) (a + n % 128 * 2 ^ (7 * j)) (j + 1) rest hd ha2 (by omega) (.inr (by omega))
        rw [hsum] at ih
        refine ⟨s', ?_⟩
        unfold rd_number.l0
        rw [if_pos (show (!false) = true from rfl), List.cons_append, rbyte, Option.bind_some, if_neg (by simp; omega)]
        dsimp only
        rw [g3, g1, Option.bind_some, g2]
        have g4 : i64.wrap (((7 * j : Nat) : Int) + 7) = ((7 * (j + 1) : Nat) : Int) := by rw [i64_id (by omega) (by omega)]; omega
        rw [if_neg (show ¬ decide (((n % 128 + 128 : Nat) : Int) < 128) = true by simp; omega), g4, ih]
        by_cases hj : j = 0
        · rw [if_neg (by simp; omega)]
        · rw [if_pos (by simp; omega), if_neg (by simp; omega)]
theorem rnum {m n : Nat} {rest : List Int} (hm : 11 ≤ m) (hn : n < 2 ^ 63) : rd_number.f m ⟨encN n ++ rest, false⟩ = some ((n : Int), ⟨rest, false⟩) := by
  obtain ⟨s', h⟩ := rnum_l m 10 m (by omega) n 0 0 rest (by omega) (by omega) (by omega) (.inl rfl)
  unfold rd_number.f
  have h : rd_number.l0 m m (0 : Int) (0 : Int) ⟨encN n ++ rest, false⟩ = some (((0 + n * 2 ^ (7 * 0) : Nat) : Int), s', ⟨rest, false⟩) := h
  rw [h, Option.bind_some]
  simp only
  rw [i64_id (by omega) (by omega)]
  simp
end Go.Proofs.YtmekcfdllhphlaaDoor

namespace Go.Proofs.YtmekcfdllhphlaaDoor
open Go Go.R
open Go.IntKind (i64 u64 u8 u32)
def ann74 : Ann := { keep := [0, 1], locs := [], dead := [(1, [0, 1])], frz := [], frz2 := [] }
noncomputable def g74R0 := sub [0] (codeOf Tryd.f74)
noncomputable def g74R1 := sub [1] (codeOf Tryd.f74)
theorem g74_eq : codeOf Tryd.f74 = (.seq g74R0 g74R1) := by kernel_rfl
def wr_text.f (m : Nat) (w0 : List Int) (s0 : ByteArray) : Option ((List Int)) := (wr_number.f m w0 (u64.wrap (s0.size : Int))).bind fun x0 => (wB1 x0 (strBytes s0)).bind fun bs0 => some bs0
def wr_text.fin (L : Mem) (ad_w0 : Nat) (is_w0_0 : Nat) (w0 : List Int) (s0 : ByteArray) (r : (List Int)) (s : St) : Prop := ∃ iw0_0 : Nat, resultA Tryd.prog (s.open ann74) Tryd.f74.results.toList = some (.tup []) ∧ Has s.h ((ad_w0, .ob [.rs iw0_0 0 r.length 1, .int .i64 (0 : Int), .int .i8 (0 : Int)]) :: (iw0_0, .row 5 (eByte.l r)) :: L)
def S74 (cf : CallF) (m : Nat) : Prop := ∀ (w0 : List Int) (s0 : ByteArray) (r : (List Int)), wr_text.f m w0 s0 = some r → ∀ h L (ad_w0 : Nat) (is_w0_0 : Nat), Has h ((ad_w0, .ob [.rs is_w0_0 0 w0.length 1, .int .i64 (0 : Int), .int .i8 (0 : Int)]) :: (is_w0_0, .row 5 (eByte.l w0)) :: L) → ∀ xs, xs.map canonArg = [.ptr ad_w0 0, .str s0] → ∃ iw0_0 h', cf 74 xs h = some (.tup [], h') ∧ Has h' ((ad_w0, .ob [.rs iw0_0 0 r.length 1, .int .i64 (0 : Int), .int .i8 (0 : Int)]) :: (iw0_0, .row 5 (eByte.l r)) :: L)
section
variable {cf : CallF} {m : Nat}
theorem wr_text_body {ann : FuncId → Ann} (ha : ann 74 = ann74) (S54_ : S54 cf m) (S101_ : S101 cf m) (w0 : List Int) (s0 : ByteArray) (h : AHeap) (L : Mem) (ad_w0 : Nat) (is_w0_0 : Nat)  (o : Has h ((ad_w0, .ob [.rs is_w0_0 0 w0.length 1, .int .i64 (0 : Int), .int .i8 (0 : Int)]) :: (is_w0_0, .row 5 (eByte.l w0)) :: L)) {out : (List Int)} (H : wr_text.f m w0 s0 = some out) :
    ∃ r h', bodyA Tryd.prog ann cf m 74 [.ptr ad_w0 0, .str s0] h = some (r, h') ∧ ∃ iw0_0 : Nat, r = .tup [] ∧ Has h' ((ad_w0, .ob [.rs iw0_0 0 out.length 1, .int .i64 (0 : Int), .int .i8 (0 : Int)]) :: (iw0_0, .row 5 (eByte.l out)) :: L) := by
  refine body_of_ends2 (fn := Tryd.f74) ha Tryd.func74 (by kernel_rfl) (by kernel_rfl) ?_
  refine ends_fin (Q := fun s => wr_text.fin L ad_w0 is_w0_0 w0 s0 out s) (fun _ _ ⟨h1, iw0_0, h2, h3⟩ => ⟨h1, _, h2, iw0_0, rfl, h3⟩) ?_
  refine ends_of_eq g74_eq ?_
  have H : _ = some out := H
  unfold wr_text.f at H
  show Enz _ cf ann74 m _ ⟨[.ptr ad_w0 0, .str s0], [], h⟩ _
  refine ends_seq ?_
  obtain ⟨x0, e0, H⟩ := bsi H
  obtain ⟨ad0, h0, e1, o0⟩ := S54_ _ _ _ e0 h _ _ _ (o)  [.ptr ad_w0 0, .int .u64 (u64.wrap (s0.size : Int))] (can_cons (rfl) (can_cons (can_pure (pu_int)) (can_nil)))
  refine er [] [(4, .tup [], some h0)] ⟨[.ptr ad_w0 0, .str s0], [], h0⟩ ((True) ∧ callO cf (.fn 54 []) [.ptr ad_w0 0, .int .u64 (u64.wrap (s0.size : Int))] h = some (.tup [], h0) ∧ True) (by kernel_rfl) ⟨trivial, ⟨callO_of (by kernel_rfl) e1, trivial⟩⟩ ?_
  obtain ⟨bs0, e2, H⟩ := bsi H
  obtain ⟨ad1, h1, e3, o1⟩ := ws_own1 (bs := x0) S101_ o0 e2
  refine er [] [(4, .tup [.int .i64 (s0.size : Int), .any], some h1)] ⟨[.any, .any], [], h1⟩ ((True) ∧ callO cf (.fn 101 []) [.ptr ad_w0 0, .str s0] h0 = some (.tup [.int .i64 (s0.size : Int), .any], h1) ∧ True) (by kernel_rfl) ⟨trivial, ⟨callO_of (by kernel_rfl) e3, trivial⟩⟩ ?_
  have H := Option.some.inj H
  subst H
  exact ⟨.inr rfl, ⟨ad1, by kernel_rfl, o1⟩⟩
end
end Go.Proofs.YtmekcfdllhphlaaDoor

namespace Go.Proofs.YtmekcfdllhphlaaDoor
open Go Go.R
open Go.IntKind (i64 u64 u8 u32)
def ann55 : Ann := { keep := [0, 1, 3, 5, 14, 15, 22, 26, 41, 47, 60, 61, 62, 63], locs := [3], dead := [(0, [1, 5, 14, 15, 22, 26, 41, 47, 60, 61, 62, 63]), (1, [1, 5, 14, 15, 22, 26, 41, 47, 60, 61, 62, 63]), (2, [1, 5, 15, 22, 26, 41, 47, 60, 61, 62, 63]), (3, [1, 5, 22, 26, 41, 47, 60, 61, 62, 63]), (4, [0, 1, 3, 5, 14, 15, 22, 26, 41, 47, 60, 61, 62, 63]), (5, [1, 5, 15, 26, 41, 47, 60, 61, 62, 63]), (6, [1, 5, 14, 15, 22, 41, 47, 60, 61, 62, 63]), (7, [0, 1, 3, 5, 14, 15, 22, 26, 41, 47, 60, 61, 62, 63]), (8, [0, 1, 3, 5, 14, 15, 22, 26, 41, 47, 60, 61, 62, 63]), (9, [1, 5, 15, 22, 26, 47, 60, 61, 62, 63]), (10, [0, 1, 3, 5, 14, 15, 22, 26, 41, 47, 60, 61, 62, 63]), (11, [1, 5, 14, 15, 22, 26, 41, 60, 61, 62, 63]), (12, [1, 5, 14, 15, 22, 26, 41, 47, 60, 61, 62, 63]), (13, [1, 5, 14, 15, 22, 26, 41, 47, 60, 61, 62, 63]), (14, [1, 3, 5, 14, 15, 22, 26, 41, 47, 63]), (15, [1, 3, 5, 14, 15, 22, 26, 41, 47]), (16, [1, 3, 14, 15, 22, 26, 41, 47, 63]), (17, [1, 3, 5, 14, 15, 22, 26, 41, 47, 63]), (18, [1, 3, 5, 14, 15, 22, 26, 41, 47, 63])], frz := [], frz2 := [] }
noncomputable def g55R0 := sub [0] (codeOf Tryd.f55)
noncomputable def g55R1 := sub [1, 0] (codeOf Tryd.f55)
noncomputable def g55R2 := sub [1, 1, 0] (codeOf Tryd.f55)
noncomputable def g55R3 := sub [1, 1, 1, 0, 0] (codeOf Tryd.f55)
noncomputable def g55R4 := sub [1, 1, 1, 0, 1, 0] (codeOf Tryd.f55)
noncomputable def g55R5 := sub [1, 1, 1, 0, 1, 1, 0] (codeOf Tryd.f55)
noncomputable def g55R6 := sub [1, 1, 1, 0, 1, 1, 1, 0, 0] (codeOf Tryd.f55)
noncomputable def g55R7 := sub [1, 1, 1, 0, 1, 1, 1, 0, 1, 0] (codeOf Tryd.f55)
noncomputable def g55R8 := sub [1, 1, 1, 0, 1, 1, 1, 0, 1, 1] (codeOf Tryd.f55)
noncomputable def g55R9 := sub [1, 1, 1, 0, 1, 1, 1, 1, 0] (codeOf Tryd.f55)
noncomputable def g55R10 := sub [1, 1, 1, 0, 1, 1, 1, 1, 1, 0] (codeOf Tryd.f55)
noncomputable def g55R11 := sub [1, 1, 1, 0, 1, 1, 1, 1, 1, 1, 0] (codeOf Tryd.f55)
noncomputable def g55R12 := sub [1, 1, 1, 0, 1, 1, 1, 1, 1, 1, 1, 0, 0] (codeOf Tryd.f55)
noncomputable def g55R13 := sub [1, 1, 1, 0, 1, 1, 1, 1, 1, 1, 1, 0, 1, 0] (codeOf Tryd.f55)
noncomputable def g55R14 := sub [1, 1, 1, 0, 1, 1, 1, 1, 1, 1, 1, 0, 1, 1, 0] (codeOf Tryd.f55)
noncomputable def g55L0 := sub [1, 1, 1, 0, 1, 1, 1, 1, 1, 1, 1, 0, 1, 1, 1, 0, 0] (codeOf Tryd.f55)
noncomputable def g55R15 := sub [1, 1, 1, 0, 1, 1, 1, 1, 1, 1, 1, 0, 1, 1, 1, 0, 0, 0] (codeOf Tryd.f55)
noncomputable def g55R16 := sub [1, 1, 1, 0, 1, 1, 1, 1, 1, 1, 1, 0, 1, 1, 1, 0, 0, 1, 1, 0, 0, 0] (codeOf Tryd.f55)
noncomputable def g55R17 := sub [1, 1, 1, 0, 1, 1, 1, 1, 1, 1, 1, 0, 1, 1, 1, 0, 0, 1, 1, 0, 0, 1] (codeOf Tryd.f55)
noncomputable def g55R18 := sub [1, 1, 1, 0, 1, 1, 1, 1, 1, 1, 1, 0, 1, 1, 1, 0, 0, 1, 1, 1] (codeOf Tryd.f55)
theorem g55L0_eq : g55L0 = (.seq g55R15 (.seq (.cond (.tmp 63) .skip (.exit 1)) (.seq (.block 2 (.seq g55R16 g55R17)) g55R18))) := by kernel_rfl
theorem g55_eq : codeOf Tryd.f55 = (.seq g55R0 (.seq g55R1 (.seq g55R2 (.block 0 (.seq g55R3 (.cond (.tmp 15) g55R4 (.seq g55R5 (.cond (.tmp 22) (.seq g55R6 (.cond (.tmp 26) g55R7 g55R8)) (.seq g55R9 (.cond (.tmp 41) g55R10 (.seq g55R11 (.cond (.tmp 47) (.seq g55R12 (.seq g55R13 (.seq g55R14 (.block 1 (.loop g55L0))))) .skip)))))))))))) := by kernel_rfl
def wr_node.l0 (m : Nat) (n0 : VNode) : Nat → Int → (List Int) → Option (Int × (List Int))
  | 0, _, _ => none
  | k + 1, x6, w1 => if (decide (x6 < (n0.args.length : Int))) = true then ((ix n0.args x6).bind fun v0 => (wr_number.f m w1 (u64.wrap v0)).bind fun x7 => wr_node.l0 m n0 k (i64.wrap (x6 + (1 : Int))) x7) else (some ((x6, w1)))
def wr_node.f (m : Nat) (w0 : List Int) (n0 : VNode) : Option ((List Int)) := (wB1 w0 ([u8.wrap n0.kind])).bind fun bs0 => if (n0.kind == (0 : Int)) = true then ((wr_number.f m bs0 (u64.wrap n0.int)).bind fun x0 => some x0) else (if (n0.kind == (1 : Int)) = true then (if (decide (n0.int < (0 : Int))) = true then ((wr_number.f m bs0 (u64.wrap (u64.wrap (u64.wrap (i64.wrap (0 - n0.int)) * (2 : Int)) - (1 : Int)))).bind fun x1 => some x1) else ((wr_number.f m bs0 (u64.wrap (u64.wrap n0.int * (2 : Int)))).bind fun x2 => some x2)) else (if (n0.kind == (2 : Int)) = true then ((wr_text.f m bs0 n0.label).bind fun x3 => some x3) else (if (n0.kind == (3 : Int)) = true then ((wr_text.f m bs0 n0.label).bind fun x4 => (wr_number.f m x4 (u64.wrap (n0.args.length : Int))).bind fun x5 => (wr_node.l0 m n0 m (0 : Int) x5).bind fun out0 => match out0 with | (x8, w2) => some w2) else (some bs0))))
def wr_node.fin (L : Mem) (ad_w0 : Nat) (is_w0_0 : Nat) (w0 : List Int) (n0 : VNode) (r : (List Int)) (s : St) : Prop := ∃ iw0_0 : Nat, resultA Tryd.prog (s.open ann55) Tryd.f55.results.toList = some (.tup []) ∧ Has s.h ((ad_w0, .ob [.rs iw0_0 0 r.length 1, .int .i64 (0 : Int), .int .i8 (0 : Int)]) :: (iw0_0, .row 5 (eByte.l r)) :: L)
def S55 (cf : CallF) (m : Nat) : Prop := ∀ (w0 : List Int) (n0 : VNode) (r : (List Int)), wr_node.f m w0 n0 = some r → ∀ h L (ad_w0 : Nat) (is_w0_0 : Nat), Has h ((ad_w0, .ob [.rs is_w0_0 0 w0.length 1, .int .i64 (0 : Int), .int .i8 (0 : Int)]) :: (is_w0_0, .row 5 (eByte.l w0)) :: L) → ∀ xs, xs.map canonArg = [.ptr ad_w0 0, .agg [.int .i64 n0.kind, .int .i64 n0.int, .str n0.label, eInt.fz n0.args]] → ∃ iw0_0 h', cf 55 xs h = some (.tup [], h') ∧ Has h' ((ad_w0, .ob [.rs iw0_0 0 r.length 1, .int .i64 (0 : Int), .int .i8 (0 : Int)]) :: (iw0_0, .row 5 (eByte.l r)) :: L)
section
variable {cf : CallF} {m : Nat}
def wr_node.l0.R (L : Mem) (ad_w0 : Nat) (is_w0_0 : Nat) (w0 : List Int) (n0 : VNode) (σ : Int × (List Int)) (s : St) : Prop :=
  match σ with
  | (x6, w1) => ∃ (g0 : AV) (g1 : AV) (g2 : AV) (g3 : AV) (g4 : AV) (g5 : AV) (ad7 : Nat) (h7 : AHeap), s = ⟨.ptr ad_w0 0 :: Ay4 [g0, g1, g2, g3, g4, eInt.fz n0.args, .int .i64 (n0.args.length : Int), .int .i64 x6, g5], [none], h7⟩ ∧ Has h7 ((ad_w0, .ob [.rs ad7 0 w1.length 1, .int .i64 (0 : Int), .int .i8 (0 : Int)]) :: (ad7, .row 5 (eByte.l w1)) :: L)
def wr_node.l0.Q (L : Mem) (ad_w0 : Nat) (is_w0_0 : Nat) (w0 : List Int) (n0 : VNode) (out : Int × (List Int)) (e : Ex) (s : St) : Prop :=
  (e = .exit 1 ∧ ∃ (x6 : Int) (w1 : List Int), (x6, w1) = out ∧ ∃ (x0_ : AV) (x15_ : AV) (x22_ : AV) (x26_ : AV) (x41_ : AV) (x47_ : AV) (x60_ : AV) (x61_ : AV) (x62_ : AV) (x63_ : AV) (ad7 : Nat) (h7 : AHeap), s = ⟨x0_ :: Ay4 [x15_, x22_, x26_, x41_, x47_, x60_, x61_, x62_, x63_], [none], h7⟩ ∧ Has h7 ((ad_w0, .ob [.rs ad7 0 w1.length 1, .int .i64 (0 : Int), .int .i8 (0 : Int)]) :: (ad7, .row 5 (eByte.l w1)) :: L))
theorem wr_node.l0_ok (L : Mem) (ad_w0 : Nat) (is_w0_0 : Nat) (w0 : List Int) (n0 : VNode)  (S54_ : S54 cf m) {σ : Int × (List Int)} {s : St} {out : Int × (List Int)} (hr : wr_node.l0.R L ad_w0 is_w0_0 w0 n0 σ s) (H : (fun k σ => wr_node.l0 m n0 k σ.1 σ.2) m σ = some out) : Enz Tryd.prog cf ann55 m (.loop g55L0) s (wr_node.l0.Q L ad_w0 is_w0_0 w0 n0 out) := by
  refine ends_loop (fun k σ => wr_node.l0 m n0 k σ.1 σ.2) (wr_node.l0.R L ad_w0 is_w0_0 w0 n0) (wr_node.l0.Q L ad_w0 is_w0_0 w0 n0) (fun _ => rfl) ?_ hr H (fun _ _ _ h => h)
  clear hr H σ s out
  rintro k ⟨x6, w1⟩ s out ⟨g0, g1, g2, g3, g4, g5, ad7, h7, rfl, o7⟩ H
  have H : wr_node.l0 m n0 (k + 1) x6 w1 = some out := H
  refine ends_of_eq g55L0_eq ?_
  refine sr [] [] ⟨.ptr ad_w0 0 :: Ay9 [eInt.fz n0.args, .int .i64 (n0.args.length : Int), .int .i64 x6, .bool (decide (x6 < (n0.args.length : Int)))], [none], h7⟩ ((True) ∧ True) (by kernel_rfl) ⟨trivial, trivial⟩ ?_
  refine ends_seq ?_
  refine ends_cond (decide (x6 < (n0.args.length : Int))) (by kernel_rfl) (fun c5 => ?_) (fun c5 => ?_)
  · have H := ifp c5 H
    refine ends_skip ?_
    refine ends_seq ?_
    refine ends_block ?_
    refine ends_seq ?_
    obtain ⟨v0, e14, H⟩ := bsi H
    refine er [] [(0, .fp (eInt.l n0.args) (x6.toNat * 1), none), (1, .int .i64 v0, none)] ⟨.ptr ad_w0 0 :: .any :: .any :: .int .i64 v0 :: Ay6 [eInt.fz n0.args, .int .i64 (n0.args.length : Int), .int .i64 x6, .any], [none], h7⟩ ((True) ∧ indexAddrA Tryd.prog 42 (eInt.fz n0.args) (.int .i64 x6) = some (.fp (eInt.l n0.args) (x6.toNat * 1)) ∧ loadH Tryd.prog h7 3 (.fp (eInt.l n0.args) (x6.toNat * 1)) = some (.int .i64 v0) ∧ True) (by kernel_rfl) ⟨trivial, ⟨ia_fz (E := eInt) (l := n0.args) T42 e14, ld_fz0 (E := eInt) (l := n0.args) h7 A3 e14 rfl, trivial⟩⟩ ?_
    obtain ⟨x7, e15, H⟩ := bsi H
    obtain ⟨ad8, h8, e16, o8⟩ := S54_ _ _ _ e15 h7 _ _ _ (o7)  [.ptr ad_w0 0, .int .u64 (u64.wrap v0)] (can_cons (rfl) (can_cons (can_pure (pu_int)) (can_nil)))
    refine er [] [(3, .tup [], some h8)] ⟨.ptr ad_w0 0 :: Ay9 [eInt.fz n0.args, .int .i64 (n0.args.length : Int), .int .i64 x6, .any], [none], h8⟩ ((True) ∧ callO cf (.fn 54 []) [.ptr ad_w0 0, .int .u64 (u64.wrap v0)] h7 = some (.tup [], h8) ∧ True) (by kernel_rfl) ⟨trivial, ⟨callO_of (by kernel_rfl) e16, trivial⟩⟩ ?_
    refine er [] [] ⟨.ptr ad_w0 0 :: Ay9 [eInt.fz n0.args, .int .i64 (n0.args.length : Int), .int .i64 (i64.wrap (x6 + (1 : Int))), .any], [none], h8⟩ ((True) ∧ True) (by kernel_rfl) ⟨trivial, trivial⟩ ?_
    exact ⟨(i64.wrap (x6 + (1 : Int)), x7), ⟨.any, .any, .any, .any, .any, .any, ad8, h8, rfl, o8⟩, H⟩
  · have H := ifn c5 H
    refine ends_exit ?_
    have H := Option.some.inj H
    exact ⟨rfl, x6, w1, H, .ptr ad_w0 0, .any, .any, .any, .any, .any, eInt.fz n0.args, .int .i64 (n0.args.length : Int), .int .i64 x6, .bool (decide (x6 < (n0.args.length : Int))), ad7, h7, rfl, o7⟩
theorem wr_node_body {ann : FuncId → Ann} (ha : ann 55 = ann55) (S53_ : S53 cf m) (S54_ : S54 cf m) (S74_ : S74 cf m) (w0 : List Int) (n0 : VNode) (h : AHeap) (L : Mem) (ad_w0 : Nat) (is_w0_0 : Nat)  (o : Has h ((ad_w0, .ob [.rs is_w0_0 0 w0.length 1, .int .i64 (0 : Int), .int .i8 (0 : Int)]) :: (is_w0_0, .row 5 (eByte.l w0)) :: L)) {out : (List Int)} (H : wr_node.f m w0 n0 = some out) :
    ∃ r h', bodyA Tryd.prog ann cf m 55 [.ptr ad_w0 0, .agg [.int .i64 n0.kind, .int .i64 n0.int, .str n0.label, eInt.fz n0.args]] h = some (r, h') ∧ ∃ iw0_0 : Nat, r = .tup [] ∧ Has h' ((ad_w0, .ob [.rs iw0_0 0 out.length 1, .int .i64 (0 : Int), .int .i8 (0 : Int)]) :: (iw0_0, .row 5 (eByte.l out)) :: L) := by
  refine body_of_ends2 (fn := Tryd.f55) ha Tryd.func55 (by kernel_rfl) (by kernel_rfl) ?_
  refine ends_fin (Q := fun s => wr_node.fin L ad_w0 is_w0_0 w0 n0 out s) (fun _ _ ⟨h1, iw0_0, h2, h3⟩ => ⟨h1, _, h2, iw0_0, rfl, h3⟩) ?_
  refine ends_of_eq g55_eq ?_
  have H : _ = some out := H
  unfold wr_node.f at H
  show Enz _ cf ann55 m _ ⟨.ptr ad_w0 0 :: .agg [.int .i64 n0.kind, .int .i64 n0.int, .str n0.label, eInt.fz n0.args] :: Ay12 [], [none], h⟩ _
  refine sr [] [] ⟨.ptr ad_w0 0 :: .any :: .lp 3 0 :: Ay11 [], [some [.int .i64 n0.kind, .int .i64 n0.int, .str n0.label, eInt.fz n0.args]], h⟩ ((True) ∧ True) (by kernel_rfl) ⟨trivial, trivial⟩ ?_
  refine ends_seq ?_
  obtain ⟨bs0, e0, H⟩ := bsi H
  obtain ⟨ad0, h0, e1, o0⟩ := wb_own1 (bs := w0) S53_ o e0
  refine er [] [(6, .any, some h0)] ⟨.ptr ad_w0 0 :: .any :: .lp 3 0 :: Ay11 [], [some [.int .i64 n0.kind, .int .i64 n0.int, .str n0.label, eInt.fz n0.args]], h0⟩ ((True) ∧ callO cf (.fn 53 []) [.ptr ad_w0 0, .int .u8 (u8.wrap n0.kind)] h = some (.any, h0) ∧ True) (by kernel_rfl) ⟨trivial, ⟨callO_of (by kernel_rfl) e1, trivial⟩⟩ ?_
  refine sr [] [] ⟨.ptr ad_w0 0 :: .any :: .lp 3 0 :: .any :: .int .i64 n0.kind :: Ay9 [], [some [.int .i64 n0.kind, .int .i64 n0.int, .str n0.label, eInt.fz n0.args]], h0⟩ ((True) ∧ True) (by kernel_rfl) ⟨trivial, trivial⟩ ?_
  refine ends_block ?_
  refine sr [] [] ⟨.ptr ad_w0 0 :: .any :: .lp 3 0 :: .any :: .int .i64 n0.kind :: .bool (n0.kind == (0 : Int)) :: Ay8 [], [some [.int .i64 n0.kind, .int .i64 n0.int, .str n0.label, eInt.fz n0.args]], h0⟩ ((True) ∧ True) (by kernel_rfl) ⟨trivial, trivial⟩ ?_
  refine ends_cond (n0.kind == (0 : Int)) (by kernel_rfl) (fun c0 => ?_) (fun c0 => ?_)
  · have H := ifp c0 H
    obtain ⟨x0, e2, H⟩ := bsi H
    obtain ⟨ad1, h1, e3, o1⟩ := S54_ _ _ _ e2 h0 _ _ _ (o0)  [.ptr ad_w0 0, .int .u64 (u64.wrap n0.int)] (can_cons (rfl) (can_cons (can_pure (pu_int)) (can_nil)))
    refine er [] [(4, .tup [], some h1)] ⟨Ay14 [], [none], h1⟩ ((True) ∧ callO cf (.fn 54 []) [.ptr ad_w0 0, .int .u64 (u64.wrap n0.int)] h0 = some (.tup [], h1) ∧ True) (by kernel_rfl) ⟨trivial, ⟨callO_of (by kernel_rfl) e3, trivial⟩⟩ ?_
    have H := Option.some.inj H
    subst H
    exact ⟨.inr rfl, ⟨ad1, by kernel_rfl, o1⟩⟩
  · have H := ifn c0 H
    refine sr [] [] ⟨.ptr ad_w0 0 :: .any :: .lp 3 0 :: .any :: .int .i64 n0.kind :: .any :: .bool (n0.kind == (1 : Int)) :: Ay7 [], [some [.int .i64 n0.kind, .int .i64 n0.int, .str n0.label, eInt.fz n0.args]], h0⟩ ((True) ∧ True) (by kernel_rfl) ⟨trivial, trivial⟩ ?_
    refine ends_cond (n0.kind == (1 : Int)) (by kernel_rfl) (fun c1 => ?_) (fun c1 => ?_)
    · have H := ifp c1 H
      refine sr [] [] ⟨.ptr ad_w0 0 :: .any :: .lp 3 0 :: Ay4 (.bool (decide (n0.int < (0 : Int))) :: Ay6 []), [some [.int .i64 n0.kind, .int .i64 n0.int, .str n0.label, eInt.fz n0.args]], h0⟩ ((True) ∧ True) (by kernel_rfl) ⟨trivial, trivial⟩ ?_
      refine ends_cond (decide (n0.int < (0 : Int))) (by kernel_rfl) (fun c2 => ?_) (fun c2 => ?_)
      · have H := ifp c2 H
        obtain ⟨x1, e4, H⟩ := bsi H
        obtain ⟨ad2, h2, e5, o2⟩ := S54_ _ _ _ e4 h0 _ _ _ (o0)  [.ptr ad_w0 0, .int .u64 (u64.wrap (u64.wrap (u64.wrap (i64.wrap (0 - n0.int)) * (2 : Int)) - (1 : Int)))] (can_cons (rfl) (can_cons (can_pure (pu_int)) (can_nil)))
        refine er [] [(7, .tup [], some h2)] ⟨Ay14 [], [none], h2⟩ ((True) ∧ callO cf (.fn 54 []) [.ptr ad_w0 0, .int .u64 (u64.wrap (u64.wrap (u64.wrap (i64.wrap (0 - n0.int)) * (2 : Int)) - (1 : Int)))] h0 = some (.tup [], h2) ∧ True) (by kernel_rfl) ⟨trivial, ⟨callO_of (by kernel_rfl) e5, trivial⟩⟩ ?_
        have H := Option.some.inj H
        subst H
        exact ⟨.inr rfl, ⟨ad2, by kernel_rfl, o2⟩⟩
      · have H := ifn c2 H
        obtain ⟨x2, e6, H⟩ := bsi H
        obtain ⟨ad3, h3, e7, o3⟩ := S54_ _ _ _ e6 h0 _ _ _ (o0)  [.ptr ad_w0 0, .int .u64 (u64.wrap (u64.wrap n0.int * (2 : Int)))] (can_cons (rfl) (can_cons (can_pure (pu_int)) (can_nil)))
        refine er [] [(5, .tup [], some h3)] ⟨Ay14 [], [none], h3⟩ ((True) ∧ callO cf (.fn 54 []) [.ptr ad_w0 0, .int .u64 (u64.wrap (u64.wrap n0.int * (2 : Int)))] h0 = some (.tup [], h3) ∧ True) (by kernel_rfl) ⟨trivial, ⟨callO_of (by kernel_rfl) e7, trivial⟩⟩ ?_
        have H := Option.some.inj H
        subst H
        exact ⟨.inr rfl, ⟨ad3, by kernel_rfl, o3⟩⟩
    · have H := ifn c1 H
      refine sr [] [] ⟨.ptr ad_w0 0 :: .any :: .lp 3 0 :: .any :: .int .i64 n0.kind :: Ay3 (.bool (n0.kind == (2 : Int)) :: Ay5 []), [some [.int .i64 n0.kind, .int .i64 n0.int, .str n0.label, eInt.fz n0.args]], h0⟩ ((True) ∧ True) (by kernel_rfl) ⟨trivial, trivial⟩ ?_
      refine ends_cond (n0.kind == (2 : Int)) (by kernel_rfl) (fun c3 => ?_) (fun c3 => ?_)
      · have H := ifp c3 H
        obtain ⟨x3, e8, H⟩ := bsi H
        obtain ⟨ad4, h4, e9, o4⟩ := S74_ _ _ _ e8 h0 _ _ _ (o0)  [.ptr ad_w0 0, .str n0.label] (can_cons (rfl) (can_cons (can_pure (pu_str)) (can_nil)))
        refine er [] [(3, .tup [], some h4)] ⟨Ay14 [], [none], h4⟩ ((True) ∧ callO cf (.fn 74 []) [.ptr ad_w0 0, .str n0.label] h0 = some (.tup [], h4) ∧ True) (by kernel_rfl) ⟨trivial, ⟨callO_of (by kernel_rfl) e9, trivial⟩⟩ ?_
        have H := Option.some.inj H
        subst H
        exact ⟨.inr rfl, ⟨ad4, by kernel_rfl, o4⟩⟩
      · have H := ifn c3 H
        refine sr [] [] ⟨.ptr ad_w0 0 :: .any :: .lp 3 0 :: Ay6 (.bool (n0.kind == (3 : Int)) :: Ay4 []), [some [.int .i64 n0.kind, .int .i64 n0.int, .str n0.label, eInt.fz n0.args]], h0⟩ ((True) ∧ True) (by kernel_rfl) ⟨trivial, trivial⟩ ?_
        refine ends_cond (n0.kind == (3 : Int)) (by kernel_rfl) (fun c4 => ?_) (fun c4 => ?_)
        · have H := ifp c4 H
          refine ends_seq ?_
          obtain ⟨x4, e10, H⟩ := bsi H
          obtain ⟨ad5, h5, e11, o5⟩ := S74_ _ _ _ e10 h0 _ _ _ (o0)  [.ptr ad_w0 0, .str n0.label] (can_cons (rfl) (can_cons (can_pure (pu_str)) (can_nil)))
          refine er [] [(3, .tup [], some h5)] ⟨.ptr ad_w0 0 :: .any :: .lp 3 0 :: Ay11 [], [some [.int .i64 n0.kind, .int .i64 n0.int, .str n0.label, eInt.fz n0.args]], h5⟩ ((True) ∧ callO cf (.fn 74 []) [.ptr ad_w0 0, .str n0.label] h0 = some (.tup [], h5) ∧ True) (by kernel_rfl) ⟨trivial, ⟨callO_of (by kernel_rfl) e11, trivial⟩⟩ ?_
          refine ends_seq ?_
          obtain ⟨x5, e12, H⟩ := bsi H
          obtain ⟨ad6, h6, e13, o6⟩ := S54_ _ _ _ e12 h5 _ _ _ (o5)  [.ptr ad_w0 0, .int .u64 (u64.wrap (n0.args.length : Int))] (can_cons (rfl) (can_cons (can_pure (pu_int)) (can_nil)))
          refine er [] [(5, .tup [], some h6)] ⟨.ptr ad_w0 0 :: .any :: .lp 3 0 :: Ay11 [], [some [.int .i64 n0.kind, .int .i64 n0.int, .str n0.label, eInt.fz n0.args]], h6⟩ ((True) ∧ callO cf (.fn 54 []) [.ptr ad_w0 0, .int .u64 (u64.wrap (n0.args.length : Int))] h5 = some (.tup [], h6) ∧ True) (by kernel_rfl) ⟨trivial, ⟨callO_of (by kernel_rfl) e13, trivial⟩⟩ ?_
          refine sr [] [] ⟨.ptr ad_w0 0 :: Ay9 [eInt.fz n0.args, .int .i64 (n0.args.length : Int), .int .i64 (0 : Int), .any], [none], h6⟩ ((True) ∧ True) (by kernel_rfl) ⟨trivial, trivial⟩ ?_
          refine ends_block ?_
          obtain ⟨out0, e17, H⟩ := bsi H
          refine ends_mono (wr_node.l0_ok L ad_w0 is_w0_0 w0 n0  S54_ (σ := ((0 : Int), x5)) ⟨.any, .any, .any, .any, .any, .any, ad6, h6, rfl, o6⟩ e17) ?_
          rintro e s ⟨rfl, x8, w2, rfl, g6, g7, g8, g9, g10, g11, g12, g13, g14, g15, ad9, h9, rfl, o9⟩
          try dsimp only at H
          have H := Option.some.inj H
          subst H
          exact ⟨.inr rfl, ⟨ad9, by kernel_rfl, o9⟩⟩
        · have H := ifn c4 H
          refine ends_skip ?_
          have H := Option.some.inj H
          subst H
          exact ⟨.inr rfl, ⟨ad0, by kernel_rfl, o0⟩⟩
end
end Go.Proofs.YtmekcfdllhphlaaDoor

