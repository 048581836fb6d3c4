/- Part of the proof: Q18, Q4, PR10, PT12, PT13, RFix, PdB, QJ0, QJ13, QJ1. -/
import Derived.Test.YtmekcfdllhphlaaDoorK13
import Derived.Test.YtmekcfdllhphlaaDoorChecked
set_option linter.unusedVariables false
set_option linter.unusedSimpArgs false
set_option maxRecDepth 100000
namespace Go.Proofs.YtmekcfdllhphlaaDoor
open Go Go.R
open Go.IntKind (i64 u64 u8 u32)
def ann18 : Ann := { keep := [0, 1, 2, 3, 4, 5, 6, 7, 8, 22, 27, 67, 72, 85], locs := [2, 3, 6, 7], dead := [(0, [0, 1, 4, 5, 6, 7, 8, 22, 27, 67, 72, 85]), (1, [0, 1, 4, 5, 6, 7, 8, 27, 67, 72, 85]), (2, [0, 1, 2, 3, 5, 6, 7, 8, 22, 27, 67, 72, 85]), (3, [0, 1, 4, 6, 7, 8, 22, 27, 67, 72, 85]), (4, [0, 1, 4, 6, 7, 8, 22, 67, 72, 85]), (5, [0, 1, 4, 6, 7, 8, 22, 27, 67, 72, 85]), (6, [0, 1, 4, 8, 22, 27, 67, 72, 85]), (7, [0, 1, 4, 8, 22, 27, 72, 85]), (8, [0, 1, 2, 3, 5, 6, 7, 8, 22, 27, 67, 72, 85]), (9, [0, 1, 4, 22, 27, 67, 72, 85]), (10, [0, 1, 4, 22, 27, 67, 85]), (11, [0, 1, 4, 22, 27, 67, 72, 85]), (12, [0, 1, 4, 22, 27, 67, 72]), (13, [0, 1, 2, 3, 5, 6, 7, 8, 22, 27, 67, 72, 85]), (14, [0, 1, 2, 3, 5, 6, 7, 8, 22, 27, 67, 72, 85])], frz := [], frz2 := [] }
noncomputable def g18R0 := sub [0] (codeOf Tryd.f18)
noncomputable def g18R1 := sub [1, 0, 0] (codeOf Tryd.f18)
noncomputable def g18R2 := sub [1, 0, 1, 0, 0] (codeOf Tryd.f18)
noncomputable def g18R3 := sub [1, 1, 0, 0] (codeOf Tryd.f18)
noncomputable def g18L0 := sub [1, 1, 0, 1, 0, 0] (codeOf Tryd.f18)
noncomputable def g18R4 := sub [1, 1, 0, 1, 0, 0, 0, 0] (codeOf Tryd.f18)
noncomputable def g18R6 := sub [1, 1, 0, 1, 0, 0, 1, 0, 0, 0] (codeOf Tryd.f18)
noncomputable def g18R7 := sub [1, 1, 0, 1, 0, 0, 1, 0, 0, 1, 0, 0] (codeOf Tryd.f18)
noncomputable def g18R8 := sub [1, 1, 0, 1, 0, 0, 1, 0, 0, 1, 0, 1, 0, 0] (codeOf Tryd.f18)
noncomputable def g18R9 := sub [1, 1, 0, 1, 0, 0, 1, 0, 0, 1, 1, 0] (codeOf Tryd.f18)
noncomputable def g18L1 := sub [1, 1, 0, 1, 0, 0, 1, 0, 0, 1, 1, 1, 0, 0] (codeOf Tryd.f18)
noncomputable def g18R10 := sub [1, 1, 0, 1, 0, 0, 1, 0, 0, 1, 1, 1, 0, 0, 0, 0] (codeOf Tryd.f18)
noncomputable def g18R12 := sub [1, 1, 0, 1, 0, 0, 1, 0, 0, 1, 1, 1, 0, 0, 1, 0, 0, 0] (codeOf Tryd.f18)
noncomputable def g18R13 := sub [1, 1, 0, 1, 0, 0, 1, 0, 0, 1, 1, 1, 0, 0, 1, 0, 0, 1, 0, 0] (codeOf Tryd.f18)
noncomputable def g18R11 := sub [1, 1, 0, 1, 0, 0, 1, 0, 0, 1, 1, 1, 0, 0, 1, 1] (codeOf Tryd.f18)
noncomputable def g18R5 := sub [1, 1, 0, 1, 0, 0, 1, 1] (codeOf Tryd.f18)
noncomputable def g18R14 := sub [1, 1, 1, 0] (codeOf Tryd.f18)
theorem g18L1_eq : g18L1 = (.seq (.seq g18R10 (.cond (.tmp 72) .skip (.exit 2))) (.seq (.block 3 (.seq g18R12 (.cond (.tmp 85) (.seq g18R13 .ret) .skip))) g18R11)) := by kernel_rfl
theorem g18L0_eq : g18L0 = (.seq (.seq g18R4 (.cond (.tmp 27) .skip (.exit 0))) (.seq (.block 1 (.seq g18R6 (.seq (.seq g18R7 (.cond (.tmp 67) (.seq g18R8 .ret) .skip)) (.seq g18R9 (.block 2 (.loop g18L1)))))) g18R5)) := by kernel_rfl
theorem g18_eq : codeOf Tryd.f18 = (.seq g18R0 (.seq (.seq g18R1 (.cond (.tmp 22) (.seq g18R2 .ret) .skip)) (.seq (.seq g18R3 (.block 0 (.loop g18L0))) (.seq g18R14 .ret)))) := by kernel_rfl
def ref20_Graph.l1 (m : Nat) (v0 : VNode) (v1 : VNode) : Nat → Int → Option (Sum Bool (Int))
  | 0, _ => none
  | k + 1, k0 => if (decide (k0 < (v0.args.length : Int))) = true then ((ix v0.args k0).bind fun v2 => (ix v1.args k0).bind fun v3 => if (!(v2 == v3)) = true then (some (.inl false)) else (ref20_Graph.l1 m v0 v1 k (i64.wrap (k0 + (1 : Int))))) else (some (.inr k0))
def ref20_Graph.l0 (m : Nat) (a0 : VTree) (b0 : VTree) : Nat → Int → Option (Sum Bool (Int))
  | 0, _ => none
  | k + 1, i0 => if (decide (i0 < (a0.nodes.length : Int))) = true then ((ix a0.nodes i0).bind fun v0 => (ix b0.nodes i0).bind fun v1 => if (!(v0.kind == v1.kind)) = true then (some (.inl false)) else (if (!(v0.int == v1.int)) = true then (some (.inl false)) else (if (!(v0.label.data.toList == v1.label.data.toList)) = true then (some (.inl false)) else (if (!((v0.args.length : Int) == (v1.args.length : Int))) = true then (some (.inl false)) else ((ref20_Graph.l1 m v0 v1 m (0 : Int)).bind fun out0 => match out0 with | .inl r0 => some (.inl r0) | .inr k1 => ref20_Graph.l0 m a0 b0 k (i64.wrap (i0 + (1 : Int)))))))) else (some (.inr i0))
def ref20_Graph.f (m : Nat) (a0 : VTree) (b0 : VTree) : Option (Bool) := if (!((a0.nodes.length : Int) == (b0.nodes.length : Int))) = true then (some false) else (if (!(a0.root == b0.root)) = true then (some false) else ((ref20_Graph.l0 m a0 b0 m (0 : Int)).bind fun out1 => match out1 with | .inl r1 => some r1 | .inr i1 => some true))
def ref20_Graph.fin (L : Mem) (r : Bool) (s : St) : Prop := ∃ av, resultA Tryd.prog (s.open ann18) Tryd.f18.results.toList = some av ∧ Frb s.h av (.bool r)
def S18 (cf : CallF) (m : Nat) : Prop := ∀ (a0 : VTree) (b0 : VTree) (r : Bool), ref20_Graph.f m a0 b0 = some r → ∀ h xs, FrzS 1000 h xs [.agg [eNode.fz a0.nodes, .int .i64 a0.root], .agg [eNode.fz b0.nodes, .int .i64 b0.root]] → cf 18 xs h = some (.bool r, h)
section
variable {cf : CallF} {m : Nat}
def ref20_Graph.l1.R (L : Mem) (a0 : VTree) (b0 : VTree) (i0 : Int) (v0 : VNode) (v1 : VNode) (σ : Int) (s : St) : Prop :=
  match σ with
  | k0 => ∃ (g5 : AV) (g6 : AV) (g7 : AV) (g8 : AV) (g9 : AV) (h1 : AHeap), s = ⟨[.any, .any, .lp 2 0, .lp 3 0, .any, .int .i64 i0, .lp 6 0, .lp 7 0, .int .i64 k0, g5, g6, g7, g8, g9], [some [eNode.fz a0.nodes, .int .i64 a0.root], some [eNode.fz b0.nodes, .int .i64 b0.root], some [.int .i64 v0.kind, .int .i64 v0.int, .str v0.label, eInt.fz v0.args], some [.int .i64 v1.kind, .int .i64 v1.int, .str v1.label, eInt.fz v1.args]], h1⟩ ∧ Has h1 (L)
def ref20_Graph.l1.Q (L : Mem) (a0 : VTree) (b0 : VTree) (i0 : Int) (v0 : VNode) (v1 : VNode) (out : Sum Bool (Int)) (e : Ex) (s : St) : Prop :=
  (e = .exit 2 ∧ ∃ (k0 : Int), .inr k0 = out ∧ ∃ (x6_ : AV) (x7_ : AV) (x8_ : AV) (x22_ : AV) (x27_ : AV) (x67_ : AV) (x72_ : AV) (x85_ : AV) (b6_ : Option (List AV)) (b7_ : Option (List AV)) (h1 : AHeap), s = ⟨[.any, .any, .lp 2 0, .lp 3 0, .any, .int .i64 i0, x6_, x7_, x8_, x22_, x27_, x67_, x72_, x85_], [some [eNode.fz a0.nodes, .int .i64 a0.root], some [eNode.fz b0.nodes, .int .i64 b0.root], b6_, b7_], h1⟩ ∧ Has h1 (L)) ∨ (e = .ret ∧ ∃ r, .inl r = out ∧ ref20_Graph.fin L r s)
theorem ref20_Graph.l1_ok (L : Mem) (a0 : VTree) (b0 : VTree) (i0 : Int) (v0 : VNode) (v1 : VNode)   {σ : Int} {s : St} {out : Sum Bool (Int)} (hr : ref20_Graph.l1.R L a0 b0 i0 v0 v1 σ s) (H : (fun k σ => ref20_Graph.l1 m v0 v1 k σ) m σ = some out) : Enz Tryd.prog cf ann18 m (.loop g18L1) s (ref20_Graph.l1.Q L a0 b0 i0 v0 v1 out) := by
  refine ends_loop (fun k σ => ref20_Graph.l1 m v0 v1 k σ) (ref20_Graph.l1.R L a0 b0 i0 v0 v1) (ref20_Graph.l1.Q L a0 b0 i0 v0 v1) (fun _ => rfl) ?_ hr H (fun _ _ _ h => h)
  clear hr H σ s out
  rintro k k0 s out ⟨g5, g6, g7, g8, g9, h1, rfl, o1⟩ H
  have H : ref20_Graph.l1 m v0 v1 (k + 1) k0 = some out := H
  refine ends_of_eq g18L1_eq ?_
  refine ends_seq ?_
  refine sr [] [] ⟨.any :: .any :: .lp 2 0 :: .lp 3 0 :: .any :: .int .i64 i0 :: .lp 6 0 :: .lp 7 0 :: .int .i64 k0 :: Ay3 [.bool (decide (k0 < (v0.args.length : Int))), .any], [some [eNode.fz a0.nodes, .int .i64 a0.root], some [eNode.fz b0.nodes, .int .i64 b0.root], some [.int .i64 v0.kind, .int .i64 v0.int, .str v0.label, eInt.fz v0.args], some [.int .i64 v1.kind, .int .i64 v1.int, .str v1.label, eInt.fz v1.args]], h1⟩ ((True) ∧ True) (by kernel_rfl) ⟨trivial, trivial⟩ ?_
  refine ends_cond (decide (k0 < (v0.args.length : Int))) (by kernel_rfl) (fun c11 => ?_) (fun c11 => ?_)
  · have H := ifp c11 H
    refine ends_skip ?_
    refine ends_seq ?_
    refine ends_block ?_
    refine ends_seq ?_
    obtain ⟨v2, e2, H⟩ := bsi H
    obtain ⟨v3, e3, H⟩ := bsi H
    refine er [] [(3, .fp (eInt.l v0.args) (k0.toNat * 1), none), (4, .int .i64 v2, none), (8, .fp (eInt.l v1.args) (k0.toNat * 1), none), (9, .int .i64 v3, none)] ⟨.any :: .any :: .lp 2 0 :: .lp 3 0 :: .any :: .int .i64 i0 :: .lp 6 0 :: .lp 7 0 :: .int .i64 k0 :: Ay4 [.bool (!(v2 == v3))], [some [eNode.fz a0.nodes, .int .i64 a0.root], some [eNode.fz b0.nodes, .int .i64 b0.root], some [.int .i64 v0.kind, .int .i64 v0.int, .str v0.label, eInt.fz v0.args], some [.int .i64 v1.kind, .int .i64 v1.int, .str v1.label, eInt.fz v1.args]], h1⟩ ((True) ∧ indexAddrA Tryd.prog 42 (eInt.fz v0.args) (.int .i64 k0) = some (.fp (eInt.l v0.args) (k0.toNat * 1)) ∧ loadH Tryd.prog h1 3 (.fp (eInt.l v0.args) (k0.toNat * 1)) = some (.int .i64 v2) ∧ indexAddrA Tryd.prog 42 (eInt.fz v1.args) (.int .i64 k0) = some (.fp (eInt.l v1.args) (k0.toNat * 1)) ∧ loadH Tryd.prog h1 3 (.fp (eInt.l v1.args) (k0.toNat * 1)) = some (.int .i64 v3) ∧ True) (by kernel_rfl) ⟨trivial, ⟨ia_fz (E := eInt) (l := v0.args) T42 e2, ld_fz0 (E := eInt) (l := v0.args) h1 A3 e2 rfl, ia_fz (E := eInt) (l := v1.args) T42 e3, ld_fz0 (E := eInt) (l := v1.args) h1 A3 e3 rfl, trivial⟩⟩ ?_
    refine ends_cond (!(v2 == v3)) (by kernel_rfl) (fun c12 => ?_) (fun c12 => ?_)
    · have H := ifp c12 H
      refine sr [] [] ⟨Ay4 (.bool false :: Ay9 []), [none, none, none, none], h1⟩ ((True) ∧ True) (by kernel_rfl) ⟨trivial, trivial⟩ ?_
      refine ends_ret ?_
      have H := Option.some.inj H
      exact Or.inr (⟨rfl, _, H, ⟨.bool false, by kernel_rfl, frb (fb_bool)⟩⟩)
    · have H := ifn c12 H
      refine ends_skip ?_
      refine er [] [] ⟨.any :: .any :: .lp 2 0 :: .lp 3 0 :: .any :: .int .i64 i0 :: .lp 6 0 :: .lp 7 0 :: .int .i64 (i64.wrap (k0 + (1 : Int))) :: Ay5 [], [some [eNode.fz a0.nodes, .int .i64 a0.root], some [eNode.fz b0.nodes, .int .i64 b0.root], some [.int .i64 v0.kind, .int .i64 v0.int, .str v0.label, eInt.fz v0.args], some [.int .i64 v1.kind, .int .i64 v1.int, .str v1.label, eInt.fz v1.args]], h1⟩ ((True) ∧ True) (by kernel_rfl) ⟨trivial, trivial⟩ ?_
      exact ⟨i64.wrap (k0 + (1 : Int)), ⟨.any, .any, .any, .any, .any, h1, rfl, o1⟩, H⟩
  · have H := ifn c11 H
    refine ends_exit ?_
    have H := Option.some.inj H
    exact Or.inl (⟨rfl, k0, H, .lp 6 0, .lp 7 0, .int .i64 k0, .any, .any, .any, .bool (decide (k0 < (v0.args.length : Int))), .any, some [.int .i64 v0.kind, .int .i64 v0.int, .str v0.label, eInt.fz v0.args], some [.int .i64 v1.kind, .int .i64 v1.int, .str v1.label, eInt.fz v1.args], h1, rfl, o1⟩)
def ref20_Graph.l0.R (L : Mem) (a0 : VTree) (b0 : VTree) (σ : Int) (s : St) : Prop :=
  match σ with
  | i0 => ∃ (g0 : AV) (g1 : AV) (g2 : AV) (g3 : AV) (g4 : AV) (h0 : AHeap), s = ⟨.any :: .any :: .lp 2 0 :: .lp 3 0 :: .any :: .int .i64 i0 :: Ay3 [g0, g1, g2, g3, g4], [some [eNode.fz a0.nodes, .int .i64 a0.root], some [eNode.fz b0.nodes, .int .i64 b0.root], none, none], h0⟩ ∧ Has h0 (L)
def ref20_Graph.l0.Q (L : Mem) (a0 : VTree) (b0 : VTree) (out : Sum Bool (Int)) (e : Ex) (s : St) : Prop :=
  (e = .exit 0 ∧ ∃ (i0 : Int), .inr i0 = out ∧ ∃ (x2_ : AV) (x3_ : AV) (x5_ : AV) (x22_ : AV) (x27_ : AV) (x67_ : AV) (x72_ : AV) (x85_ : AV) (b2_ : Option (List AV)) (b3_ : Option (List AV)) (h0 : AHeap), s = ⟨.any :: .any :: x2_ :: x3_ :: .any :: x5_ :: Ay3 [x22_, x27_, x67_, x72_, x85_], [b2_, b3_, none, none], h0⟩ ∧ Has h0 (L)) ∨ (e = .ret ∧ ∃ r, .inl r = out ∧ ref20_Graph.fin L r s)
theorem ref20_Graph.l0_ok (L : Mem) (a0 : VTree) (b0 : VTree)   {σ : Int} {s : St} {out : Sum Bool (Int)} (hr : ref20_Graph.l0.R L a0 b0 σ s) (H : (fun k σ => ref20_Graph.l0 m a0 b0 k σ) m σ = some out) : Enz Tryd.prog cf ann18 m (.loop g18L0) s (ref20_Graph.l0.Q L a0 b0 out) := by
  refine ends_loop (fun k σ => ref20_Graph.l0 m a0 b0 k σ) (ref20_Graph.l0.R L a0 b0) (ref20_Graph.l0.Q L a0 b0) (fun _ => rfl) ?_ hr H (fun _ _ _ h => h)
  clear hr H σ s out
  rintro k i0 s out ⟨g0, g1, g2, g3, g4, h0, rfl, o0⟩ H
  have H : ref20_Graph.l0 m a0 b0 (k + 1) i0 = some out := H
  refine ends_of_eq g18L0_eq ?_
  refine ends_seq ?_
  refine sr [] [] ⟨.any :: .any :: .lp 2 0 :: .lp 3 0 :: .any :: .int .i64 i0 :: Ay4 (.bool (decide (i0 < (a0.nodes.length : Int))) :: Ay3 []), [some [eNode.fz a0.nodes, .int .i64 a0.root], some [eNode.fz b0.nodes, .int .i64 b0.root], none, none], h0⟩ ((True) ∧ True) (by kernel_rfl) ⟨trivial, trivial⟩ ?_
  refine ends_cond (decide (i0 < (a0.nodes.length : Int))) (by kernel_rfl) (fun c3 => ?_) (fun c3 => ?_)
  · have H := ifp c3 H
    refine ends_skip ?_
    refine ends_seq ?_
    refine ends_block ?_
    refine ends_seq ?_
    obtain ⟨v0, e0, H⟩ := bsi H
    obtain ⟨v1, e1, H⟩ := bsi H
    refine er [] [(3, .fp (eNode.l a0.nodes) (i0.toNat * 4), none), (4, .agg [.int .i64 v0.kind, .int .i64 v0.int, .str v0.label, eInt.fz v0.args], none), (8, .fp (eNode.l b0.nodes) (i0.toNat * 4), none), (9, .agg [.int .i64 v1.kind, .int .i64 v1.int, .str v1.label, eInt.fz v1.args], none)] ⟨.any :: .any :: .lp 2 0 :: .lp 3 0 :: .any :: .int .i64 i0 :: .lp 6 0 :: .lp 7 0 :: Ay6 [], [some [eNode.fz a0.nodes, .int .i64 a0.root], some [eNode.fz b0.nodes, .int .i64 b0.root], some [.int .i64 v0.kind, .int .i64 v0.int, .str v0.label, eInt.fz v0.args], some [.int .i64 v1.kind, .int .i64 v1.int, .str v1.label, eInt.fz v1.args]], h0⟩ ((True) ∧ indexAddrA Tryd.prog 29 (eNode.fz a0.nodes) (.int .i64 i0) = some (.fp (eNode.l a0.nodes) (i0.toNat * 4)) ∧ loadH Tryd.prog h0 48 (.fp (eNode.l a0.nodes) (i0.toNat * 4)) = some (.agg [.int .i64 v0.kind, .int .i64 v0.int, .str v0.label, eInt.fz v0.args]) ∧ indexAddrA Tryd.prog 29 (eNode.fz b0.nodes) (.int .i64 i0) = some (.fp (eNode.l b0.nodes) (i0.toNat * 4)) ∧ loadH Tryd.prog h0 48 (.fp (eNode.l b0.nodes) (i0.toNat * 4)) = some (.agg [.int .i64 v1.kind, .int .i64 v1.int, .str v1.label, eInt.fz v1.args]) ∧ True) (by kernel_rfl) ⟨trivial, ⟨ia_fz (E := eNode) (l := a0.nodes) T29 e0, ld_fzA (E := eNode) (l := a0.nodes) h0 A48 Z48 e0, ia_fz (E := eNode) (l := b0.nodes) T29 e1, ld_fzA (E := eNode) (l := b0.nodes) h0 A48 Z48 e1, trivial⟩⟩ ?_
    refine ends_seq ?_
    refine ends_seq ?_
    rcases bft (!(v0.kind == v1.kind)) with c4 | c4
    · have H := ifp c4 H
      refine er [] [(5, .bool true, none)] ⟨.any :: .any :: .lp 2 0 :: .lp 3 0 :: .any :: .int .i64 i0 :: .lp 6 0 :: .lp 7 0 :: Ay3 [.bool true, .any, .any], [some [eNode.fz a0.nodes, .int .i64 a0.root], some [eNode.fz b0.nodes, .int .i64 b0.root], some [.int .i64 v0.kind, .int .i64 v0.int, .str v0.label, eInt.fz v0.args], some [.int .i64 v1.kind, .int .i64 v1.int, .str v1.label, eInt.fz v1.args]], h0⟩ ((True) ∧ AV.bool (!(v0.kind == v1.kind)) = AV.bool true ∧ True) (by kernel_rfl) ⟨trivial, ⟨congrArg AV.bool c4, trivial⟩⟩ ?_
      refine ends_cond true (by kernel_rfl) (fun c5 => ?_) (fun c5 => ?_)
      rotate_left
      · cases c5
      refine sr [] [] ⟨Ay4 (.bool false :: Ay9 []), [none, none, none, none], h0⟩ ((True) ∧ True) (by kernel_rfl) ⟨trivial, trivial⟩ ?_
      refine ends_ret ?_
      have H := Option.some.inj H
      exact Or.inr (⟨rfl, _, H, ⟨.bool false, by kernel_rfl, frb (fb_bool)⟩⟩)
    · have H := ifn c4 H
      rcases bft (!(v0.int == v1.int)) with c6 | c6
      · have H := ifp c6 H
        refine er [] [(5, .bool false, none), (12, .bool true, none)] ⟨.any :: .any :: .lp 2 0 :: .lp 3 0 :: .any :: .int .i64 i0 :: .lp 6 0 :: .lp 7 0 :: Ay3 [.bool true, .any, .any], [some [eNode.fz a0.nodes, .int .i64 a0.root], some [eNode.fz b0.nodes, .int .i64 b0.root], some [.int .i64 v0.kind, .int .i64 v0.int, .str v0.label, eInt.fz v0.args], some [.int .i64 v1.kind, .int .i64 v1.int, .str v1.label, eInt.fz v1.args]], h0⟩ ((True) ∧ AV.bool (!(v0.kind == v1.kind)) = AV.bool false ∧ AV.bool (!(v0.int == v1.int)) = AV.bool true ∧ True) (by kernel_rfl) ⟨trivial, ⟨congrArg AV.bool c4, congrArg AV.bool c6, trivial⟩⟩ ?_
        refine ends_cond true (by kernel_rfl) (fun c7 => ?_) (fun c7 => ?_)
        rotate_left
        · cases c7
        refine sr [] [] ⟨Ay4 (.bool false :: Ay9 []), [none, none, none, none], h0⟩ ((True) ∧ True) (by kernel_rfl) ⟨trivial, trivial⟩ ?_
        refine ends_ret ?_
        have H := Option.some.inj H
        exact Or.inr (⟨rfl, _, H, ⟨.bool false, by kernel_rfl, frb (fb_bool)⟩⟩)
      · have H := ifn c6 H
        rcases bft (!(v0.label.data.toList == v1.label.data.toList)) with c8 | c8
        · have H := ifp c8 H
          refine er [] [(5, .bool false, none), (12, .bool false, none), (19, .bool true, none)] ⟨.any :: .any :: .lp 2 0 :: .lp 3 0 :: .any :: .int .i64 i0 :: .lp 6 0 :: .lp 7 0 :: Ay3 [.bool true, .any, .any], [some [eNode.fz a0.nodes, .int .i64 a0.root], some [eNode.fz b0.nodes, .int .i64 b0.root], some [.int .i64 v0.kind, .int .i64 v0.int, .str v0.label, eInt.fz v0.args], some [.int .i64 v1.kind, .int .i64 v1.int, .str v1.label, eInt.fz v1.args]], h0⟩ ((True) ∧ AV.bool (!(v0.kind == v1.kind)) = AV.bool false ∧ AV.bool (!(v0.int == v1.int)) = AV.bool false ∧ AV.bool (!(v0.label.data.toList == v1.label.data.toList)) = AV.bool true ∧ True) (by kernel_rfl) ⟨trivial, ⟨congrArg AV.bool c4, congrArg AV.bool c6, congrArg AV.bool c8, trivial⟩⟩ ?_
          refine ends_cond true (by kernel_rfl) (fun c9 => ?_) (fun c9 => ?_)
          rotate_left
          · cases c9
          refine sr [] [] ⟨Ay4 (.bool false :: Ay9 []), [none, none, none, none], h0⟩ ((True) ∧ True) (by kernel_rfl) ⟨trivial, trivial⟩ ?_
          refine ends_ret ?_
          have H := Option.some.inj H
          exact Or.inr (⟨rfl, _, H, ⟨.bool false, by kernel_rfl, frb (fb_bool)⟩⟩)
        · have H := ifn c8 H
          refine er [] [(5, .bool false, none), (12, .bool false, none), (19, .bool false, none)] ⟨.any :: .any :: .lp 2 0 :: .lp 3 0 :: .any :: .int .i64 i0 :: .lp 6 0 :: .lp 7 0 :: Ay3 [.bool (!((v0.args.length : Int) == (v1.args.length : Int))), .any, .any], [some [eNode.fz a0.nodes, .int .i64 a0.root], some [eNode.fz b0.nodes, .int .i64 b0.root], some [.int .i64 v0.kind, .int .i64 v0.int, .str v0.label, eInt.fz v0.args], some [.int .i64 v1.kind, .int .i64 v1.int, .str v1.label, eInt.fz v1.args]], h0⟩ ((True) ∧ AV.bool (!(v0.kind == v1.kind)) = AV.bool false ∧ AV.bool (!(v0.int == v1.int)) = AV.bool false ∧ AV.bool (!(v0.label.data.toList == v1.label.data.toList)) = AV.bool false ∧ True) (by kernel_rfl) ⟨trivial, ⟨congrArg AV.bool c4, congrArg AV.bool c6, congrArg AV.bool c8, trivial⟩⟩ ?_
          refine ends_cond (!((v0.args.length : Int) == (v1.args.length : Int))) (by kernel_rfl) (fun c10 => ?_) (fun c10 => ?_)
          · have H := ifp c10 H
            refine sr [] [] ⟨Ay4 (.bool false :: Ay9 []), [none, none, none, none], h0⟩ ((True) ∧ True) (by kernel_rfl) ⟨trivial, trivial⟩ ?_
            refine ends_ret ?_
            have H := Option.some.inj H
            exact Or.inr (⟨rfl, _, H, ⟨.bool false, by kernel_rfl, frb (fb_bool)⟩⟩)
          · have H := ifn c10 H
            refine ends_skip ?_
            refine sr [] [] ⟨.any :: .any :: .lp 2 0 :: .lp 3 0 :: .any :: .int .i64 i0 :: .lp 6 0 :: .lp 7 0 :: .int .i64 (0 : Int) :: Ay5 [], [some [eNode.fz a0.nodes, .int .i64 a0.root], some [eNode.fz b0.nodes, .int .i64 b0.root], some [.int .i64 v0.kind, .int .i64 v0.int, .str v0.label, eInt.fz v0.args], some [.int .i64 v1.kind, .int .i64 v1.int, .str v1.label, eInt.fz v1.args]], h0⟩ ((True) ∧ True) (by kernel_rfl) ⟨trivial, trivial⟩ ?_
            refine ends_block ?_
            obtain ⟨out0, e4, H⟩ := bsi H
            refine ends_mono (ref20_Graph.l1_ok L a0 b0 i0 v0 v1   (σ := (0 : Int)) ⟨.any, .any, .any, .any, .any, h0, rfl, o0⟩ e4) ?_
            rintro e s (⟨rfl, k1, rfl, g10, g11, g12, g13, g14, g15, g16, g17, g18, g19, h2, rfl, o2⟩ | ⟨rfl, r0, rfl, hf0⟩)
            · try dsimp only at H
              refine er [] [] ⟨.any :: .any :: .lp 2 0 :: .lp 3 0 :: .any :: .int .i64 (i64.wrap (i0 + (1 : Int))) :: Ay8 [], [some [eNode.fz a0.nodes, .int .i64 a0.root], some [eNode.fz b0.nodes, .int .i64 b0.root], none, none], h2⟩ ((True) ∧ True) (by kernel_rfl) ⟨trivial, trivial⟩ ?_
              exact ⟨i64.wrap (i0 + (1 : Int)), ⟨.any, .any, .any, .any, .any, h2, rfl, o2⟩, H⟩
            · try dsimp only at H
              have H := Option.some.inj H
              exact Or.inr (⟨rfl, _, H, hf0⟩)
  · have H := ifn c3 H
    refine ends_exit ?_
    have H := Option.some.inj H
    exact Or.inl (⟨rfl, i0, H, .lp 2 0, .lp 3 0, .int .i64 i0, .any, .bool (decide (i0 < (a0.nodes.length : Int))), .any, .any, .any, some [eNode.fz a0.nodes, .int .i64 a0.root], some [eNode.fz b0.nodes, .int .i64 b0.root], h0, rfl, o0⟩)
theorem ref20_Graph_body {ann : FuncId → Ann} (ha : ann 18 = ann18)  (a0 : VTree) (b0 : VTree) (h : AHeap) (L : Mem)  (o : Has h (L)) {out : Bool} (H : ref20_Graph.f m a0 b0 = some out) :
    ∃ r h', bodyA Tryd.prog ann cf m 18 [.agg [eNode.fz a0.nodes, .int .i64 a0.root], .agg [eNode.fz b0.nodes, .int .i64 b0.root]] h = some (r, h') ∧ Frb h' r (.bool out) := by
  refine body_of_ends2 (fn := Tryd.f18) ha Tryd.func18 (by kernel_rfl) (by kernel_rfl) ?_
  refine ends_fin (Q := fun s => ref20_Graph.fin L out s) (fun _ _ h => h) ?_
  refine ends_of_eq g18_eq ?_
  have H : _ = some out := H
  unfold ref20_Graph.f at H
  show Enz _ cf ann18 m _ ⟨.agg [eNode.fz a0.nodes, .int .i64 a0.root] :: .agg [eNode.fz b0.nodes, .int .i64 b0.root] :: Ay12 [], [none, none, none, none], h⟩ _
  refine sr [] [] ⟨.any :: .any :: .lp 2 0 :: .lp 3 0 :: Ay10 [], [some [eNode.fz a0.nodes, .int .i64 a0.root], some [eNode.fz b0.nodes, .int .i64 b0.root], none, none], h⟩ ((True) ∧ True) (by kernel_rfl) ⟨trivial, trivial⟩ ?_
  refine ends_seq ?_
  refine ends_seq ?_
  rcases bft (!((a0.nodes.length : Int) == (b0.nodes.length : Int))) with c0 | c0
  · have H := ifp c0 H
    refine er [] [(7, .bool true, none)] ⟨.any :: .any :: .lp 2 0 :: .lp 3 0 :: Ay5 (.bool true :: Ay4 []), [some [eNode.fz a0.nodes, .int .i64 a0.root], some [eNode.fz b0.nodes, .int .i64 b0.root], none, none], h⟩ ((True) ∧ AV.bool (!((a0.nodes.length : Int) == (b0.nodes.length : Int))) = AV.bool true ∧ True) (by kernel_rfl) ⟨trivial, ⟨congrArg AV.bool c0, trivial⟩⟩ ?_
    refine ends_cond true (by kernel_rfl) (fun c1 => ?_) (fun c1 => ?_)
    rotate_left
    · cases c1
    refine sr [] [] ⟨Ay4 (.bool false :: Ay9 []), [none, none, none, none], h⟩ ((True) ∧ True) (by kernel_rfl) ⟨trivial, trivial⟩ ?_
    refine ends_ret ?_
    have H := Option.some.inj H
    subst H
    exact ⟨.inl rfl, ⟨.bool false, by kernel_rfl, frb (fb_bool)⟩⟩
  · have H := ifn c0 H
    refine er [] [(7, .bool false, none)] ⟨.any :: .any :: .lp 2 0 :: .lp 3 0 :: Ay5 (.bool (!(a0.root == b0.root)) :: Ay4 []), [some [eNode.fz a0.nodes, .int .i64 a0.root], some [eNode.fz b0.nodes, .int .i64 b0.root], none, none], h⟩ ((True) ∧ AV.bool (!((a0.nodes.length : Int) == (b0.nodes.length : Int))) = AV.bool false ∧ True) (by kernel_rfl) ⟨trivial, ⟨congrArg AV.bool c0, trivial⟩⟩ ?_
    refine ends_cond (!(a0.root == b0.root)) (by kernel_rfl) (fun c2 => ?_) (fun c2 => ?_)
    · have H := ifp c2 H
      refine sr [] [] ⟨Ay4 (.bool false :: Ay9 []), [none, none, none, none], h⟩ ((True) ∧ True) (by kernel_rfl) ⟨trivial, trivial⟩ ?_
      refine ends_ret ?_
      have H := Option.some.inj H
      subst H
      exact ⟨.inl rfl, ⟨.bool false, by kernel_rfl, frb (fb_bool)⟩⟩
    · have H := ifn c2 H
      refine ends_skip ?_
      refine ends_seq ?_
      refine sr [] [] ⟨.any :: .any :: .lp 2 0 :: .lp 3 0 :: .any :: .int .i64 (0 : Int) :: Ay8 [], [some [eNode.fz a0.nodes, .int .i64 a0.root], some [eNode.fz b0.nodes, .int .i64 b0.root], none, none], h⟩ ((True) ∧ True) (by kernel_rfl) ⟨trivial, trivial⟩ ?_
      refine ends_block ?_
      obtain ⟨out1, e5, H⟩ := bsi H
      refine ends_mono (ref20_Graph.l0_ok L a0 b0   (σ := (0 : Int)) ⟨.any, .any, .any, .any, .any, h, rfl, o⟩ e5) ?_
      rintro e s (⟨rfl, i1, rfl, g20, g21, g22, g23, g24, g25, g26, g27, g28, g29, h3, rfl, o3⟩ | ⟨rfl, r1, rfl, hf1⟩)
      · try dsimp only at H
        refine sr [] [] ⟨Ay4 (.bool true :: Ay9 []), [none, none, none, none], h3⟩ ((True) ∧ True) (by kernel_rfl) ⟨trivial, trivial⟩ ?_
        refine ends_ret ?_
        have H := Option.some.inj H
        subst H
        exact ⟨.inl rfl, ⟨.bool true, by kernel_rfl, frb (fb_bool)⟩⟩
      · try dsimp only at H
        have H := Option.some.inj H
        subst H
        exact ⟨.inl rfl, hf1⟩
end
end Go.Proofs.YtmekcfdllhphlaaDoor

namespace Go.Proofs.YtmekcfdllhphlaaDoor
open Go Go.R
open Go.IntKind (i64 u64 u8 u32)
def ann4 : Ann := { keep := [0, 2, 3, 4, 5, 6, 7, 8, 9, 12, 20, 39, 60], locs := [8], dead := [(0, [2, 3, 4, 5, 6, 7, 8, 9, 12, 20, 39, 60]), (1, [2, 3, 4, 5, 6, 7, 8, 9, 20, 39, 60]), (2, [0, 3, 4, 5, 6, 7, 8, 9, 12, 20, 39, 60]), (3, [2, 5, 6, 7, 8, 9, 12, 20, 39, 60]), (4, [2, 5, 6, 7, 8, 9, 12, 39, 60]), (5, [0, 3, 4, 5, 6, 7, 8, 9, 12, 20, 39, 60]), (6, [2, 4, 7, 8, 9, 12, 20, 39, 60]), (7, [2, 4, 8, 9, 12, 20, 39, 60]), (8, [2, 4, 8, 9, 12, 20, 60]), (9, [2, 4, 8, 9, 12, 20, 39, 60]), (10, [2, 4, 12, 20, 39, 60]), (11, [2, 4, 8, 9, 12, 20, 39]), (12, [0, 3, 4, 5, 6, 7, 8, 9, 12, 20, 39, 60]), (13, [0, 3, 4, 5, 6, 7, 8, 9, 12, 20, 39, 60])], frz := [], frz2 := [] }
noncomputable def g4R0 := sub [0] (codeOf Tryd.f4)
noncomputable def g4R1 := sub [1, 0, 0] (codeOf Tryd.f4)
noncomputable def g4R2 := sub [1, 0, 1, 0, 0] (codeOf Tryd.f4)
noncomputable def g4R3 := sub [1, 1, 0] (codeOf Tryd.f4)
noncomputable def g4R4 := sub [1, 1, 1, 0, 0] (codeOf Tryd.f4)
noncomputable def g4R5 := sub [1, 1, 1, 0, 1, 0, 0] (codeOf Tryd.f4)
noncomputable def g4R6 := sub [1, 1, 1, 1, 0] (codeOf Tryd.f4)
noncomputable def g4R7 := sub [1, 1, 1, 1, 1, 0, 0] (codeOf Tryd.f4)
noncomputable def g4L0 := sub [1, 1, 1, 1, 1, 0, 1, 0, 0] (codeOf Tryd.f4)
noncomputable def g4R8 := sub [1, 1, 1, 1, 1, 0, 1, 0, 0, 0, 0] (codeOf Tryd.f4)
noncomputable def g4R10 := sub [1, 1, 1, 1, 1, 0, 1, 0, 0, 1, 0, 0, 0] (codeOf Tryd.f4)
noncomputable def g4R11 := sub [1, 1, 1, 1, 1, 0, 1, 0, 0, 1, 0, 0, 1, 0] (codeOf Tryd.f4)
noncomputable def g4R12 := sub [1, 1, 1, 1, 1, 0, 1, 0, 0, 1, 0, 0, 1, 1, 0, 0] (codeOf Tryd.f4)
noncomputable def g4R9 := sub [1, 1, 1, 1, 1, 0, 1, 0, 0, 1, 1] (codeOf Tryd.f4)
noncomputable def g4R13 := sub [1, 1, 1, 1, 1, 1, 0] (codeOf Tryd.f4)
theorem g4L0_eq : g4L0 = (.seq (.seq g4R8 (.cond (.tmp 39) .skip (.exit 0))) (.seq (.block 1 (.seq g4R10 (.seq g4R11 (.cond (.tmp 60) (.seq g4R12 .ret) .skip)))) g4R9)) := by kernel_rfl
theorem g4_eq : codeOf Tryd.f4 = (.seq g4R0 (.seq (.seq g4R1 (.cond (.tmp 12) (.seq g4R2 .ret) .skip)) (.seq g4R3 (.seq (.seq g4R4 (.cond (.tmp 20) (.seq g4R5 .ret) .skip)) (.seq g4R6 (.seq (.seq g4R7 (.block 0 (.loop g4L0))) (.seq g4R13 .ret))))))) := by kernel_rfl
def law20_PickleRead.l0 (m : Nat) (x1 : (List VTree) × Int) : Nat → Int → Option (Sum Bool (Int))
  | 0, _ => none
  | k + 1, i0 => if (decide (i0 < (x1.1.length : Int))) = true then ((ix x1.1 i0).bind fun v0 => (pickle_Least.f m v0).bind fun x4 => if (!(x4.2 == (0 : Int))) = true then (some (.inl false)) else ((ix x1.1 i0).bind fun v1 => (ref20_Graph.f m x4.1 v1).bind fun x5 => if (!x5) = true then (some (.inl false)) else (law20_PickleRead.l0 m x1 k (i64.wrap (i0 + (1 : Int)))))) else (some (.inr i0))
def law20_PickleRead.f (m : Nat) (b0 : List Int) : Option (Bool) := if (decide ((b0.length : Int) > (2000 : Int))) = true then ((law20_awake.f m).bind fun x0 => some x0) else ((pickle_Get.f m b0).bind fun x1 => if (!(x1.2 == (0 : Int))) = true then (if ((x1.1.length : Int) == (0 : Int)) = true then (if (x1.2 == (2 : Int)) = true then ((law20_awake.f m).bind fun x2 => some x2) else (some false)) else (some false)) else ((pickle_Put.f m x1.1).bind fun x3 => (law20_PickleRead.l0 m x1 m (0 : Int)).bind fun out0 => match out0 with | .inl r0 => some r0 | .inr i1 => if (x3.2 == (0 : Int)) = true then (if ((bytesStr x3.1).data.toList == (bytesStr b0).data.toList) = true then ((law20_awake.f m).bind fun x6 => some x6) else (some false)) else (some false)))
def law20_PickleRead.fin (L : Mem) (r : Bool) (s : St) : Prop := ∃ av, resultA Tryd.prog (s.open ann4) Tryd.f4.results.toList = some av ∧ Frb s.h av (.bool r)
def S4 (cf : CallF) (m : Nat) : Prop := ∀ (b0 : List Int) (r : Bool), law20_PickleRead.f m b0 = some r → ∀ h xs, FrzS 1000 h xs [eByte.fz b0] → cf 4 xs h = some (.bool r, h)
section
variable {cf : CallF} {m : Nat}
def law20_PickleRead.l0.R (L : Mem) (b0 : List Int) (x1 : (List VTree) × Int) (x3 : (List Int) × Int) (σ : Int) (s : St) : Prop :=
  match σ with
  | i0 => ∃ (g0 : AV) (g1 : AV) (g2 : AV) (g3 : AV) (h0 : AHeap), s = ⟨[eByte.fz b0, .any, eTree.fz x1.1, .any, eByte.fz x3.1, .int .i64 x3.2, .int .i64 i0, .any, .any, g0, g1, g2, g3], [none], h0⟩ ∧ Has h0 (L)
def law20_PickleRead.l0.Q (L : Mem) (b0 : List Int) (x1 : (List VTree) × Int) (x3 : (List Int) × Int) (out : Sum Bool (Int)) (e : Ex) (s : St) : Prop :=
  (e = .exit 0 ∧ ∃ (i0 : Int), .inr i0 = out ∧ ∃ (x3_ : AV) (x7_ : AV) (x12_ : AV) (x20_ : AV) (x39_ : AV) (x60_ : AV) (h0 : AHeap), s = ⟨[eByte.fz b0, .any, x3_, .any, eByte.fz x3.1, .int .i64 x3.2, x7_, .any, .any, x12_, x20_, x39_, x60_], [none], h0⟩ ∧ Has h0 (L)) ∨ (e = .ret ∧ ∃ r, .inl r = out ∧ law20_PickleRead.fin L r s)
theorem law20_PickleRead.l0_ok (L : Mem) (b0 : List Int) (x1 : (List VTree) × Int) (x3 : (List Int) × Int)  (S16_ : S16 cf m) (S18_ : S18 cf m) {σ : Int} {s : St} {out : Sum Bool (Int)} (hr : law20_PickleRead.l0.R L b0 x1 x3 σ s) (H : (fun k σ => law20_PickleRead.l0 m x1 k σ) m σ = some out) : Enz Tryd.prog cf ann4 m (.loop g4L0) s (law20_PickleRead.l0.Q L b0 x1 x3 out) := by
  refine ends_loop (fun k σ => law20_PickleRead.l0 m x1 k σ) (law20_PickleRead.l0.R L b0 x1 x3) (law20_PickleRead.l0.Q L b0 x1 x3) (fun _ => rfl) ?_ hr H (fun _ _ _ h => h)
  clear hr H σ s out
  rintro k i0 s out ⟨g0, g1, g2, g3, h0, rfl, o0⟩ H
  have H : law20_PickleRead.l0 m x1 (k + 1) i0 = some out := H
  refine ends_of_eq g4L0_eq ?_
  refine ends_seq ?_
  refine sr [] [] ⟨eByte.fz b0 :: .any :: eTree.fz x1.1 :: .any :: eByte.fz x3.1 :: .int .i64 x3.2 :: .int .i64 i0 :: Ay4 [.bool (decide (i0 < (x1.1.length : Int))), .any], [none], h0⟩ ((True) ∧ True) (by kernel_rfl) ⟨trivial, trivial⟩ ?_
  refine ends_cond (decide (i0 < (x1.1.length : Int))) (by kernel_rfl) (fun c4 => ?_) (fun c4 => ?_)
  · have H := ifp c4 H
    refine ends_skip ?_
    refine ends_seq ?_
    refine ends_block ?_
    refine ends_seq ?_
    obtain ⟨v0, e4, H⟩ := bsi H
    obtain ⟨x4, e5, H⟩ := bsi H
    refine er [] [(2, .fp (eTree.l x1.1) (i0.toNat * 2), none), (3, .agg [eNode.fz v0.nodes, .int .i64 v0.root], none), (4, .tup [.agg [eNode.fz x4.1.nodes, .int .i64 x4.1.root], .int .i64 x4.2], some h0)] ⟨eByte.fz b0 :: .any :: eTree.fz x1.1 :: .any :: eByte.fz x3.1 :: .int .i64 x3.2 :: .int .i64 i0 :: .lp 8 0 :: .int .i64 x4.2 :: Ay4 [], [some [eNode.fz x4.1.nodes, .int .i64 x4.1.root]], h0⟩ ((True) ∧ indexAddrA Tryd.prog 22 (eTree.fz x1.1) (.int .i64 i0) = some (.fp (eTree.l x1.1) (i0.toNat * 2)) ∧ loadH Tryd.prog h0 31 (.fp (eTree.l x1.1) (i0.toNat * 2)) = some (.agg [eNode.fz v0.nodes, .int .i64 v0.root]) ∧ callO cf (.fn 16 []) [.agg [eNode.fz v0.nodes, .int .i64 v0.root]] h0 = some (.tup [.agg [eNode.fz x4.1.nodes, .int .i64 x4.1.root], .int .i64 x4.2], h0) ∧ True) (by kernel_rfl) ⟨trivial, ⟨ia_fz (E := eTree) (l := x1.1) T22 e4, ld_fzA (E := eTree) (l := x1.1) h0 A31 Z31 e4, callO_of (by kernel_rfl) (S16_ _ _ e5 _ _ (pu_cons (pu_agg (pu_cons (pu_fz (E := eNode)) (pu_cons (pu_int) (pu_nil)))) (pu_nil))), trivial⟩⟩ ?_
    refine ends_seq ?_
    rcases bft (!(x4.2 == (0 : Int))) with c5 | c5
    · have H := ifp c5 H
      refine er [] [(2, .bool true, none)] ⟨eByte.fz b0 :: .any :: eTree.fz x1.1 :: .any :: eByte.fz x3.1 :: .int .i64 x3.2 :: .int .i64 i0 :: Ay5 [.bool true], [none], h0⟩ ((True) ∧ AV.bool (!(x4.2 == (0 : Int))) = AV.bool true ∧ True) (by kernel_rfl) ⟨trivial, ⟨congrArg AV.bool c5, trivial⟩⟩ ?_
      refine ends_cond true (by kernel_rfl) (fun c6 => ?_) (fun c6 => ?_)
      rotate_left
      · cases c6
      refine sr [] [] ⟨.any :: .bool false :: Ay11 [], [none], h0⟩ ((True) ∧ True) (by kernel_rfl) ⟨trivial, trivial⟩ ?_
      refine ends_ret ?_
      have H := Option.some.inj H
      exact Or.inr (⟨rfl, _, H, ⟨.bool false, by kernel_rfl, frb (fb_bool)⟩⟩)
    · have H := ifn c5 H
      obtain ⟨v1, e6, H⟩ := bsi H
      obtain ⟨x5, e7, H⟩ := bsi H
      refine er [] [(2, .bool false, none), (6, .fp (eTree.l x1.1) (i0.toNat * 2), none), (7, .agg [eNode.fz v1.nodes, .int .i64 v1.root], none), (8, .bool x5, some h0)] ⟨eByte.fz b0 :: .any :: eTree.fz x1.1 :: .any :: eByte.fz x3.1 :: .int .i64 x3.2 :: .int .i64 i0 :: Ay5 [.bool (!x5)], [none], h0⟩ ((True) ∧ AV.bool (!(x4.2 == (0 : Int))) = AV.bool false ∧ indexAddrA Tryd.prog 22 (eTree.fz x1.1) (.int .i64 i0) = some (.fp (eTree.l x1.1) (i0.toNat * 2)) ∧ loadH Tryd.prog h0 31 (.fp (eTree.l x1.1) (i0.toNat * 2)) = some (.agg [eNode.fz v1.nodes, .int .i64 v1.root]) ∧ callO cf (.fn 18 []) [.agg [eNode.fz x4.1.nodes, .int .i64 x4.1.root], .agg [eNode.fz v1.nodes, .int .i64 v1.root]] h0 = some (.bool x5, h0) ∧ True) (by kernel_rfl) ⟨trivial, ⟨congrArg AV.bool c5, ia_fz (E := eTree) (l := x1.1) T22 e6, ld_fzA (E := eTree) (l := x1.1) h0 A31 Z31 e6, callO_of (by kernel_rfl) (S18_ _ _ _ e7 _ _ (frs (fr_cons (fr_agg (fr_cons (fr_fz (E := eNode)) (fr_cons (fr_int) (fr_nil)))) (fr_cons (fr_agg (fr_cons (fr_fz (E := eNode)) (fr_cons (fr_int) (fr_nil)))) (fr_nil))))), trivial⟩⟩ ?_
      refine ends_cond (!x5) (by kernel_rfl) (fun c7 => ?_) (fun c7 => ?_)
      · have H := ifp c7 H
        refine sr [] [] ⟨.any :: .bool false :: Ay11 [], [none], h0⟩ ((True) ∧ True) (by kernel_rfl) ⟨trivial, trivial⟩ ?_
        refine ends_ret ?_
        have H := Option.some.inj H
        exact Or.inr (⟨rfl, _, H, ⟨.bool false, by kernel_rfl, frb (fb_bool)⟩⟩)
      · have H := ifn c7 H
        refine ends_skip ?_
        refine er [] [] ⟨eByte.fz b0 :: .any :: eTree.fz x1.1 :: .any :: eByte.fz x3.1 :: .int .i64 x3.2 :: .int .i64 (i64.wrap (i0 + (1 : Int))) :: Ay6 [], [none], h0⟩ ((True) ∧ True) (by kernel_rfl) ⟨trivial, trivial⟩ ?_
        exact ⟨i64.wrap (i0 + (1 : Int)), ⟨.any, .any, .any, .any, h0, rfl, o0⟩, H⟩
  · have H := ifn c4 H
    refine ends_exit ?_
    have H := Option.some.inj H
    exact Or.inl (⟨rfl, i0, H, eTree.fz x1.1, .int .i64 i0, .any, .any, .bool (decide (i0 < (x1.1.length : Int))), .any, h0, rfl, o0⟩)
theorem law20_PickleRead_body {ann : FuncId → Ann} (ha : ann 4 = ann4) (S13_ : S13 cf m) (S14_ : S14 cf m) (S16_ : S16 cf m) (S18_ : S18 cf m) (S19_ : S19 cf m) (b0 : List Int) (h : AHeap) (L : Mem)  (o : Has h (L)) {out : Bool} (H : law20_PickleRead.f m b0 = some out) :
    ∃ r h', bodyA Tryd.prog ann cf m 4 [eByte.fz b0] h = some (r, h') ∧ Frb h' r (.bool out) := by
  refine body_of_ends2 (fn := Tryd.f4) ha Tryd.func4 (by kernel_rfl) (by kernel_rfl) ?_
  refine ends_fin (Q := fun s => law20_PickleRead.fin L out s) (fun _ _ h => h) ?_
  refine ends_of_eq g4_eq ?_
  have H : _ = some out := H
  unfold law20_PickleRead.f at H
  show Enz _ cf ann4 m _ ⟨eByte.fz b0 :: Ay12 [], [none], h⟩ _
  refine sr [] [] ⟨eByte.fz b0 :: Ay12 [], [none], h⟩ ((True) ∧ True) (by kernel_rfl) ⟨trivial, trivial⟩ ?_
  refine ends_seq ?_
  refine sr [] [] ⟨eByte.fz b0 :: Ay8 (.bool (decide ((b0.length : Int) > (2000 : Int))) :: Ay3 []), [none], h⟩ ((True) ∧ True) (by kernel_rfl) ⟨trivial, trivial⟩ ?_
  refine ends_cond (decide ((b0.length : Int) > (2000 : Int))) (by kernel_rfl) (fun c0 => ?_) (fun c0 => ?_)
  · have H := ifp c0 H
    refine ends_seq ?_
    obtain ⟨x0, e0, H⟩ := bsi H
    refine er [] [(0, .bool x0, some h)] ⟨.any :: .bool x0 :: Ay11 [], [none], h⟩ ((True) ∧ callO cf (.fn 13 []) [] h = some (.bool x0, h) ∧ True) (by kernel_rfl) ⟨trivial, ⟨callO_of (by kernel_rfl) (S13_ _ e0 _ _ (frs (fr_nil))), trivial⟩⟩ ?_
    refine ends_ret ?_
    have H := Option.some.inj H
    subst H
    exact ⟨.inl rfl, ⟨.bool x0, by kernel_rfl, frb (fb_bool)⟩⟩
  · have H := ifn c0 H
    refine ends_skip ?_
    refine ends_seq ?_
    obtain ⟨x1, e1, H⟩ := bsi H
    refine er [] [(1, .tup [eTree.fz x1.1, .int .i64 x1.2], some h)] ⟨eByte.fz b0 :: .any :: eTree.fz x1.1 :: .int .i64 x1.2 :: Ay9 [], [none], h⟩ ((True) ∧ callO cf (.fn 19 []) [eByte.fz b0] h = some (.tup [eTree.fz x1.1, .int .i64 x1.2], h) ∧ True) (by kernel_rfl) ⟨trivial, ⟨callO_of (by kernel_rfl) (S19_ _ _ e1 _ _ (pu_cons (pu_fz (E := eByte)) (pu_nil))), trivial⟩⟩ ?_
    refine ends_seq ?_
    refine sr [] [] ⟨eByte.fz b0 :: .any :: eTree.fz x1.1 :: .int .i64 x1.2 :: Ay6 [.bool (!(x1.2 == (0 : Int))), .any, .any], [none], h⟩ ((True) ∧ True) (by kernel_rfl) ⟨trivial, trivial⟩ ?_
    refine ends_cond (!(x1.2 == (0 : Int))) (by kernel_rfl) (fun c1 => ?_) (fun c1 => ?_)
    · have H := ifp c1 H
      refine ends_seq ?_
      rcases bft ((x1.1.length : Int) == (0 : Int)) with c2 | c2
      · have H := ifp c2 H
        rcases bft (x1.2 == (2 : Int)) with c3 | c3
        · have H := ifp c3 H
          obtain ⟨x2, e2, H⟩ := bsi H
          refine er [] [(3, .bool true, none), (7, .bool true, none), (8, .bool x2, some h)] ⟨.any :: .bool x2 :: Ay11 [], [none], h⟩ ((True) ∧ AV.bool ((x1.1.length : Int) == (0 : Int)) = AV.bool true ∧ AV.bool (x1.2 == (2 : Int)) = AV.bool true ∧ callO cf (.fn 13 []) [] h = some (.bool x2, h) ∧ True) (by kernel_rfl) ⟨trivial, ⟨congrArg AV.bool c2, congrArg AV.bool c3, callO_of (by kernel_rfl) (S13_ _ e2 _ _ (frs (fr_nil))), trivial⟩⟩ ?_
          refine ends_ret ?_
          have H := Option.some.inj H
          subst H
          exact ⟨.inl rfl, ⟨.bool x2, by kernel_rfl, frb (fb_bool)⟩⟩
        · have H := ifn c3 H
          refine er [] [(3, .bool true, none), (7, .bool false, none)] ⟨.any :: .bool false :: Ay11 [], [none], h⟩ ((True) ∧ AV.bool ((x1.1.length : Int) == (0 : Int)) = AV.bool true ∧ AV.bool (x1.2 == (2 : Int)) = AV.bool false ∧ True) (by kernel_rfl) ⟨trivial, ⟨congrArg AV.bool c2, congrArg AV.bool c3, trivial⟩⟩ ?_
          refine ends_ret ?_
          have H := Option.some.inj H
          subst H
          exact ⟨.inl rfl, ⟨.bool false, by kernel_rfl, frb (fb_bool)⟩⟩
      · have H := ifn c2 H
        refine er [] [(3, .bool false, none)] ⟨.any :: .bool false :: Ay11 [], [none], h⟩ ((True) ∧ AV.bool ((x1.1.length : Int) == (0 : Int)) = AV.bool false ∧ True) (by kernel_rfl) ⟨trivial, ⟨congrArg AV.bool c2, trivial⟩⟩ ?_
        refine ends_ret ?_
        have H := Option.some.inj H
        subst H
        exact ⟨.inl rfl, ⟨.bool false, by kernel_rfl, frb (fb_bool)⟩⟩
    · have H := ifn c1 H
      refine ends_skip ?_
      refine ends_seq ?_
      obtain ⟨x3, e3, H⟩ := bsi H
      refine er [] [(1, .tup [eByte.fz x3.1, .int .i64 x3.2], some h)] ⟨eByte.fz b0 :: .any :: eTree.fz x1.1 :: .any :: eByte.fz x3.1 :: .int .i64 x3.2 :: Ay7 [], [none], h⟩ ((True) ∧ callO cf (.fn 14 []) [eTree.fz x1.1] h = some (.tup [eByte.fz x3.1, .int .i64 x3.2], h) ∧ True) (by kernel_rfl) ⟨trivial, ⟨callO_of (by kernel_rfl) (S14_ _ _ e3 _ _ (pu_cons (pu_fz (E := eTree)) (pu_nil))), trivial⟩⟩ ?_
      refine ends_seq ?_
      refine sr [] [] ⟨eByte.fz b0 :: .any :: eTree.fz x1.1 :: .any :: eByte.fz x3.1 :: .int .i64 x3.2 :: .int .i64 (0 : Int) :: Ay6 [], [none], h⟩ ((True) ∧ True) (by kernel_rfl) ⟨trivial, trivial⟩ ?_
      refine ends_block ?_
      obtain ⟨out0, e8, H⟩ := bsi H
      refine ends_mono (law20_PickleRead.l0_ok L b0 x1 x3  S16_ S18_ (σ := (0 : Int)) ⟨.any, .any, .any, .any, h, rfl, o⟩ e8) ?_
      rintro e s (⟨rfl, i1, rfl, g4, g5, g6, g7, g8, g9, h1, rfl, o1⟩ | ⟨rfl, r0, rfl, hf0⟩)
      · try dsimp only at H
        refine ends_seq ?_
        rcases bft (x3.2 == (0 : Int)) with c8 | c8
        · have H := ifp c8 H
          rcases bft ((bytesStr x3.1).data.toList == (bytesStr b0).data.toList) with c9 | c9
          · have H := ifp c9 H
            obtain ⟨x6, e9, H⟩ := bsi H
            refine er [] [(2, .bool true, none), (4, .str (bytesStr x3.1), none), (6, .str (bytesStr b0), none), (9, .bool true, none), (10, .bool x6, some h1)] ⟨.any :: .bool x6 :: Ay11 [], [none], h1⟩ ((True) ∧ AV.bool (x3.2 == (0 : Int)) = AV.bool true ∧ convertA Tryd.prog h1 25 9 (eByte.fz x3.1) = some (.str (bytesStr x3.1)) ∧ convertA Tryd.prog h1 25 9 (eByte.fz b0) = some (.str (bytesStr b0)) ∧ AV.bool ((bytesStr x3.1).data.toList == (bytesStr b0).data.toList) = AV.bool true ∧ callO cf (.fn 13 []) [] h1 = some (.bool x6, h1) ∧ True) (by kernel_rfl) ⟨trivial, ⟨congrArg AV.bool c8, cv_str (e := 5) (l := x3.1) rfl rfl rfl (cc_fz _), cv_str (e := 5) (l := b0) rfl rfl rfl (cc_fz _), congrArg AV.bool c9, callO_of (by kernel_rfl) (S13_ _ e9 _ _ (frs (fr_nil))), trivial⟩⟩ ?_
            refine ends_ret ?_
            have H := Option.some.inj H
            subst H
            exact ⟨.inl rfl, ⟨.bool x6, by kernel_rfl, frb (fb_bool)⟩⟩
          · have H := ifn c9 H
            refine er [] [(2, .bool true, none), (4, .str (bytesStr x3.1), none), (6, .str (bytesStr b0), none), (9, .bool false, none)] ⟨.any :: .bool false :: Ay11 [], [none], h1⟩ ((True) ∧ AV.bool (x3.2 == (0 : Int)) = AV.bool true ∧ convertA Tryd.prog h1 25 9 (eByte.fz x3.1) = some (.str (bytesStr x3.1)) ∧ convertA Tryd.prog h1 25 9 (eByte.fz b0) = some (.str (bytesStr b0)) ∧ AV.bool ((bytesStr x3.1).data.toList == (bytesStr b0).data.toList) = AV.bool false ∧ True) (by kernel_rfl) ⟨trivial, ⟨congrArg AV.bool c8, cv_str (e := 5) (l := x3.1) rfl rfl rfl (cc_fz _), cv_str (e := 5) (l := b0) rfl rfl rfl (cc_fz _), congrArg AV.bool c9, trivial⟩⟩ ?_
            refine ends_ret ?_
            have H := Option.some.inj H
            subst H
            exact ⟨.inl rfl, ⟨.bool false, by kernel_rfl, frb (fb_bool)⟩⟩
        · have H := ifn c8 H
          refine er [] [(2, .bool false, none)] ⟨.any :: .bool false :: Ay11 [], [none], h1⟩ ((True) ∧ AV.bool (x3.2 == (0 : Int)) = AV.bool false ∧ True) (by kernel_rfl) ⟨trivial, ⟨congrArg AV.bool c8, trivial⟩⟩ ?_
          refine ends_ret ?_
          have H := Option.some.inj H
          subst H
          exact ⟨.inl rfl, ⟨.bool false, by kernel_rfl, frb (fb_bool)⟩⟩
      · try dsimp only at H
        have H := Option.some.inj H
        subst H
        exact ⟨.inl rfl, hf0⟩
end
end Go.Proofs.YtmekcfdllhphlaaDoor

namespace Go.Proofs.YtmekcfdllhphlaaDoor
open Go Go.R
open Go.IntKind (i64 u64 u8 u32)
theorem graph_l1 {m : Nat} (v : VNode) (hv : v.args.length < 2 ^ 40) : ∀ (f i : Nat), v.args.length - i < f → i ≤ v.args.length → ∃ x, ref20_Graph.l1 m v v f (i : Int) = some (.inr x)
  | 0, i, hf, _ => absurd hf (by omega)
  | f + 1, i, hf, hi => by
    have p40 : (2 : Nat) ^ 40 = 1099511627776 := by decide
    unfold ref20_Graph.l1
    by_cases h : i < v.args.length
    · obtain ⟨x, ih⟩ := graph_l1 (m := m) v hv f (i + 1) (by omega) (by omega)
      refine ⟨x, ?_⟩
      have hx : ix v.args (i : Int) = some v.args[i] := by unfold ix; rw [if_pos (by omega)]; simp [h]
      rw [if_pos (by simp; omega), hx, Option.bind_some, Option.bind_some, if_neg (by simp), i64_id (by omega) (by omega), show ((i : Int) + 1) = ((i + 1 : Nat) : Int) by omega, ih]
    · exact ⟨i, by rw [if_neg (by simp; omega)]⟩
theorem graph_l0 {m : Nat} (t : VTree) (hm : 2 ^ 30 ≤ m) (ht : t.nodes.length < 2 ^ 30) (ha : ∀ n ∈ t.nodes, n.args.length ≤ 8) : ∀ (f i : Nat), t.nodes.length - i < f → i ≤ t.nodes.length → ∃ x, ref20_Graph.l0 m t t f (i : Int) = some (.inr x)
  | 0, i, hf, _ => absurd hf (by omega)
  | f + 1, i, hf, hi => by
    have p30 : (2 : Nat) ^ 30 = 1073741824 := by decide
    unfold ref20_Graph.l0
    by_cases h : i < t.nodes.length
    · obtain ⟨x, ih⟩ := graph_l0 (m := m) t hm ht ha f (i + 1) (by omega) (by omega)
      refine ⟨x, ?_⟩
      have hx : ix t.nodes (i : Int) = some t.nodes[i] := by unfold ix; rw [if_pos (by omega)]; simp [h]
      have h8 := ha t.nodes[i] (List.getElem_mem h)
      obtain ⟨y, hy⟩ := graph_l1 (m := m) t.nodes[i] (by omega) m 0 (by omega) (by omega)
      have hy : ref20_Graph.l1 m t.nodes[i] t.nodes[i] m (0 : Int) = _ := hy
      rw [if_pos (by simp; omega), hx, Option.bind_some, Option.bind_some, if_neg (by simp), if_neg (by simp), if_neg (by simp), if_neg (by simp), hy, Option.bind_some]
      dsimp only
      rw [i64_id (by omega) (by omega), show ((i : Int) + 1) = ((i + 1 : Nat) : Int) by omega, ih]
    · exact ⟨i, by rw [if_neg (by simp; omega)]⟩
theorem graph_refl {m : Nat} (t : VTree) (hm : 2 ^ 30 ≤ m) (W : WTree t) : ref20_Graph.f m t t = some true := by
  have p30 : (2 : Nat) ^ 30 = 1073741824 := by decide
  have := W.few
  obtain ⟨x, hx⟩ := graph_l0 (m := m) t hm W.few (fun n hn => (W.nodes n hn).args.1) m 0 (by omega) (by omega)
  have hx : ref20_Graph.l0 m t t m (0 : Int) = _ := hx
  unfold ref20_Graph.f
  rw [if_neg (by simp), if_neg (by simp), hx, Option.bind_some]
theorem read_l0 {m : Nat} (hm : 2 ^ 30 ≤ m) (x1 : List VTree × Int) (hl : x1.1.length ≤ 8) (hL : ∀ t ∈ x1.1, WTree t ∧ tree_Least.f m t = some (t, 0)) : ∀ (f i : Nat), x1.1.length - i < f → i ≤ x1.1.length → ∃ x, law20_PickleRead.l0 m x1 f (i : Int) = some (.inr x)
  | 0, i, hf, _ => absurd hf (by omega)
  | f + 1, i, hf, hi => by
    unfold law20_PickleRead.l0
    by_cases h : i < x1.1.length
    · obtain ⟨x, ih⟩ := read_l0 (m := m) hm x1 hl hL f (i + 1) (by omega) (by omega)
      refine ⟨x, ?_⟩
      have hx : ix x1.1 (i : Int) = some x1.1[i] := by unfold ix; rw [if_pos (by omega)]; simp [h]
      obtain ⟨hW, hle⟩ := hL x1.1[i] (List.getElem_mem h)
      have hp : pickle_Least.f m x1.1[i] = some (x1.1[i], 0) := by unfold pickle_Least.f; rw [hle]; rfl
      rw [if_pos (by simp; omega), hx, Option.bind_some, hp, Option.bind_some, if_neg (by simp), Option.bind_some, graph_refl _ hm hW, Option.bind_some, if_neg (by simp), i64_id (by omega) (by omega), show ((i : Int) + 1) = ((i + 1 : Nat) : Int) by omega, ih]
    · exact ⟨i, by rw [if_neg (by simp; omega)]⟩
theorem get_err {m : Nat} {b : List Int} {l : List VTree} {e : Int} (hb : b.length ≤ 200000) (H : pickle_Get.f m b = some (l, e)) (he : e ≠ 0) : l = [] ∧ e = 2 := by
  unfold pickle_Get.f at H
  rw [if_neg (by simp; omega)] at H
  split at H
  · simp at H; exact ⟨H.1, H.2.symm⟩
  simp only [Option.bind_eq_some_iff] at H
  obtain ⟨v0, h0, x0, h1, v1, h2, x1, h3, H⟩ := H
  split at H
  · simp at H; exact ⟨H.1, H.2.symm⟩
  simp only [Option.bind_eq_some_iff] at H
  obtain ⟨v2, h4, x2, h5, ⟨l', i1, ob⟩, h6, H⟩ := H
  dsimp only at H
  split at H
  · simp at H; exact ⟨H.1, H.2.symm⟩
  split at H
  · simp at H; exact ⟨H.1, H.2.symm⟩
  simp only [Option.bind_eq_some_iff] at H
  obtain ⟨⟨p, e'⟩, h7, H⟩ := H
  split at H
  · simp at H; exact ⟨H.1, H.2.symm⟩
  simp only [Option.bind_eq_some_iff] at H
  obtain ⟨x8, h8, H⟩ := H
  split at H
  · simp at H; exact ⟨H.1, H.2.symm⟩
  simp at H
  exact absurd H.2.symm he
theorem read_law {m : Nat} (hm : 2 ^ 30 ≤ m) {b : List Int} (hb : Bytes b) (hT : b.length ≤ 2000 → ∃ r, pickle_Get.f m b = some r)
    (hW : ∀ l, pickle_Get.f m b = some (l, 0) → ∀ ls : List VTree, ls.length = l.length → (∀ (j : Nat) (t s : VTree), l[j]? = some t → ls[j]? = some s → tree_Least.f m t = some (s, 0)) → ContainsFT.f m ls (fun y0 => pickle_Put_1.f m y0) = some false → (∀ t ∈ ls, WTree t) ∧ (encTrees ls).length + 2 ^ 42 ≤ 140737488355328) :
    law20_PickleRead.f m b = some true := by
  unfold law20_PickleRead.f
  have ha : law20_awake.f m = some true := rfl
  by_cases hl : b.length ≤ 2000
  · rw [if_neg (by simp; omega)]
    obtain ⟨⟨l, e⟩, hG⟩ := hT hl
    rw [hG, Option.bind_some]
    by_cases he : e = 0
    · subst he
      rw [if_neg (by simp)]
      obtain ⟨v2, x2, i1, ob, p, h1, h2, h3, h4, h5, h6, h7⟩ := get_spec hG
      obtain ⟨ls, k1, k2, k3, k4, k5⟩ := put_spec h6
      obtain ⟨w1, w2⟩ := hW l hG ls k2 k3 k5
      obtain ⟨rfl, rfl⟩ := get_least hm hb (by omega) h1 h2 h3 h7 k4 (by omega) w1 w2
      have p30 : (2 : Nat) ^ 30 = 1073741824 := by decide
      have hall : ∀ t ∈ l, WTree t ∧ tree_Least.f m t = some (t, 0) := by
        intro t ht
        obtain ⟨j, hj⟩ := List.getElem?_of_mem ht
        exact ⟨w1 t ht, k3 j t t hj hj⟩
      obtain ⟨x, hx⟩ := read_l0 hm (l, (0 : Int)) k1 hall m 0 (by simp only; omega) (by simp)
      have hx : law20_PickleRead.l0 m (l, (0 : Int)) m (0 : Int) = _ := hx
      dsimp only
      rw [h6, Option.bind_some, hx, Option.bind_some]
      dsimp only
      rw [if_pos (by simp), if_pos (by simp), ha]
      rfl
    · obtain ⟨rfl, rfl⟩ := get_err (by omega) hG he
      rw [if_pos (by simp), if_pos (by simp), if_pos (by simp), ha]
      rfl
  · rw [if_pos (by simp; omega), ha]
    rfl
end Go.Proofs.YtmekcfdllhphlaaDoor

namespace Go.Proofs.YtmekcfdllhphlaaDoor
open Go Go.R
open Go.IntKind (i64 u64 u8 u32)
def Ok0 (t : VTree) : Prop := ∀ n ∈ t.nodes, n.kind = 0 → n.int < 2 ^ 63
theorem ba_nil {s : ByteArray} (h : (s.data.toList == []) = true) : s = ByteArray.mk #[] := by
  have h := beq_iff_eq.1 h
  cases s with
  | mk d =>
    cases d with
    | mk l => simp only at h; subst h; rfl
theorem isE {l : List Int} (h : l.isEmpty = true) : l = [] := by cases l with | nil => rfl | cons => cases h
structure Top (n : VNode) : Prop where
  kind : n.kind = 0 ∧ 0 ≤ n.int ∧ n.label = ByteArray.mk #[] ∧ n.args = [] ∨ n.kind = 1 ∧ (-1099511627776 ≤ n.int ∧ n.int ≤ 1099511627776) ∧ n.label = ByteArray.mk #[] ∧ n.args = [] ∨ n.kind = 2 ∧ n.int = 0 ∧ n.args = [] ∨ n.kind = 3 ∧ n.int = 0 ∨ n.kind = 4 ∧ n.args = []
  label : n.kind = 2 ∨ n.kind = 3 → 1 ≤ n.label.size ∧ n.label.size ≤ 16
  args : n.args.length ≤ 8
theorem nodeB_top {n : VNode} {size : Int} (h : nodeB n size = true) : Top n ∧ ∀ a ∈ n.args, 0 ≤ a ∧ a < size := by
  unfold nodeB at h
  split at h
  · rename_i k
    simp only [Bool.and_eq_true, decide_eq_true_eq] at h
    have ha := isE h.2
    exact ⟨⟨.inl ⟨k, h.1.1, ba_nil h.1.2, ha⟩, fun z => by omega, by rw [ha]; decide⟩, fun a h => by rw [ha] at h; cases h⟩
  split at h
  · rename_i k
    simp only [Bool.and_eq_true, decide_eq_true_eq] at h
    have ha := isE h.2
    exact ⟨⟨.inr (.inl ⟨k, h.1.1, ba_nil h.1.2, ha⟩), fun z => by omega, by rw [ha]; decide⟩, fun a h => by rw [ha] at h; cases h⟩
  split at h
  · rename_i k
    simp only [Bool.and_eq_true, beq_iff_eq] at h
    have ha := isE h.2
    exact ⟨⟨.inr (.inr (.inl ⟨k, h.1.1, ha⟩)), fun z => atom_size h.1.2, by rw [ha]; decide⟩, fun a h => by rw [ha] at h; cases h⟩
  split at h
  · rename_i k
    simp only [Bool.and_eq_true, beq_iff_eq, decide_eq_true_eq, List.all_eq_true] at h
    exact ⟨⟨.inr (.inr (.inr (.inl ⟨k, h.1.1.1.1⟩))), fun z => atom_size h.1.1.1.2, h.1.2⟩, h.2⟩
  split at h
  · rename_i k
    simp only [Bool.and_eq_true, decide_eq_true_eq] at h
    have ha := isE h.2
    exact ⟨⟨.inr (.inr (.inr (.inr ⟨k, ha⟩))), fun z => by omega, by rw [ha]; decide⟩, fun a h => by rw [ha] at h; cases h⟩
  · cases h
theorem validB_ok {t : VTree} (h : validB t = true) : Okl t.nodes ∧ 1 ≤ t.nodes.length ∧ 0 ≤ t.root ∧ t.root < t.nodes.length ∧ ∀ n ∈ t.nodes, Top n := by
  unfold validB at h
  simp only [Bool.and_eq_true, decide_eq_true_eq, List.all_eq_true] at h
  obtain ⟨⟨⟨⟨h1, h2⟩, h3⟩, h4⟩, h5⟩ := h
  exact ⟨⟨h2, fun n hn => ⟨(nodeB_top (h5 n hn)).1.args, (nodeB_top (h5 n hn)).2⟩⟩, h1, h3, h4, fun n hn => (nodeB_top (h5 n hn)).1⟩
structure LTree (s : VTree) : Prop where
  root : s.root = 0
  few : s.nodes.length ≤ 8000
  nodes : ∀ x ∈ s.nodes, Top x ∧ (x.kind = 0 → x.int < 2 ^ 63) ∧ ∀ a ∈ x.args, 0 ≤ a ∧ a < 8000
theorem Top.map {n : VNode} (T : Top n) (f : Int → Int) : Top ⟨n.kind, n.int, n.label, n.args.map f⟩ := by
  refine ⟨?_, T.label, by simpa using T.args⟩
  rcases T.kind with ⟨a, b, c, d⟩ | ⟨a, b, c, d⟩ | ⟨a, b, d⟩ | ⟨a, b⟩ | ⟨a, d⟩
  · exact .inl ⟨a, b, c, by simp [d]⟩
  · exact .inr (.inl ⟨a, b, c, by simp [d]⟩)
  · exact .inr (.inr (.inl ⟨a, b, by simp [d]⟩))
  · exact .inr (.inr (.inr (.inl ⟨a, b⟩)))
  · exact .inr (.inr (.inr (.inr ⟨a, by simp [d]⟩)))
theorem least_tot {m : Nat} (hm : 2 ^ 41 ≤ m) {t : VTree} (h : validB t = true) (h0 : Ok0 t) : ∃ s, tree_least.f m t = some s ∧ LTree s := by
  obtain ⟨ok, h1, r0, r1, hT⟩ := validB_ok h
  obtain ⟨cls, many, ks, ns, e, P, _, K, hks, Q, hr⟩ := least_spec hm ok h1 r0 r1 (fun _ => True) (fun _ _ _ _ _ => trivial) (fun _ _ _ _ _ _ _ _ _ => trivial)
  have hfew := Q.vs.few
  have h8000 := ok.1
  have hlen := Q.len
  refine ⟨_, e, rfl, by dsimp only; omega, fun x hx => ?_⟩
  obtain ⟨k, hk, e2⟩ := List.getElem_of_mem hx
  dsimp only at hk e2
  have := Q.new k (by simp) (by omega)
  rw [List.getElem?_eq_getElem hk, e2] at this
  have := Option.some.inj this
  subst this
  have hmem := Q.vs.rng _ (gt_mem (l := dfs cls t.nodes m t.root []) (k := k) (by omega))
  have hnd := nd_mem hmem.1 hmem.2
  have h0' := h0 _ hnd
  refine ⟨(hT _ hnd).map _, fun hk => h0' hk, fun a ha => ?_⟩
  obtain ⟨b, hb, rfl⟩ := List.mem_map.1 ha
  have hin := Q.arg k (by simp) (by omega) b hb
  have := List.idxOf_lt_length_of_mem hin
  rw [List.length_map] at this
  unfold idx
  omega
theorem Least_tot {m : Nat} (hm : 2 ^ 41 ≤ m) {t : VTree} (h0 : Ok0 t) : ∃ s e, tree_Least.f m t = some (s, e) ∧ (e = 0 → LTree s) := by
  have p30 : (2 : Nat) ^ 30 = 1073741824 := by decide
  have p41 : (2 : Nat) ^ 41 = 2199023255552 := by decide
  unfold tree_Least.f
  rw [valid_spec (by omega), Option.bind_some]
  cases h : validB t with
  | false => exact ⟨_, _, rfl, fun h => absurd h (by decide)⟩
  | true =>
    obtain ⟨s, e, L⟩ := least_tot hm h h0
    rw [if_neg (by simp), e]
    exact ⟨_, _, rfl, fun _ => L⟩
theorem LTree.w {s : VTree} (L : LTree s) (h : s.nodes.any (fun n => n.kind == 4) = false) : WTree s := by
  refine ⟨fun n hn => ?_, ?_, L.root⟩
  · obtain ⟨T, i0, ha⟩ := L.nodes n hn
    have h4 : n.kind ≠ 4 := fun e => by
      have := List.any_eq_false.1 h n hn
      rw [e] at this; exact absurd this (by decide)
    have p62 : (2 : Int) ^ 62 = 4611686018427387904 := by decide
    have p63 : (2 : Int) ^ 63 = 9223372036854775808 := by decide
    have p40 : (2 : Nat) ^ 40 = 1099511627776 := by decide
    refine ⟨?_, fun hk => ?_, T.args, fun a hx => by have := ha a hx; omega⟩
    · rcases T.kind with ⟨a, b, c, d⟩ | ⟨a, b, c, d⟩ | ⟨a, b, d⟩ | ⟨a, b⟩ | ⟨a, d⟩
      · exact .inl ⟨a, ⟨b, i0 a⟩, c, d⟩
      · exact .inr (.inl ⟨a, by omega, c, d⟩)
      · exact .inr (.inr (.inl ⟨a, b, d⟩))
      · exact .inr (.inr (.inr ⟨a, b⟩))
      · exact absurd a h4
    · have := T.label (by rcases T.kind with h | h | h | h | h <;> (have := h.1; omega))
      omega
  · have := L.few
    have p30 : (2 : Nat) ^ 30 = 1073741824 := by decide
    omega
theorem encNode_len {n : VNode} (W : WNode n) (T : Top n) : (encNode n).length ≤ 200 := by
  have i64 : (2 : Int) ^ 63 = 9223372036854775808 := by decide
  have i62 : (2 : Int) ^ 62 = 4611686018427387904 := by decide
  have p64 : (2 : Nat) ^ 64 = 18446744073709551616 := by decide
  have p63 : (2 : Nat) ^ 63 = 9223372036854775808 := by decide
  have hs : (n.kind = 2 ∨ n.kind = 3) → (encS n.label).length ≤ 30 := fun h => by
    obtain ⟨h1, h2⟩ := T.label h
    unfold encS
    have := encN_len64 (n := n.label.size) (by omega)
    rw [List.length_append, strBytes_len]; omega
  have hargs : ∀ l : List Int, (∀ a ∈ l, 0 ≤ a ∧ a < 2 ^ 63) → ((l.map fun a => encN a.toNat).flatten).length ≤ 10 * l.length := by
    intro l
    induction l with
    | nil => intro _; simp
    | cons a l ih =>
      intro h
      have h1 := h a (by simp)
      have := ih fun b hb => h b (by simp [hb])
      have h2 := encN_len64 (n := a.toNat) (by omega)
      simp only [List.map_cons, List.flatten_cons, List.length_append, List.length_cons]
      omega
  unfold encNode
  rw [List.length_cons]
  rcases W.kind with ⟨a, ⟨b, b'⟩, _, _⟩ | ⟨a, ⟨b, b'⟩, _, _⟩ | ⟨a, _⟩ | ⟨a, _⟩
  · rw [if_pos a]
    have := encN_len64 (n := n.int.toNat) (by omega)
    omega
  · rw [if_neg (by omega), if_pos a]
    have h1 := zig_lt b b'
    have := encN_len64 (n := zig n.int) (by omega)
    omega
  · rw [if_neg (by omega), if_neg (by omega), if_pos a]
    have := hs (.inl a); omega
  · rw [if_neg (by omega), if_neg (by omega), if_neg (by omega), List.length_append, List.length_append]
    have h1 := hs (.inr a)
    have h2 := hargs n.args W.args.2
    have h3 := W.args.1
    have h4 := encN_len64 (n := n.args.length) (by omega)
    omega
theorem encTree_len {t : VTree} (L : LTree t) (W : WTree t) : (encTree t).length ≤ 2000000 := by
  have hn : ∀ l : List VNode, (∀ n ∈ l, WNode n ∧ Top n) → (encNodes l).length ≤ 200 * l.length := by
    intro l
    induction l with
    | nil => intro _; simp [encNodes]
    | cons a l ih =>
      intro h
      have h1 := h a (by simp)
      have := ih fun b hb => h b (by simp [hb])
      have h2 := encNode_len h1.1 h1.2
      rw [encNodes_cons, List.length_append, List.length_cons]; omega
  have h1 := hn t.nodes fun n hn => ⟨W.nodes n hn, (L.nodes n hn).1⟩
  have h2 := L.few
  have p64 : (2 : Nat) ^ 64 = 18446744073709551616 := by decide
  have h3 := encN_len64 (n := t.nodes.length) (by omega)
  unfold encTree
  rw [List.length_append]; omega
theorem encTrees_len : ∀ {l : List VTree}, (∀ t ∈ l, LTree t ∧ WTree t) → (encTrees l).length ≤ 2000000 * l.length
  | [], _ => by simp [encTrees]
  | a :: l, h => by
    have h1 := h a (by simp)
    have := encTrees_len (l := l) fun b hb => h b (by simp [hb])
    have h2 := encTree_len h1.1 h1.2
    rw [encTrees_cons, List.length_append, List.length_cons]; omega
theorem put1_spec {m : Nat} {t : VTree} (h : t.nodes.length < 2 ^ 40) (h2 : t.nodes.length < m) : pickle_Put_1.f m t = some (t.nodes.any fun n => n.kind == 4) := by
  unfold pickle_Put_1.f
  rw [containsN (f0 := fun y0 => pickle_named.f m y0) (g := fun n => n.kind == 4) h h2 (fun n _ => rfl)]; rfl
theorem sum_l1 {m : Nat} : ∀ (f i : Nat) (crc : Int), 8 - i < f → i ≤ 8 → ∃ c x, pickle_Sum.l1 m f crc (i : Int) = some (c, x)
  | 0, i, crc, hf, _ => absurd hf (by omega)
  | f + 1, i, crc, hf, hi => by
    unfold pickle_Sum.l1
    by_cases h : i < 8
    · rw [if_pos (by simp only [decide_eq_true_eq]; omega), i64_id (by omega) (by omega), show (i : Int) + 1 = ((i + 1 : Nat) : Int) by omega]
      exact sum_l1 f (i + 1) _ (by omega) (by omega)
    · exact ⟨_, _, by rw [if_neg (by simp only [decide_eq_true_eq]; omega)]⟩
theorem sum_l0 {m : Nat} (hm : 10 ≤ m) {b : List Int} (hb : b.length < 2 ^ 40) : ∀ (f i : Nat) (crc : Int), b.length - i < f → i ≤ b.length → ∃ c x, pickle_Sum.l0 m b f crc (i : Int) = some (c, x)
  | 0, i, crc, hf, _ => absurd hf (by omega)
  | f + 1, i, crc, hf, hi => by
    have p40 : (2 : Nat) ^ 40 = 1099511627776 := by decide
    unfold pickle_Sum.l0
    by_cases h : i < b.length
    · obtain ⟨c, x, k⟩ := sum_l1 (m := m) m 0 (bitsXor .u32 crc (u32.wrap (gt b i))) (by omega) (by omega)
      have k : pickle_Sum.l1 m m (bitsXor .u32 crc (u32.wrap (gt b i))) 0 = _ := k
      rw [if_pos (by simp only [decide_eq_true_eq]; omega), ix_gt h, Option.bind_some, k, Option.bind_some]
      dsimp only
      rw [i64_id (by omega) (by omega), show (i : Int) + 1 = ((i + 1 : Nat) : Int) by omega]
      exact sum_l0 hm hb f (i + 1) _ (by omega) (by omega)
    · exact ⟨_, _, by rw [if_neg (by simp only [decide_eq_true_eq]; omega)]⟩
theorem check_tot {m : Nat} (hm : 10 ≤ m) {b : List Int} (hb : b.length < 2 ^ 40) (h : b.length < m) : ∃ c, pickle_check.f m b = some c := by
  obtain ⟨c, x, k⟩ := sum_l0 hm hb m 0 4294967295 (by omega) (by omega)
  have k : pickle_Sum.l0 m b m 4294967295 0 = _ := k
  unfold pickle_check.f pickle_Sum.f
  rw [k]
  exact ⟨_, rfl⟩
theorem put_l0_tot {m : Nat} (hm : 2 ^ 41 ≤ m) {L : List VTree} (hL : L.length ≤ 8) (h0 : ∀ t ∈ L, Ok0 t) : ∀ (f i : Nat) (acc : List VTree), L.length - i < f → i ≤ L.length → acc.length ≤ i → (∀ s ∈ acc, LTree s) →
    ∃ o, pickle_Put.l0 m L f acc (i : Int) = some o ∧ (o = .inl ([], 2) ∨ ∃ ls x, o = .inr (ls, x) ∧ ls.length ≤ 8 ∧ ∀ s ∈ ls, LTree s)
  | 0, i, acc, hf, _, _, _ => absurd hf (by omega)
  | f + 1, i, acc, hf, hi, ha, hacc => by
    unfold pickle_Put.l0
    by_cases h : i < L.length
    · have hx : ix L (i : Int) = some L[i] := by unfold ix; rw [if_pos (by omega)]; simp [h]
      obtain ⟨s, e, k1, k2⟩ := Least_tot hm (h0 _ (List.getElem_mem h))
      rw [if_pos (by simp only [decide_eq_true_eq]; omega), hx, Option.bind_some, k1, Option.bind_some]
      dsimp only
      by_cases he : e = 0
      · subst he
        have hap : app 32 acc [s] = some (acc ++ [s]) := by unfold app; rw [if_pos (by simp; omega)]
        rw [if_neg (by simp), hap, Option.bind_some, i64_id (by omega) (by omega), show (i : Int) + 1 = ((i + 1 : Nat) : Int) by omega]
        refine put_l0_tot hm hL h0 f (i + 1) _ (by omega) (by omega) (by simp; omega) fun x hx => ?_
        rcases List.mem_append.1 hx with hx | hx
        · exact hacc x hx
        · simp only [List.mem_singleton] at hx; subst hx; exact k2 rfl
      · rw [if_pos (by simpa using he)]
        exact ⟨_, rfl, .inl rfl⟩
    · exact ⟨_, by rw [if_neg (by simp only [decide_eq_true_eq]; omega)], .inr ⟨acc, _, rfl, by omega, hacc⟩⟩
theorem put_tot {m : Nat} (hm : 2 ^ 41 ≤ m) {L : List VTree} (h0 : ∀ t ∈ L, Ok0 t) : ∃ r, pickle_Put.f m L = some r := by
  have p30 : (2 : Nat) ^ 30 = 1073741824 := by decide
  have p41 : (2 : Nat) ^ 41 = 2199023255552 := by decide
  have p40 : (2 : Nat) ^ 40 = 1099511627776 := by decide
  have p42 : (2 : Nat) ^ 42 = 4398046511104 := by decide
  unfold pickle_Put.f
  by_cases h : L.length ≤ 8
  · rw [if_neg (by simp only [decide_eq_true_eq]; omega)]
    obtain ⟨o, k1, k2⟩ := put_l0_tot hm h h0 m 0 [] (by omega) (by omega) (by simp) (fun s hs => by cases hs)
    have k1 : pickle_Put.l0 m L m [] 0 = _ := k1
    rw [k1, Option.bind_some]
    rcases k2 with rfl | ⟨ls, x, rfl, hl, hLT⟩
    · exact ⟨_, rfl⟩
    · dsimp only
      rw [containsT (g := fun t => t.nodes.any fun n => n.kind == 4) (by omega) (by omega) (fun t ht => put1_spec (by have := (hLT t ht).few; omega) (by have := (hLT t ht).few; omega)), Option.bind_some]
      cases hc : ls.any fun t => t.nodes.any fun n => n.kind == 4 with
      | true => exact ⟨_, rfl⟩
      | false =>
        have hW : ∀ t ∈ ls, LTree t ∧ WTree t := fun t ht => ⟨hLT t ht, (hLT t ht).w (by simpa using List.any_eq_false.1 hc t ht)⟩
        have hel := encTrees_len hW
        have hen := encN_len64 (n := ls.length) (by omega)
        have hlist : (encList ls).length ≤ 100000000 := by
          unfold encList
          simp only [List.length_append, List.length_cons, List.length_nil]; omega
        obtain ⟨c, hc2⟩ := check_tot (m := m) (by omega) (b := encList ls) (by omega) (by omega)
        have := (check_spec hc2).2
        have hap : app 1 (encList ls) c = some (encList ls ++ c) := by unfold app; rw [if_pos (by omega)]
        rw [if_neg (by simp), wlist (by omega) (fun t ht => (hW t ht).2) (by omega) (by omega), hc2, Option.bind_some, hap, Option.bind_some]
        split
        · exact ⟨_, rfl⟩
        · exact ⟨_, rfl⟩
  · rw [if_pos (by simp only [decide_eq_true_eq]; omega)]
    exact ⟨_, rfl⟩
end Go.Proofs.YtmekcfdllhphlaaDoor

namespace Go.Proofs.YtmekcfdllhphlaaDoor
open Go Go.R
open Go.IntKind (i64 u64 u8 u32)
def mu (r : Rdr) : Nat := r.f_b.length + if r.f_bad = true then 0 else 1
theorem get_l1 {m : Nat} (hm : 2 ^ 30 ≤ m) (x3 : Int × Rdr) : ∀ (f : Nat) (k0 : Int) (t0 : List VNode) (t1 : Int) (r : Rdr), Bytes r.f_b → r.f_b.length ≤ 200000 → mu r < f → t0.length + mu r ≤ 300000 → (∀ n ∈ t0, n.kind = 0 → n.int < 2 ^ 63) →
    ∃ k t2 ob, pickle_Get.l1 m x3 f k0 t0 t1 r = some (k, t2, t1, ob) ∧ Bytes ob.f_b ∧ ob.f_b.length ≤ r.f_b.length ∧ ∀ n ∈ t2, n.kind = 0 → n.int < 2 ^ 63
  | 0, k0, t0, t1, r, _, _, hf, _, _ => absurd hf (by omega)
  | f + 1, k0, t0, t1, r, hb, hl, hf, ht, hn => by
    have p30 : (2 : Nat) ^ 30 = 1073741824 := by decide
    unfold pickle_Get.l1
    split
    · split
      · rename_i g
        obtain ⟨n, r', h1, h2, h3, h4, h5⟩ := node_tot3 (m := m) (by omega) r hb hl
        have hbad : r.f_bad = false := by simpa using g
        have hmu : mu r = r.f_b.length + 1 := by unfold mu; rw [hbad]; rfl
        have hmu' : mu r' < mu r ∧ r'.f_b.length ≤ r.f_b.length := by
          by_cases e : r.f_b = []
          · obtain ⟨e1, e2⟩ := h3 e
            have : mu r' = 0 := by unfold mu; rw [e1, e2]; rfl
            rw [e2]; exact ⟨by omega, by simp⟩
          · have := h4 e
            have : mu r' ≤ r'.f_b.length + 1 := by unfold mu; split <;> omega
            omega
        have hap : app 56 t0 [n] = some (t0 ++ [n]) := by unfold app; rw [if_pos (by simp; omega)]
        rw [h1, Option.bind_some]
        dsimp only
        rw [hap, Option.bind_some]
        obtain ⟨k, t2, ob, k1, k2, k3, k4⟩ := get_l1 hm x3 f (i64.wrap (k0 + 1)) (t0 ++ [n]) t1 r' h2 (by omega) (by omega) (by simp; omega) (fun x hx => by
          rcases List.mem_append.1 hx with hx | hx
          · exact hn x hx
          · simp only [List.mem_singleton] at hx; subst hx; exact h5)
        exact ⟨k, t2, ob, k1, k2, by omega, k4⟩
      · exact ⟨_, _, _, rfl, hb, Nat.le_refl _, hn⟩
    · exact ⟨_, _, _, rfl, hb, Nat.le_refl _, hn⟩
theorem get_l0 {m : Nat} (hm : 2 ^ 30 ≤ m) (x2 : Int × Rdr) : ∀ (f i : Nat) (acc : List VTree) (r : Rdr), 8 - i < f → i ≤ 8 → acc.length ≤ i → Bytes r.f_b → r.f_b.length ≤ 200000 → (∀ t ∈ acc, Ok0 t) →
    ∃ l x ob, pickle_Get.l0 m x2 f acc (i : Int) r = some (l, x, ob) ∧ ∀ t ∈ l, Ok0 t
  | 0, i, acc, r, hf, _, _, _, _, _ => absurd hf (by omega)
  | f + 1, i, acc, r, hf, hi, ha, hb, hl, ht => by
    have p30 : (2 : Nat) ^ 30 = 1073741824 := by decide
    unfold pickle_Get.l0
    split
    rotate_left
    · exact ⟨_, _, _, rfl, ht⟩
    rename_i g1
    split
    rotate_left
    · exact ⟨_, _, _, rfl, ht⟩
    split
    rotate_left
    · exact ⟨_, _, _, rfl, ht⟩
    rename_i g2 g3
    simp only [decide_eq_true_eq] at g1 g3
    obtain ⟨n, r1, h1, _, hb1, hl1⟩ := number_tot3 (m := m) (by omega) r hb
    have hmu : mu r1 ≤ 200001 := by unfold mu; split <;> omega
    obtain ⟨k, t2, ob, h2, hb2, hl2, hn2⟩ := get_l1 (m := m) hm ((n : Int), r1) m 0 [] 0 r1 hb1 (by omega) (by omega) (by simp; omega) (fun n hn => by cases hn)
    have hap : app 32 acc [(⟨t2, 0⟩ : VTree)] = some (acc ++ [⟨t2, 0⟩]) := by unfold app; rw [if_pos (by simp; omega)]
    rw [h1, Option.bind_some]
    dsimp only
    rw [h2, Option.bind_some]
    dsimp only
    rw [hap, Option.bind_some, i64_id (by omega) (by omega), show (i : Int) + 1 = ((i + 1 : Nat) : Int) by omega]
    refine get_l0 hm x2 f (i + 1) _ ob (by omega) (by omega) (by simp; omega) hb2 (by omega) fun t h => ?_
    rcases List.mem_append.1 h with h | h
    · exact ht t h
    · simp only [List.mem_singleton] at h; subst h; exact hn2
theorem slc_some {b : List Int} {lo hi : Int} (h : 0 ≤ lo ∧ lo ≤ hi ∧ hi ≤ b.length) : slc b lo hi = some ((b.drop lo.toNat).take (hi.toNat - lo.toNat)) := by unfold slc; rw [if_pos h]
theorem Bytes.sub {b : List Int} (h : Bytes b) (p q : Nat) : Bytes ((b.drop p).take q) := fun x hx => h x (List.mem_of_mem_drop (List.mem_of_mem_take hx))
theorem get_tot {m : Nat} (hm : 2 ^ 41 ≤ m) {b : List Int} (hb : Bytes b) : ∃ r, pickle_Get.f m b = some r ∧ ∀ t ∈ r.1, Ok0 t := by
  have p30 : (2 : Nat) ^ 30 = 1073741824 := by decide
  have p40 : (2 : Nat) ^ 40 = 1099511627776 := by decide
  have p41 : (2 : Nat) ^ 41 = 2199023255552 := by decide
  have nil : ∀ e : Int, ∃ r, (some (([] : List VTree), e)) = some r ∧ ∀ t ∈ r.1, Ok0 t := fun e => ⟨_, rfl, fun t h => by cases h⟩
  unfold pickle_Get.f
  split
  · exact nil 3
  split
  · exact nil 2
  rename_i g1 g2
  simp only [decide_eq_true_eq] at g1 g2
  have e4 : i64.wrap ((b.length : Int) - 4) = (b.length : Int) - 4 := i64_id (by omega) (by omega)
  rw [e4, slc_some ⟨by omega, by omega, by omega⟩, Option.bind_some]
  obtain ⟨c, hc⟩ := check_tot (m := m) (by omega) (b := (b.drop (0 : Int).toNat).take (((b.length : Int) - 4).toNat - (0 : Int).toNat)) (by simp; omega) (by simp; omega)
  rw [hc, Option.bind_some, slc_some ⟨by omega, by omega, by omega⟩, Option.bind_some]
  have hE : ∀ x y : List Int, bytes_Equal.f m x y = some ((bytesStr x).data.toList == (bytesStr y).data.toList) := fun x y => rfl
  rw [hE, Option.bind_some]
  split
  · exact nil 2
  rw [slc_some ⟨by omega, by omega, by omega⟩, Option.bind_some]
  obtain ⟨n, r1, h1, _, hb1, hl1⟩ := number_tot3 (m := m) (by omega) ⟨(b.drop (2 : Int).toNat).take (((b.length : Int) - 4).toNat - (2 : Int).toNat), false⟩ (hb.sub _ _)
  obtain ⟨l, x, ob, h2, ho⟩ := get_l0 (m := m) (by omega) ((n : Int), r1) m 0 [] r1 (by omega) (by omega) (by simp) hb1 (by simp at hl1; omega) (fun t h => by cases h)
  have h2 : pickle_Get.l0 m ((n : Int), r1) m [] 0 r1 = _ := h2
  rw [h1, Option.bind_some, h2, Option.bind_some]
  dsimp only
  split
  · exact nil 2
  split
  · exact nil 2
  obtain ⟨⟨p, e⟩, h3⟩ := put_tot hm ho
  rw [h3, Option.bind_some]
  dsimp only
  split
  · exact nil 2
  rw [hE, Option.bind_some]
  split
  · exact nil 2
  · exact ⟨_, rfl, ho⟩
theorem read_true {m : Nat} (hm : 2 ^ 41 ≤ m) {b : List Int} (hb : Bytes b) : law20_PickleRead.f m b = some true := by
  have p30 : (2 : Nat) ^ 30 = 1073741824 := by decide
  have p40 : (2 : Nat) ^ 40 = 1099511627776 := by decide
  have p41 : (2 : Nat) ^ 41 = 2199023255552 := by decide
  have p42 : (2 : Nat) ^ 42 = 4398046511104 := by decide
  refine read_law (by omega) hb (fun _ => (get_tot hm hb).imp fun _ h => h.1) fun l hl ls hlen hls hno => ?_
  obtain ⟨r, hr, ho⟩ := get_tot hm hb
  rw [hl] at hr
  cases hr
  have hl8 : l.length ≤ 8 := by
    obtain ⟨v2, x2, i1, ob, p, h1, h2, h3, h4, h5, h6, h7⟩ := get_spec hl
    obtain ⟨ls', k1, _⟩ := put_spec h6
    exact k1
  have hL : ∀ s ∈ ls, LTree s := fun s hs => by
    obtain ⟨j, hj, e⟩ := List.getElem_of_mem hs
    have hjl : j < l.length := by omega
    obtain ⟨s', e', h1, h2⟩ := Least_tot hm (ho l[j] (List.getElem_mem hjl))
    have := hls j l[j] s (List.getElem?_eq_getElem (by omega)) (by rw [List.getElem?_eq_getElem hj, e])
    rw [this] at h1
    cases h1
    exact h2 rfl
  rw [containsT (f0 := fun y0 => pickle_Put_1.f m y0) (g := fun t => t.nodes.any fun n => n.kind == 4) (by omega) (by omega) (fun t ht => put1_spec (by have := (hL t ht).few; omega) (by have := (hL t ht).few; omega))] at hno
  have hno := Option.some.inj hno
  have hW : ∀ t ∈ ls, LTree t ∧ WTree t := fun t ht => ⟨hL t ht, (hL t ht).w (by simpa using List.any_eq_false.1 hno t ht)⟩
  have := encTrees_len hW
  exact ⟨fun t ht => (hW t ht).2, by omega⟩
end Go.Proofs.YtmekcfdllhphlaaDoor

namespace Go.R
open Go
def Cnt {X : Type} (F : CallF → Option X) : Prop := ∀ cf x, F cf = some x → ∃ l : List (FuncId × List AV × AHeap × (AV × AHeap)), (∀ e ∈ l, cf e.1 e.2.1 e.2.2.1 = some e.2.2.2) ∧ ∀ cf' : CallF, (∀ e ∈ l, cf' e.1 e.2.1 e.2.2.1 = some e.2.2.2) → F cf' = some x
theorem cnt_const {X : Type} (x : Option X) : Cnt fun _ => x := by
  intro cf y h
  refine ⟨[], ?_, fun _ _ => h⟩
  intro e he; cases he
theorem cnt_call (f : FuncId) (args : List AV) (h : AHeap) : Cnt fun cf => cf f args h := by
  intro cf x hx
  refine ⟨[(f, args, h, x)], ?_, fun cf' h' => h' (f, args, h, x) (List.mem_singleton.2 rfl)⟩
  intro e he; cases (List.mem_singleton.1 he); exact hx
theorem cnt_bind {X Y : Type} {F : CallF → Option X} {G : X → CallF → Option Y} (hF : Cnt F) (hG : ∀ y, Cnt (G y)) : Cnt fun cf => (F cf).bind fun y => G y cf := fun cf z hz => by
  obtain ⟨y, h1, h2⟩ := Option.bind_eq_some_iff.1 hz
  obtain ⟨l1, a1, b1⟩ := hF cf y h1
  obtain ⟨l2, a2, b2⟩ := hG y cf z h2
  refine ⟨l1 ++ l2, fun e he => (List.mem_append.1 he).elim (a1 e) (a2 e), fun cf' h' => ?_⟩
  have e1 := b1 cf' fun e he => h' e (List.mem_append_left _ he)
  have e2 := b2 cf' fun e he => h' e (List.mem_append_right _ he)
  show (F cf').bind _ = _
  rw [e1, Option.bind_some, e2]
theorem cnt_map {X Y : Type} {F : CallF → Option X} {g : X → Y} (hF : Cnt F) : Cnt fun cf => (F cf).map g := by
  intro cf x hx
  obtain ⟨y, h1, h2⟩ := Option.map_eq_some_iff.1 hx
  obtain ⟨l, a, b⟩ := hF cf y h1
  refine ⟨l, a, fun cf' h' => ?_⟩
  show (F cf').map g = some x
  rw [b cf' h', Option.map_some, h2]
theorem cnt_ite {X : Type} {c : Prop} [Decidable c] {F G : CallF → Option X} (hF : Cnt F) (hG : Cnt G) : Cnt fun cf => if c then F cf else G cf := by
  by_cases h : c
  · simp only [h, if_true]; exact hF
  · simp only [h, if_false]; exact hG
section
variable {P : Program} {locs ds : List Nat}
theorem cnt_same {X : Type} {F : CallF → Option X} (h : ∀ cf cf', F cf = F cf') : Cnt F := by
  intro cf x hx
  refine ⟨[], ?_, fun cf' _ => (h cf' cf).trans hx⟩
  intro e he; cases he
theorem opE_cnt (e : Operand → AV) (s : RS) (o : Oper) : Cnt fun cf => opE P cf locs ds e s o := by
  obtain ⟨dst, op, type, pos, after, guard⟩ := o
  cases op with
  | call c =>
    obtain ⟨callee, args, at_⟩ := c
    cases callee with
    | value f =>
      simp only [opE]
      cases e f with
      | fn f cap => exact cnt_ite (cnt_map (cnt_call _ _ _)) (cnt_const _)
      | _ => exact cnt_const _
    | _ => exact cnt_same fun _ _ => rfl
  | makeFunc fn first cap => cases fn <;> exact cnt_same fun _ _ => rfl
  | makeMap t r => cases r <;> exact cnt_same fun _ _ => rfl
  | _ => exact cnt_same fun _ _ => rfl
theorem stepA_cnt (ops : List Oper) (s : RS) (o : Oper) : Cnt fun cf => stepA P cf locs ops s o := by
  refine cnt_bind (cnt_const (wantedA ops s.ρ o)) fun w => ?_
  exact cnt_ite (opE_cnt _ _ _) (cnt_const _)
theorem runA_cnt (ops : List Oper) : ∀ (os : List Oper) (s : RS), Cnt fun cf => runA P cf locs ops s os
  | [], s => cnt_const _
  | o :: os, s => cnt_bind (stepA_cnt ops s o) fun s' => runA_cnt ops os s'
theorem runD_cnt (ops : List Oper) : ∀ (os : List Oper) (s : RS), Cnt fun cf => runD P cf locs ops s os
  | [], s => cnt_const _
  | o :: os, s => cnt_bind (cnt_const (wantedA ops s.ρ o)) fun w => cnt_bind (cnt_ite (opE_cnt _ _ _) (cnt_const _)) fun s1 => cnt_map (runD_cnt ops os s1)
theorem drawsA_cnt (ops : Array Oper) (s : RS) : Cnt fun cf => drawsA P cf locs ops s := by
  unfold drawsA
  exact cnt_ite (cnt_bind (runD_cnt _ _ _) fun x => cnt_const _) (cnt_const _)
theorem iterA_cnt {f : CallF → St → Option (Ex × St)} (hf : ∀ s, Cnt fun cf => f cf s) : ∀ (n : Nat) (s : St), Cnt fun cf => iterA (f cf) n s
  | 0, s => cnt_const _
  | n + 1, s => cnt_bind (hf s) fun x => by
    obtain ⟨x, s'⟩ := x
    cases x with
    | norm => exact iterA_cnt hf n s'
    | _ => exact cnt_const _
theorem execA_cnt (A : Ann) (n : Nat) : ∀ (c : Code) (s : St), Cnt fun cf => execA P cf A n c s
  | .skip, s => by simp only [execA]; exact cnt_const _
  | .label _, s => by simp only [execA]; exact cnt_const _
  | .ret, s => by simp only [execA]; exact cnt_const _
  | .exit _, s => by simp only [execA]; exact cnt_const _
  | .seq a b, s => by
    simp only [execA]
    exact cnt_bind (execA_cnt A n a s) fun x => by
      obtain ⟨x, s'⟩ := x
      cases x with
      | norm => exact execA_cnt A n b s'
      | _ => exact cnt_const _
  | .cond k x y, s => by
    simp only [execA]
    exact cnt_bind (cnt_const _) fun t => cnt_ite (execA_cnt A n x s) (execA_cnt A n y s)
  | .block id b, s => by simp only [execA]; exact cnt_map (execA_cnt A n b s)
  | .loop b, s => by simp only [execA]; exact iterA_cnt (fun s => execA_cnt A n b s) n s
  | .region r ops draw, s => by
    simp only [execA]
    exact cnt_bind (cnt_const _) fun s => cnt_bind (cnt_ite (drawsA_cnt _ _) (runA_cnt _ _ _)) fun s' => cnt_const _
  | .rangeFunc .., s => by simp only [execA]; exact cnt_const _
  | .scope _, s => by simp only [execA]; exact cnt_const _
  | .goto _, s => by simp only [execA]; exact cnt_const _
  | .refuse _, s => by simp only [execA]; exact cnt_const _
theorem bodyA_cnt (ann : FuncId → Ann) (m : Nat) (f : FuncId) (args : List AV) (h : AHeap) : Cnt fun cf => bodyA P ann cf m f args h := by
  unfold bodyA
  refine cnt_bind (cnt_const _) fun fn => cnt_bind (cnt_const _) fun c => cnt_ite (cnt_bind (execA_cnt _ _ _ _) fun x => cnt_const _) (cnt_const _)
end
def stepF (P : Program) (T : Tells) (m : Nat) (cf : CallF) : CallF := fun f args h =>
  match T.intr f with
  | some g => g args h
  | none =>
    match T.pure f with
    | some deep => if noIds args then (bodyA P T.ann cf m f (unexs args) heap0).bind fun x => (freezeA x.2 deep x.1).map fun r => (r, h) else
        match freezeAs h deep args with
        | some zs => (bodyA P T.ann cf m f zs heap0).bind fun x => (freezeB x.2 deep x.1).map fun r => (r, h)
        | none => bodyA P T.ann cf m f (args.map canonArg) h
    | none => bodyA P T.ann cf m f (args.map canonArg) h
section
variable {P : Program} {T : Tells} {m : Nat}
theorem stepF_cnt (f : FuncId) (args : List AV) (h : AHeap) : Cnt fun cf => stepF P T m cf f args h := by
  unfold stepF
  cases T.intr f with
  | some g => exact cnt_const _
  | none =>
    cases T.pure f with
    | none => exact bodyA_cnt _ _ _ _ _
    | some deep =>
      refine cnt_ite (cnt_bind (bodyA_cnt _ _ _ _ _) fun x => cnt_const _) ?_
      cases freezeAs h deep args with
      | none => exact bodyA_cnt _ _ _ _ _
      | some zs => exact cnt_bind (bodyA_cnt _ _ _ _ _) fun x => cnt_const _
theorem callA_mono : ∀ (n : Nat) (f : FuncId) (args : List AV) (h : AHeap) (x : AV × AHeap), callA P T m n f args h = some x → callA P T m (n + 1) f args h = some x
  | 0, f, args, h, x, hc => by simp [callA] at hc
  | n + 1, f, args, h, x, hc => by
    obtain ⟨l, h1, h2⟩ := stepF_cnt (P := P) (T := T) (m := m) f args h _ _ hc
    exact h2 (callA P T m (n + 1)) fun e he => callA_mono n _ _ _ _ (h1 e he)
theorem callA_le {n k : Nat} (hk : n ≤ k) {f : FuncId} {args : List AV} {h : AHeap} {x : AV × AHeap} (hc : callA P T m n f args h = some x) : callA P T m k f args h = some x := by
  induction hk with
  | refl => exact hc
  | step _ ih => exact callA_mono _ _ _ _ _ ih
open Classical in
noncomputable def callW (P : Program) (T : Tells) (m : Nat) : CallF := fun f args h => if H : ∃ x n, callA P T m n f args h = some x then some (Classical.choose H) else none
theorem callW_iff {f : FuncId} {args : List AV} {h : AHeap} {x : AV × AHeap} : callW P T m f args h = some x ↔ ∃ n, callA P T m n f args h = some x := by
  have key : ∀ (H : ∃ x n, callA P T m n f args h = some x) (n : Nat), callA P T m n f args h = some x → Classical.choose H = x := fun H n hn => by
    obtain ⟨k, hk⟩ := Classical.choose_spec H
    have h1 := callA_le (Nat.le_max_left n k) hn
    have h2 := callA_le (Nat.le_max_right n k) hk
    rw [h1] at h2
    exact (Option.some.inj h2).symm
  unfold callW
  constructor
  · intro hc
    split at hc
    · rename_i H
      obtain ⟨n, hn⟩ := Classical.choose_spec H
      cases hc
      exact ⟨n, hn⟩
    · cases hc
  · rintro ⟨n, hn⟩
    have H : ∃ x n, callA P T m n f args h = some x := ⟨x, n, hn⟩
    rw [dif_pos H, key H n hn]
theorem callW_all (l : List (FuncId × List AV × AHeap × (AV × AHeap))) (hl : ∀ e ∈ l, callW P T m e.1 e.2.1 e.2.2.1 = some e.2.2.2) : ∃ n, ∀ e ∈ l, callA P T m n e.1 e.2.1 e.2.2.1 = some e.2.2.2 := by
  induction l with
  | nil => exact ⟨0, fun e he => by cases he⟩
  | cons a l ih =>
    obtain ⟨n, hn⟩ := ih fun e he => hl e (List.mem_cons_of_mem _ he)
    obtain ⟨k, hk⟩ := callW_iff.1 (hl a List.mem_cons_self)
    refine ⟨max n k, fun e he => ?_⟩
    rcases List.mem_cons.1 he with rfl | he
    · exact callA_le (Nat.le_max_right n k) hk
    · exact callA_le (Nat.le_max_left n k) (hn e he)
theorem callW_fix {f : FuncId} {args : List AV} {h : AHeap} {x : AV × AHeap} (hc : stepF P T m (callW P T m) f args h = some x) : callW P T m f args h = some x := by
  obtain ⟨l, h1, h2⟩ := stepF_cnt (P := P) (T := T) (m := m) f args h _ _ hc
  obtain ⟨n, hn⟩ := callW_all l h1
  exact callW_iff.2 ⟨n + 1, h2 (callA P T m n) hn⟩
theorem callW_ok (hP : Fit P) (hintr : IntrOK P T.intr) : CallOK P (callW P T m) := fun f args h r h' hc => by
  obtain ⟨n, hn⟩ := callW_iff.1 hc
  exact callA_ok hP hintr m n f args h r h' hn
theorem has_heap0 : Has heap0 [] := ⟨fun j i c h => by simp at h, fun j j' i c c' h => by simp at h, Nat.zero_lt_one⟩
end
section
variable {P : Program} {T : Tells} {m f deep : Nat} {h : AHeap} {xs ys : List AV} {y : AV} {x : AV × AHeap}
theorem fx_pure (h1 : T.intr f = none) (h2 : T.pure f = some deep) (hd : bigN + 1000 ≤ deep) (hx : PureS xs ys) (hb : ∃ r h', bodyA P T.ann (callW P T m) m f ys heap0 = some (r, h') ∧ Frz h' r y) : callW P T m f xs h = some (y, h) := by
  obtain ⟨r, h', hb, hf⟩ := hb
  refine callW_fix ?_
  simp only [stepF, h1, h2, hx.1, if_true, hx.2, hb, Option.bind_some, hf deep hd, Option.map_some]
theorem fx_fresh (h1 : T.intr f = none) (h2 : T.pure f = some deep) (hd : bigN + 1000 ≤ deep) (hx : FrzS 1000 h xs ys) (hb : ∃ r h', bodyA P T.ann (callW P T m) m f ys heap0 = some (r, h') ∧ Frb h' r y) : callW P T m f xs h = some (y, h) := by
  have h3 := hx deep hd
  by_cases hn : noIds xs = true
  · have := freezeAs_noIds deep xs ys hn h3
    obtain ⟨r, h', hb, hf⟩ := hb
    exact fx_pure h1 h2 hd ⟨hn, this.symm⟩ ⟨r, h', hb, hf.frz⟩
  · obtain ⟨r, h', hb, hf⟩ := hb
    refine callW_fix ?_
    simp only [stepF, h1, h2, hn, if_false, h3, hb, Option.bind_some, hf deep hd, Option.map_some]
    simp
theorem fx_im (h1 : T.intr f = none) (h2 : T.pure f = none) (hx : xs.map canonArg = ys) (hb : bodyA P T.ann (callW P T m) m f ys h = some x) : callW P T m f xs h = some x := by
  refine callW_fix ?_
  simp only [stepF, h1, h2, hx, hb]
theorem fx_ro (h1 : T.intr f = none) (h2 : T.pure f = none) (hx : xs.map canonArg = ys) (hb : ∃ r h', bodyA P T.ann (callW P T m) m f ys h = some (r, h') ∧ r = y ∧ h' = h) : callW P T m f xs h = some (y, h) := by
  obtain ⟨r, h', hb, rfl, rfl⟩ := hb
  exact fx_im h1 h2 hx hb
theorem fx_intr {g : List AV → AHeap → Option (AV × AHeap)} (h1 : T.intr f = some g) (hx : g xs h = some x) : callW P T m f xs h = some x := by
  refine callW_fix ?_
  simp only [stepF, h1, hx]
theorem fx_intr_eq {g : List AV → AHeap → Option (AV × AHeap)} (h1 : T.intr f = some g) : callW P T m f xs h = g xs h := by
  cases hg : g xs h with
  | some x => exact fx_intr h1 hg
  | none =>
    cases hc : callW P T m f xs h with
    | none => rfl
    | some x =>
      obtain ⟨n, hn⟩ := callW_iff.1 hc
      cases n with
      | zero => simp [callA] at hn
      | succ n => simp only [callA, h1, hg] at hn; cases hn
end
end Go.R

namespace Go.Proofs.YtmekcfdllhphlaaDoor
open Go Go.R Go.Shelf
def ren : Ren := {
  f := (fun x => match x with | 178 => 101 | 179 => 53 | 181 => 98 | 184 => 99 | 251 => 72 | 252 => 73 | 290 => 100 | 324 => 117 | n => n),
  t := (fun x => match x with | 0 => 0 | 3 => 3 | 4 => 4 | 5 => 5 | 9 => 9 | 20 => 20 | 37 => 25 | 75 => 85 | 80 => 93 | 91 => 79 | 93 => 81 | 130 => 104 | 131 => 100 | n => n),
  g := (fun x => match x with | 14 => 0 | n => n) }
theorem lays179 : LaysM.n179 Tryd.prog ren := {
  mixed := by kernel_rfl,
  f179 := Tryd.func53.trans (congrArg some (by kernel_rfl)),
  f181 := Tryd.func98.trans (congrArg some (by kernel_rfl)),
  f184 := Tryd.func99.trans (congrArg some (by kernel_rfl)),
  f251 := Tryd.func72.trans (congrArg some (by kernel_rfl)),
  f252 := Tryd.func73.trans (congrArg some (by kernel_rfl)),
  f290 := Tryd.func100.trans (congrArg some (by kernel_rfl)),
  f324 := Tryd.func117.trans (congrArg some (by kernel_rfl)),
  t0 := Tryd.underlying0,
  a0 := Tryd.isAgg0,
  z0 := Tryd.sizeOf0,
  v0 := Tryd.zeroValue0,
  t3 := Tryd.underlying3,
  a3 := Tryd.isAgg3,
  z3 := Tryd.sizeOf3,
  v3 := Tryd.zeroValue3,
  t4 := Tryd.underlying4,
  a4 := Tryd.isAgg4,
  z4 := Tryd.sizeOf4,
  v4 := Tryd.zeroValue4,
  t5 := Tryd.underlying5,
  a5 := Tryd.isAgg5,
  z5 := Tryd.sizeOf5,
  v5 := Tryd.zeroValue5,
  t20 := Tryd.underlying20,
  a20 := Tryd.isAgg20,
  z20 := Tryd.sizeOf20,
  v20 := Tryd.zeroValue20,
  t37 := Tryd.underlying25,
  a37 := Tryd.isAgg25,
  z37 := Tryd.sizeOf25,
  v37 := Tryd.zeroValue25,
  t75 := Tryd.underlying85,
  a75 := Tryd.isAgg85,
  z75 := Tryd.sizeOf85,
  v75 := Tryd.zeroValue85,
  t91 := Tryd.underlying79,
  a91 := Tryd.isAgg79,
  z91 := Tryd.sizeOf79,
  v91 := Tryd.zeroValue79,
  t93 := Tryd.underlying81,
  a93 := Tryd.isAgg81,
  z93 := Tryd.sizeOf81,
  v93 := Tryd.zeroValue81,
  t130 := Tryd.underlying104,
  a130 := Tryd.isAgg104,
  z130 := Tryd.sizeOf104,
  v130 := Tryd.zeroValue104,
  t131 := Tryd.underlying100,
  a131 := Tryd.isAgg100,
  z131 := Tryd.sizeOf100,
  v131 := Tryd.zeroValue100,
  g14 := by kernel_rfl,
  t9 := Tryd.underlying9,
  a9 := Tryd.isAgg9,
  z9 := Tryd.sizeOf9,
  v9 := Tryd.zeroValue9,
  t80 := Tryd.underlying93,
  a80 := Tryd.isAgg93,
  z80 := Tryd.sizeOf93,
  v80 := Tryd.zeroValue93,
  i0 := by kernel_rfl,
  i3 := by kernel_rfl,
  i4 := by kernel_rfl,
  i5 := by kernel_rfl,
  i9 := by kernel_rfl,
  i20 := by kernel_rfl,
  i37 := by kernel_rfl,
  i75 := by kernel_rfl,
  i80 := by kernel_rfl,
  i91 := by kernel_rfl,
  i93 := by kernel_rfl,
  i130 := by kernel_rfl,
  i131 := by kernel_rfl,
  m14 := by kernel_rfl }
theorem lays178 : LaysM.n178 Tryd.prog ren := {
  mixed := by kernel_rfl,
  f178 := Tryd.func101.trans (congrArg some (by kernel_rfl)),
  f181 := Tryd.func98.trans (congrArg some (by kernel_rfl)),
  f184 := Tryd.func99.trans (congrArg some (by kernel_rfl)),
  f251 := Tryd.func72.trans (congrArg some (by kernel_rfl)),
  f252 := Tryd.func73.trans (congrArg some (by kernel_rfl)),
  f290 := Tryd.func100.trans (congrArg some (by kernel_rfl)),
  f324 := Tryd.func117.trans (congrArg some (by kernel_rfl)),
  t0 := Tryd.underlying0,
  a0 := Tryd.isAgg0,
  z0 := Tryd.sizeOf0,
  v0 := Tryd.zeroValue0,
  t3 := Tryd.underlying3,
  a3 := Tryd.isAgg3,
  z3 := Tryd.sizeOf3,
  v3 := Tryd.zeroValue3,
  t4 := Tryd.underlying4,
  a4 := Tryd.isAgg4,
  z4 := Tryd.sizeOf4,
  v4 := Tryd.zeroValue4,
  t9 := Tryd.underlying9,
  a9 := Tryd.isAgg9,
  z9 := Tryd.sizeOf9,
  v9 := Tryd.zeroValue9,
  t20 := Tryd.underlying20,
  a20 := Tryd.isAgg20,
  z20 := Tryd.sizeOf20,
  v20 := Tryd.zeroValue20,
  t37 := Tryd.underlying25,
  a37 := Tryd.isAgg25,
  z37 := Tryd.sizeOf25,
  v37 := Tryd.zeroValue25,
  t75 := Tryd.underlying85,
  a75 := Tryd.isAgg85,
  z75 := Tryd.sizeOf85,
  v75 := Tryd.zeroValue85,
  t91 := Tryd.underlying79,
  a91 := Tryd.isAgg79,
  z91 := Tryd.sizeOf79,
  v91 := Tryd.zeroValue79,
  t93 := Tryd.underlying81,
  a93 := Tryd.isAgg81,
  z93 := Tryd.sizeOf81,
  v93 := Tryd.zeroValue81,
  t130 := Tryd.underlying104,
  a130 := Tryd.isAgg104,
  z130 := Tryd.sizeOf104,
  v130 := Tryd.zeroValue104,
  t131 := Tryd.underlying100,
  a131 := Tryd.isAgg100,
  z131 := Tryd.sizeOf100,
  v131 := Tryd.zeroValue100,
  g14 := by kernel_rfl,
  t5 := Tryd.underlying5,
  a5 := Tryd.isAgg5,
  z5 := Tryd.sizeOf5,
  v5 := Tryd.zeroValue5,
  t80 := Tryd.underlying93,
  a80 := Tryd.isAgg93,
  z80 := Tryd.sizeOf93,
  v80 := Tryd.zeroValue93,
  i0 := by kernel_rfl,
  i3 := by kernel_rfl,
  i4 := by kernel_rfl,
  i5 := by kernel_rfl,
  i9 := by kernel_rfl,
  i20 := by kernel_rfl,
  i37 := by kernel_rfl,
  i75 := by kernel_rfl,
  i80 := by kernel_rfl,
  i91 := by kernel_rfl,
  i93 := by kernel_rfl,
  i130 := by kernel_rfl,
  i131 := by kernel_rfl,
  m14 := by kernel_rfl }
theorem fits : Fit Tryd.prog := fit_of (by kernel_rfl) (by kernel_rfl)
theorem enter53 : ∀ (vs : Array Value) (w : World), (callFunc (ren.f 179) vs).run Tryd.prog w = .ok (.enter (ren.f 179) vs) w :=
  callFunc_enter (c := codeOf Tryd.f53) Tryd.func53 (by kernel_rfl) (by decide +kernel)
theorem enter101 : ∀ (vs : Array Value) (w : World), (callFunc (ren.f 178) vs).run Tryd.prog w = .ok (.enter (ren.f 178) vs) w :=
  callFunc_enter (c := codeOf Tryd.f101) Tryd.func101 (by kernel_rfl) (by decide +kernel)
noncomputable def intrB : FuncId → Option (List AV → AHeap → Option (AV × AHeap)) := fun f => if f = 53 then some (wbA 5) else if f = 101 then some (wsA 5) else none
theorem intrB_ok : IntrOK Tryd.prog intrB := intr_cons (f0 := 53) (wb_ok lays179 enter53) wb_steady (intr_cons (f0 := 101) (ws_ok lays178 enter101) ws_steady intr_none)
end Go.Proofs.YtmekcfdllhphlaaDoor

namespace Go.Proofs.YtmekcfdllhphlaaDoor
open Go Go.R
open Go.IntKind (i64 u64 u8 u32)
def annQ : Nat → Ann
  | 4 => ann4
  | 13 => { keep := [0, 1, 2, 3, 4, 5, 6, 7, 8, 9, 10], locs := [9] }
  | 14 => ann14
  | 16 => ann16
  | 18 => ann18
  | 19 => ann19
  | 21 => ann21
  | 28 => { keep := [0, 2], locs := [2], dead := [(1, [0])], frz := [], frz2 := [] }
  | 29 => { keep := [0], locs := [0], dead := [], frz := [], frz2 := [] }
  | 30 => { keep := [0, 1, 4], locs := [], dead := [(0, [4]), (1, [0, 1])], frz := [], frz2 := [] }
  | 31 => ann31
  | 32 => ann32
  | 33 => ann33
  | 34 => ann34
  | 35 => ann35
  | 36 => ann36
  | 41 => ann41
  | 42 => ann42
  | 43 => ann43
  | 44 => ann44
  | 45 => ann45
  | 47 => ann47
  | 51 => ann51
  | 52 => ann52
  | 53 => { keep := [0, 1, 4, 5, 6, 16], locs := [] }
  | 54 => ann54
  | 55 => ann55
  | 56 => { keep := [0, 2], locs := [] }
  | 59 => ann59
  | 60 => ann60
  | 61 => ann61
  | 62 => ann62
  | 65 => ann65
  | 67 => ann67
  | 68 => ann68
  | 74 => ann74
  | 77 => ann77
  | 78 => ann78
  | 79 => ann79
  | 80 => ann80
  | 81 => ann81
  | 82 => ann82
  | 83 => ann83
  | 84 => ann84
  | 85 => ann85
  | 101 => { keep := [0, 1, 4, 5, 6, 7, 19], locs := [] }
  | 106 => ann106
  | 107 => ann107
  | 108 => ann108
  | 109 => ann109
  | 110 => ann110
  | 118 => ann118
  | 119 => ann119
  | 120 => ann120
  | 122 => ann122
  | 123 => ann123
  | _ => { keep := [], locs := [] }
def deepQ : Nat := 1125899906850000
theorem deepQ_ok : bigN + 1000 ≤ deepQ := by decide
def pureQ : Nat → Option Nat
  | 4 => some deepQ
  | 13 => some deepQ
  | 14 => some deepQ
  | 16 => some deepQ
  | 18 => some deepQ
  | 19 => some deepQ
  | 21 => some deepQ
  | 28 => some deepQ
  | 29 => some deepQ
  | 30 => some deepQ
  | 31 => some deepQ
  | 33 => some deepQ
  | 35 => some deepQ
  | 36 => some deepQ
  | 41 => some deepQ
  | 42 => some deepQ
  | 45 => some deepQ
  | 47 => some deepQ
  | 62 => some deepQ
  | 65 => some deepQ
  | 67 => some deepQ
  | 77 => some deepQ
  | 80 => some deepQ
  | 81 => some deepQ
  | 82 => some deepQ
  | 83 => some deepQ
  | 106 => some deepQ
  | 108 => some deepQ
  | 109 => some deepQ
  | 118 => some deepQ
  | _ => none
def M : Nat := 2199023255552
noncomputable def toldP : Tells := { ann := annQ, intr := intrB, pure := fun _ => none }
theorem has_nil {h : AHeap} (hp : 0 < h.next) : Has h [] := ⟨fun j i c h => by simp at h, fun j j' i c c' h => by simp at h, hp⟩
theorem g56_eq : codeOf Tryd.f56 = (.seq (sub [0] (codeOf Tryd.f56)) (.seq (sub [1, 0] (codeOf Tryd.f56)) .ret)) := by kernel_rfl
theorem bytes_body {cf : CallF} {id i n : Nat} {h : AHeap} {cs : List AV} (h1 : h.get id = some (.cells [.rs i 0 n 1, .int .i64 0, .int .i8 0])) :
    ∃ r h', bodyA Tryd.prog annQ cf M 56 [.ptr id 0] h = some (r, h') ∧ r = .rs i 0 n 1 ∧ h' = h := by
  refine body_of_ends2 (fn := Tryd.f56) (A := { keep := [0, 2], locs := [] }) rfl Tryd.func56 (by kernel_rfl) (by kernel_rfl) ?_
  refine ends_fin (Q := fun s => resultA Tryd.prog (s.open { keep := [0, 2], locs := [] }) Tryd.f56.results.toList = some (.rs i 0 n 1) ∧ s.h = h) (fun _ _ ⟨h1, h2, h3⟩ => ⟨h1, _, h2, rfl, h3⟩) ?_
  refine ends_of_eq g56_eq ?_
  show Enz _ cf _ M _ ⟨[.ptr id 0, .any], [], h⟩ _
  refine ends_seq ?_
  refine ends_reg (fs := []) (zs := []) (st' := ⟨[.ptr id 0, .nils], [], h⟩) (p := (True) ∧ True) (by kernel_rfl) ⟨trivial, trivial⟩ ?_
  refine ends_seq ?_
  refine ends_reg (fs := []) (zs := [(3, .rs i 0 n 1, none), (7, .int .i64 0, none), (8, .rs i 0 n 1, none)]) (st' := ⟨[.ptr id 0, .rs i 0 n 1], [], h⟩) (p := (True) ∧ loadH Tryd.prog h 25 (.ptr id 0) = some (.rs i 0 n 1) ∧ loadH Tryd.prog h 3 (.ptr id 1) = some (.int .i64 0) ∧ sliceA Tryd.prog 25 (.rs i 0 n 1) (some (.int .i64 0)) none none = some (.rs i 0 n 1) ∧ True) (by kernel_rfl) ⟨trivial, ⟨?_, ?_, ?_, trivial⟩⟩ ?_
  · simp only [loadH, loadA, h1, Option.bind_some]; kernel_rfl
  · simp only [loadH, loadA, h1, Option.bind_some]; kernel_rfl
  · have e1 : Tryd.prog.underlying 25 = some (.slice 5) := Tryd.underlying25
    have e2 : szOf Tryd.prog 5 = some 1 := by kernel_rfl
    simp [sliceA, e1, e2, boundsA]
  refine ends_ret ?_
  exact ⟨.inl rfl, by kernel_rfl, rfl⟩
noncomputable def intrQ : FuncId → Option (List AV → AHeap → Option (AV × AHeap)) := fun f => if f = 56 then some (fun args h => (callA Tryd.prog toldP M 1 56 args h).bind plainA) else intrB f
theorem intrQ_ok : IntrOK Tryd.prog intrQ := intr_cons (plain_ok (callA_ok fits (T := toldP) intrB_ok M 1) 56) (plain_steady (callA_steady (T := toldP) intrB_ok M 1) 56) intrB_ok
noncomputable def toldQ : Tells := { ann := annQ, intr := intrQ, pure := pureQ }
noncomputable def cfQ : CallF := callW Tryd.prog toldQ M
theorem cfQ_ok : CallOK Tryd.prog cfQ := callW_ok fits (T := toldQ) intrQ_ok
theorem j53 : S53 cfQ M := fun args h => fx_intr_eq (T := toldQ) rfl
theorem j101 : S101 cfQ M := fun args h => fx_intr_eq (T := toldQ) rfl
theorem j56 : S56 cfQ M := by
  intro id i n cs h h1 h2 h3 h4 h5
  refine fx_intr (T := toldQ) rfl ?_
  obtain ⟨r, h', hb, rfl, rfl⟩ := bytes_body (cf := callA Tryd.prog toldP M 0) (cs := cs) h1
  have : callA Tryd.prog toldP M 1 56 [.ptr id 0] h' = some (.rs i 0 n 1, h') := hb
  simp only [this, Option.bind_some, plainA, h2]
end Go.Proofs.YtmekcfdllhphlaaDoor

namespace Go.Proofs.YtmekcfdllhphlaaDoor
open Go Go.R
open Go.IntKind (i64 u64 u8 u32)
theorem awake_run : (bodyA Tryd.prog annQ (callA Tryd.prog toldQ M 98) M 13 [] heap0).map (fun x => x.1) = some (.bool true) := by kernel_rfl
theorem j13 : S13 cfQ M := by
  intro r H h xs hx
  have H : some true = some r := H
  cases H
  obtain ⟨⟨x, h'⟩, hb, e⟩ := Option.map_eq_some_iff.1 awake_run
  dsimp only at e
  subst e
  obtain ⟨l, h1, h2⟩ := bodyA_cnt (P := Tryd.prog) annQ M 13 [] heap0 _ _ hb
  have hb := h2 cfQ fun e he => callW_iff.2 ⟨_, h1 e he⟩
  exact fx_fresh (T := toldQ) (deep := deepQ) rfl rfl deepQ_ok hx ⟨_, _, hb, frb (fb_bool)⟩
end Go.Proofs.YtmekcfdllhphlaaDoor

namespace Go.Proofs.YtmekcfdllhphlaaDoor
open Go Go.R
open Go.IntKind (i64 u64 u8 u32)
theorem j18 : S18 cfQ M := by
  intro a0 b0 r H h xs hx
  exact fx_fresh (T := toldQ) (deep := deepQ) rfl rfl deepQ_ok hx (ref20_Graph_body (cf := cfQ) (m := M) (ann := annQ) rfl  a0 b0 heap0 [] has_heap0 H)
theorem j21 : S21 cfQ M := by
  intro b0 r H h xs hx
  exact fx_fresh (T := toldQ) (deep := deepQ) rfl rfl deepQ_ok hx (pickle_Sum_body (cf := cfQ) (m := M) (ann := annQ) rfl  b0 heap0 [] has_heap0 H)
theorem j35 : S35 cfQ M := by
  intro n0 r H h xs hx
  exact fx_fresh (T := toldQ) (deep := deepQ) rfl rfl deepQ_ok hx (pickle_named_body (cf := cfQ) (m := M) (ann := annQ) rfl  n0 heap0 [] has_heap0 H)
theorem j41 : S41 cfQ M := by
  intro a0 b0 r H h xs hx
  exact fx_fresh (T := toldQ) (deep := deepQ) rfl rfl deepQ_ok hx (bytes_Equal_body (cf := cfQ) (m := M) (ann := annQ) rfl  a0 b0 heap0 [] has_heap0 H)
theorem j42 : S42 cfQ M := by
  intro b0 r H h xs hx
  exact fx_fresh (T := toldQ) (deep := deepQ) rfl rfl deepQ_ok hx (pickle_check_body (cf := cfQ) (m := M) (ann := annQ) rfl j21 b0 heap0 [] has_heap0 H)
theorem j51 : S51 cfQ M := by
  intro s0 f0 r H h hpos g1_ cap1_ hc1_ Hp1_ xs hx
  exact fx_ro (T := toldQ) rfl rfl hx (IndexFT_body (cf := cfQ) (m := M) (ann := annQ) rfl  s0 f0 h [] g1_ cap1_  hc1_ Hp1_ (has_nil hpos) H)
theorem j52 : S52 cfQ M := by
  intro s0 f0 r H h hpos g1_ cap1_ hc1_ Hp1_ xs hx
  exact fx_ro (T := toldQ) rfl rfl hx (IndexFN_body (cf := cfQ) (m := M) (ann := annQ) rfl  s0 f0 h [] g1_ cap1_  hc1_ Hp1_ (has_nil hpos) H)
theorem j54 : S54 cfQ M := by
  intro w0 n0 r H h L  ad_w0 is_w0_0 o  xs hx
  obtain ⟨r', h', hb, iw0_0, rfl, ho⟩ := wr_number_body (cf := cfQ) (m := M) (ann := annQ) rfl j53 w0 n0 h L ad_w0 is_w0_0  o H
  exact ⟨iw0_0, h', fx_im (T := toldQ) rfl rfl hx hb, ho⟩
theorem j59 : S59 cfQ M := by
  intro r0 r H h L  ad0 o  xs hx
  obtain ⟨r', h', hb, rfl, ho⟩ := rd_byte_body (cf := cfQ) (m := M) (ann := annQ) rfl  r0 h L ad0  o H
  exact ⟨h', fx_im (T := toldQ) rfl rfl hx hb, ho⟩
theorem j68 : ∀ kk, S68 cfQ M kk
  | 0 => by
    intro i0 x0 x1 x2 x3 r H h L  ad_x0 im_x0 ad_x1 ad_x2 is_x2_0 ad_x3 ad_x4 o  xs hx
    cases H
  | kk + 1 => by
    intro i0 x0 x1 x2 x3 r H h L  ad_x0 im_x0 ad_x1 ad_x2 is_x2_0 ad_x3 ad_x4 o  xs hx
    obtain ⟨r', h', hb, iw3_0, rfl, ho⟩ := tree_least_1_body (cf := cfQ) (m := M) (ann := annQ) rfl  i0 x0 x1 x2 x3 h L ad_x0 im_x0 ad_x1 ad_x2 is_x2_0 ad_x3 ad_x4  (j68 kk) o H
    exact ⟨iw3_0, h', fx_im (T := toldQ) rfl rfl hx hb, ho⟩
theorem j74 : S74 cfQ M := by
  intro w0 s0 r H h L  ad_w0 is_w0_0 o  xs hx
  obtain ⟨r', h', hb, iw0_0, rfl, ho⟩ := wr_text_body (cf := cfQ) (m := M) (ann := annQ) rfl j54 j101 w0 s0 h L ad_w0 is_w0_0  o H
  exact ⟨iw0_0, h', fx_im (T := toldQ) rfl rfl hx hb, ho⟩
theorem j79 : S79 cfQ M := by
  intro a0 x0 r H h L qad_x0_ ad_x0 o hqad_x0_
  exact fx_ro (T := toldQ) rfl rfl (can_cons (can_pure (pu_int)) (can_cons (rfl) (can_nil))) (tree_node_1_body (cf := cfQ) (m := M) (ann := annQ) rfl  a0 x0 h L  hqad_x0_ o H)
theorem j80 : S80 cfQ M := by
  intro s0 r H h xs hx
  exact fx_fresh (T := toldQ) (deep := deepQ) rfl rfl deepQ_ok hx (tree_Names_body (cf := cfQ) (m := M) (ann := annQ) rfl  s0 heap0 [] has_heap0 H)
theorem j82 : S82 cfQ M := by
  intro vals0 r H h xs hx
  exact fx_fresh (T := toldQ) (deep := deepQ) rfl rfl deepQ_ok hx (cmp_Or_int_body (cf := cfQ) (m := M) (ann := annQ) rfl  vals0 heap0 [] has_heap0 H)
theorem j107 : S107 cfQ M := by
  intro s0 f0 r H h hpos g1_ cap1_ hc1_ Hp1_ xs hx
  exact fx_ro (T := toldQ) rfl rfl hx (IndexFI_body (cf := cfQ) (m := M) (ann := annQ) rfl  s0 f0 h [] g1_ cap1_  hc1_ Hp1_ (has_nil hpos) H)
theorem j108 : S108 cfQ M := by
  intro x0 r H h xs hx
  exact fx_fresh (T := toldQ) (deep := deepQ) rfl rfl deepQ_ok hx (cmp_isNaN_int_body (cf := cfQ) (m := M) (ann := annQ) rfl  x0 heap0 [] has_heap0 H)
theorem j109 : S109 cfQ M := by
  intro x0 r H h xs hx
  exact fx_fresh (T := toldQ) (deep := deepQ) rfl rfl deepQ_ok hx (cmp_isNaN_string_body (cf := cfQ) (m := M) (ann := annQ) rfl  x0 heap0 [] has_heap0 H)
theorem j118 : S118 cfQ M := by
  intro c0 r H h xs hx
  exact fx_fresh (T := toldQ) (deep := deepQ) rfl rfl deepQ_ok hx (tree_letter_body (cf := cfQ) (m := M) (ann := annQ) rfl  c0 heap0 [] has_heap0 H)
theorem j119 : S119 cfQ M := by
  intro data0 a0 b0 cmp0 r H h L n_data0 ad0 o g3_ cap3_ hc3_ Hp3_ xs hx
  have hn0 : n_data0 = data0.length := has_len (E := eInt) o (q := 0) rfl
  subst hn0
  obtain ⟨r', h', hb, rfl, ho⟩ := insertionSortC_body (cf := cfQ) (m := M) (ann := annQ) rfl  data0 a0 b0 cmp0 h L ad0 g3_ cap3_  hc3_ Hp3_ o H
  exact ⟨h', fx_im (T := toldQ) rfl rfl hx hb, ho⟩
theorem j123 : S123 cfQ M := by
  intro data0 a0 b0 n0 cmp0 r H h L n_data0 ad0 o g4_ cap4_ hc4_ Hp4_ xs hx
  have hn0 : n_data0 = data0.length := has_len (E := eInt) o (q := 0) rfl
  subst hn0
  obtain ⟨r', h', hb, rfl, ho⟩ := swapRangeC_body (cf := cfQ) (m := M) (ann := annQ) rfl  data0 a0 b0 n0 cmp0 h L ad0 g4_ cap4_  hc4_ Hp4_ o H
  exact ⟨h', fx_im (T := toldQ) rfl rfl hx hb, ho⟩
theorem j32 : S32 cfQ M := by
  intro s0 f0 r H h hpos g1_ cap1_ hc1_ Hp1_ xs hx
  exact fx_ro (T := toldQ) rfl rfl hx (ContainsFT_body (cf := cfQ) (m := M) (ann := annQ) rfl j51 s0 f0 h [] g1_ cap1_  hc1_ Hp1_ (has_nil hpos) H)
theorem j34 : S34 cfQ M := by
  intro s0 f0 r H h hpos g1_ cap1_ hc1_ Hp1_ xs hx
  exact fx_ro (T := toldQ) rfl rfl hx (ContainsFN_body (cf := cfQ) (m := M) (ann := annQ) rfl j52 s0 f0 h [] g1_ cap1_  hc1_ Hp1_ (has_nil hpos) H)
theorem j43 : S43 cfQ M := by
  intro r0 r H h L  ad0 o  xs hx
  obtain ⟨r', h', hb, rfl, ho⟩ := rd_number_body (cf := cfQ) (m := M) (ann := annQ) rfl j59 r0 h L ad0  o H
  exact ⟨h', fx_im (T := toldQ) rfl rfl hx hb, ho⟩
theorem j55 : S55 cfQ M := by
  intro w0 n0 r H h L  ad_w0 is_w0_0 o  xs hx
  obtain ⟨r', h', hb, iw0_0, rfl, ho⟩ := wr_node_body (cf := cfQ) (m := M) (ann := annQ) rfl j53 j54 j74 w0 n0 h L ad_w0 is_w0_0  o H
  exact ⟨iw0_0, h', fx_im (T := toldQ) rfl rfl hx hb, ho⟩
theorem j60 : S60 cfQ M := by
  intro r0 r H h L  ad0 o  xs hx
  obtain ⟨r', h', hb, rfl, ho⟩ := rd_text_body (cf := cfQ) (m := M) (ann := annQ) rfl j43 r0 h L ad0  o H
  exact ⟨h', fx_im (T := toldQ) rfl rfl hx hb, ho⟩
theorem j78 : S78 cfQ M := by
  intro s0 f0 r H h hpos g1_ cap1_ hc1_ Hp1_ xs hx
  exact fx_ro (T := toldQ) rfl rfl hx (ContainsFI_body (cf := cfQ) (m := M) (ann := annQ) rfl j107 s0 f0 h [] g1_ cap1_  hc1_ Hp1_ (has_nil hpos) H)
theorem j81 : S81 cfQ M := by
  intro x0 y0 r H h xs hx
  exact fx_fresh (T := toldQ) (deep := deepQ) rfl rfl deepQ_ok hx (cmp_Compare_int_body (cf := cfQ) (m := M) (ann := annQ) rfl j108 x0 y0 heap0 [] has_heap0 H)
theorem j83 : S83 cfQ M := by
  intro x0 y0 r H h xs hx
  exact fx_fresh (T := toldQ) (deep := deepQ) rfl rfl deepQ_ok hx (cmp_Compare_string_body (cf := cfQ) (m := M) (ann := annQ) rfl j109 x0 y0 heap0 [] has_heap0 H)
theorem j106 : S106 cfQ M := by
  intro s0 first0 last0 r H h xs hx
  exact fx_fresh (T := toldQ) (deep := deepQ) rfl rfl deepQ_ok hx (tree_Word_body (cf := cfQ) (m := M) (ann := annQ) rfl j118 s0 first0 last0 heap0 [] has_heap0 H)
theorem j122 : S122 cfQ M := by
  intro data0 a0 m0 b0 cmp0 r H h L n_data0 ad0 o g4_ cap4_ hc4_ Hp4_ xs hx
  have hn0 : n_data0 = data0.length := has_len (E := eInt) o (q := 0) rfl
  subst hn0
  obtain ⟨r', h', hb, rfl, ho⟩ := rotateC_body (cf := cfQ) (m := M) (ann := annQ) rfl j123 data0 a0 m0 b0 cmp0 h L ad0 g4_ cap4_  hc4_ Hp4_ o H
  exact ⟨h', fx_im (T := toldQ) rfl rfl hx hb, ho⟩
theorem j33 : S33 cfQ M := by
  intro t0 r H h xs hx
  exact fx_fresh (T := toldQ) (deep := deepQ) rfl rfl deepQ_ok hx (pickle_Put_1_body (cf := cfQ) (m := M) (ann := annQ) rfl j34 j35 t0 heap0 [] has_heap0 H)
theorem j36 : S36 cfQ M := by
  intro list0 r H h xs hx
  exact fx_fresh (T := toldQ) (deep := deepQ) rfl rfl deepQ_ok hx (pickle_write_body (cf := cfQ) (m := M) (ann := annQ) rfl j42 j53 j54 j55 j56 list0 heap0 [] has_heap0 H)
theorem j44 : S44 cfQ M := by
  intro r0 r H h L  ad0 o  xs hx
  obtain ⟨r', h', hb, rfl, ho⟩ := rd_node_body (cf := cfQ) (m := M) (ann := annQ) rfl j43 j59 j60 r0 h L ad0  o H
  exact ⟨h', fx_im (T := toldQ) rfl rfl hx hb, ho⟩
theorem j65 : S65 cfQ M := by
  intro a0 b0 r H h xs hx
  exact fx_fresh (T := toldQ) (deep := deepQ) rfl rfl deepQ_ok hx (tree_compareTop_body (cf := cfQ) (m := M) (ann := annQ) rfl j81 j82 j83 a0 b0 heap0 [] has_heap0 H)
theorem j77 : S77 cfQ M := by
  intro s0 r H h xs hx
  exact fx_fresh (T := toldQ) (deep := deepQ) rfl rfl deepQ_ok hx (tree_Atom_body (cf := cfQ) (m := M) (ann := annQ) rfl j106 s0 heap0 [] has_heap0 H)
theorem j85 : S85 cfQ M := by
  intro i0 j0 x0 r H h L qad_x0_ ad_x0 o hqad_x0_
  exact fx_ro (T := toldQ) rfl rfl (can_cons (can_pure (pu_int)) (can_cons (can_pure (pu_int)) (can_cons (rfl) (can_nil)))) (tree_classes_1_body (cf := cfQ) (m := M) (ann := annQ) rfl j65 i0 j0 x0 h L  hqad_x0_ o H)
theorem j120 : ∀ kk, S120 cfQ M kk
  | 0 => by
    intro data0 a0 m0 b0 cmp0 r H h L n_data0 ad0 o g4_ cap4_ hc4_ Hp4_ xs hx
    cases H
  | kk + 1 => by
    intro data0 a0 m0 b0 cmp0 r H h L n_data0 ad0 o g4_ cap4_ hc4_ Hp4_ xs hx
    have hn0 : n_data0 = data0.length := has_len (E := eInt) o (q := 0) rfl
    subst hn0
    obtain ⟨r', h', hb, rfl, ho⟩ := symMergeC_body (cf := cfQ) (m := M) (ann := annQ) rfl j122 data0 a0 m0 b0 cmp0 h L ad0 g4_ cap4_  (j120 kk) hc4_ Hp4_ o H
    exact ⟨h', fx_im (T := toldQ) rfl rfl hx hb, ho⟩
theorem j62 : S62 cfQ M := by
  intro n0 size0 r H h xs hx
  exact fx_fresh (T := toldQ) (deep := deepQ) rfl rfl deepQ_ok hx (tree_node_body (cf := cfQ) (m := M) (ann := annQ) rfl j77 j78 j79 j80 n0 size0 heap0 [] has_heap0 H)
theorem j110 : S110 cfQ M := by
  intro data0 n0 cmp0 r H h L n_data0 ad0 o g2_ cap2_ hc2_ Hp2_ xs hx
  have hn0 : n_data0 = data0.length := has_len (E := eInt) o (q := 0) rfl
  subst hn0
  obtain ⟨r', h', hb, rfl, ho⟩ := stableC_body (cf := cfQ) (m := M) (ann := annQ) rfl j119 (j120 _) data0 n0 cmp0 h L ad0 g2_ cap2_  hc2_ Hp2_ o H
  exact ⟨h', fx_im (T := toldQ) rfl rfl hx hb, ho⟩
theorem j61 : S61 cfQ M := by
  intro n0 x0 r H h L qad_x0_ ad_x0 o hqad_x0_
  exact fx_ro (T := toldQ) rfl rfl (can_cons (can_pure (pu_agg (pu_cons (pu_int) (pu_cons (pu_int) (pu_cons (pu_str) (pu_cons (pu_fz (E := eInt)) (pu_nil))))))) (can_cons (rfl) (can_nil))) (tree_Valid_1_body (cf := cfQ) (m := M) (ann := annQ) rfl j62 n0 x0 h L  hqad_x0_ o H)
theorem j84 : S84 cfQ M := by
  intro x0 cmp0 r H h L n_x0 ad0 o g1_ cap1_ hc1_ Hp1_ xs hx
  have hn0 : n_x0 = x0.length := has_len (E := eInt) o (q := 0) rfl
  subst hn0
  obtain ⟨r', h', hb, rfl, ho⟩ := SortStableFI_body (cf := cfQ) (m := M) (ann := annQ) rfl j110 x0 cmp0 h L ad0 g1_ cap1_  hc1_ Hp1_ o H
  exact ⟨h', fx_im (T := toldQ) rfl rfl hx hb, ho⟩
theorem j45 : S45 cfQ M := by
  intro t0 r H h xs hx
  exact fx_fresh (T := toldQ) (deep := deepQ) rfl rfl deepQ_ok hx (tree_Valid_body (cf := cfQ) (m := M) (ann := annQ) rfl j34 j61 t0 heap0 [] has_heap0 H)
theorem j67 : S67 cfQ M := by
  intro nodes0 r H h xs hx
  exact fx_fresh (T := toldQ) (deep := deepQ) rfl rfl deepQ_ok hx (tree_classes_body (cf := cfQ) (m := M) (ann := annQ) rfl j65 j84 j85 nodes0 heap0 [] has_heap0 H)
theorem j47 : S47 cfQ M := by
  intro t0 r H h xs hx
  exact fx_pure (T := toldQ) (deep := deepQ) rfl rfl deepQ_ok hx (tree_least_body (cf := cfQ) (m := M) (ann := annQ) rfl j67 (j68 _) t0 heap0 [] has_heap0 H)
theorem j31 : S31 cfQ M := by
  intro t0 r H h xs hx
  exact fx_pure (T := toldQ) (deep := deepQ) rfl rfl deepQ_ok hx (tree_Least_body (cf := cfQ) (m := M) (ann := annQ) rfl j45 j47 t0 heap0 [] has_heap0 H)
theorem j14 : S14 cfQ M := by
  intro list0 r H h xs hx
  exact fx_pure (T := toldQ) (deep := deepQ) rfl rfl deepQ_ok hx (pickle_Put_body (cf := cfQ) (m := M) (ann := annQ) rfl j31 j32 j33 j36 list0 heap0 [] has_heap0 H)
theorem j16 : S16 cfQ M := by
  intro t0 r H h xs hx
  exact fx_pure (T := toldQ) (deep := deepQ) rfl rfl deepQ_ok hx (pickle_Least_body (cf := cfQ) (m := M) (ann := annQ) rfl j31 t0 heap0 [] has_heap0 H)
theorem j19 : S19 cfQ M := by
  intro b0 r H h xs hx
  exact fx_pure (T := toldQ) (deep := deepQ) rfl rfl deepQ_ok hx (pickle_Get_body (cf := cfQ) (m := M) (ann := annQ) rfl j14 j41 j42 j43 j44 b0 heap0 [] has_heap0 H)
theorem j4 : S4 cfQ M := by
  intro b0 r H h xs hx
  exact fx_fresh (T := toldQ) (deep := deepQ) rfl rfl deepQ_ok hx (law20_PickleRead_body (cf := cfQ) (m := M) (ann := annQ) rfl j13 j14 j16 j18 j19 b0 heap0 [] has_heap0 H)
end Go.Proofs.YtmekcfdllhphlaaDoor

