/- Part of the proof: Q14, Q41, Q19, PR6, PR7, PT1, PT2, PR8, PR9, PT3, PT4, PT5, PT11, Q16. -/
import Derived.Test.YtmekcfdllhphlaaDoorK12
set_option linter.unusedVariables false
set_option linter.unusedSimpArgs false
set_option maxRecDepth 100000
namespace Go.Proofs.YtmekcfdllhphlaaDoor
open Go Go.R
open Go.IntKind (i64 u64 u8 u32)
def ann14 : Ann := { keep := [0, 2, 3, 4, 6, 7, 8, 9, 12, 13, 14, 15, 16, 25, 32, 37], locs := [6, 7], dead := [(0, [2, 3, 4, 6, 7, 8, 9, 12, 13, 14, 15, 16, 25, 32, 37]), (1, [2, 3, 4, 6, 7, 8, 9, 13, 14, 15, 16, 25, 32, 37]), (2, [0, 4, 6, 7, 8, 9, 12, 13, 14, 15, 16, 25, 32, 37]), (3, [2, 3, 6, 7, 8, 9, 12, 13, 14, 15, 16, 25, 32, 37]), (4, [0, 2, 3, 6, 7, 8, 9, 12, 16, 25, 32, 37]), (5, [0, 2, 3, 6, 7, 8, 9, 12, 25, 32, 37]), (6, [0, 2, 3, 7, 8, 9, 12, 16, 25, 32, 37]), (7, [0, 2, 3, 6, 9, 12, 16, 25, 32, 37]), (8, [0, 2, 3, 6, 8, 9, 12, 16, 32, 37]), (9, [0, 4, 6, 7, 8, 9, 12, 13, 14, 15, 16, 25, 32, 37]), (10, [0, 2, 3, 6, 7, 8, 9, 12, 16, 25, 32, 37]), (11, [0, 2, 3, 6, 7, 8, 9, 12, 16, 25, 32, 37]), (12, [0, 2, 3, 6, 7, 8, 9, 12, 13, 14, 15, 16, 25, 37]), (13, [0, 4, 6, 7, 8, 9, 12, 13, 14, 15, 16, 25, 32, 37]), (14, [0, 2, 3, 4, 6, 7, 8, 12, 13, 14, 15, 16, 25, 32, 37]), (15, [0, 2, 3, 4, 6, 7, 8, 12, 13, 14, 15, 16, 25, 32]), (16, [0, 4, 6, 7, 8, 9, 12, 13, 14, 15, 16, 25, 32, 37]), (17, [0, 4, 6, 7, 8, 9, 12, 13, 14, 15, 16, 25, 32, 37])], frz := [(12, [(4, none, 0)])], frz2 := [(3, [(4, none, 2)])] }
noncomputable def g14R0 := sub [0] (codeOf Tryd.f14)
noncomputable def g14R1 := sub [1, 0, 0] (codeOf Tryd.f14)
noncomputable def g14R2 := sub [1, 0, 1, 0, 0] (codeOf Tryd.f14)
noncomputable def g14R3 := sub [1, 1, 0] (codeOf Tryd.f14)
noncomputable def g14R4 := sub [1, 1, 1, 0, 0] (codeOf Tryd.f14)
noncomputable def g14L0 := sub [1, 1, 1, 0, 1, 0, 0] (codeOf Tryd.f14)
noncomputable def g14R5 := sub [1, 1, 1, 0, 1, 0, 0, 0] (codeOf Tryd.f14)
noncomputable def g14R6 := sub [1, 1, 1, 0, 1, 0, 0, 1, 1, 0, 0, 0] (codeOf Tryd.f14)
noncomputable def g14R7 := sub [1, 1, 1, 0, 1, 0, 0, 1, 1, 0, 0, 1, 0] (codeOf Tryd.f14)
noncomputable def g14R8 := sub [1, 1, 1, 0, 1, 0, 0, 1, 1, 0, 0, 1, 1, 0, 0] (codeOf Tryd.f14)
noncomputable def g14R9 := sub [1, 1, 1, 0, 1, 0, 0, 1, 1, 0, 0, 1, 1, 0, 1, 0, 0] (codeOf Tryd.f14)
noncomputable def g14R10 := sub [1, 1, 1, 0, 1, 0, 0, 1, 1, 0, 0, 1, 1, 1] (codeOf Tryd.f14)
noncomputable def g14R11 := sub [1, 1, 1, 0, 1, 0, 0, 1, 1, 1] (codeOf Tryd.f14)
noncomputable def g14R12 := sub [1, 1, 1, 1, 0, 0] (codeOf Tryd.f14)
noncomputable def g14R13 := sub [1, 1, 1, 1, 0, 1, 0, 0] (codeOf Tryd.f14)
noncomputable def g14R14 := sub [1, 1, 1, 1, 1, 0] (codeOf Tryd.f14)
noncomputable def g14R15 := sub [1, 1, 1, 1, 1, 1, 0, 0] (codeOf Tryd.f14)
noncomputable def g14R16 := sub [1, 1, 1, 1, 1, 1, 0, 1, 0, 0] (codeOf Tryd.f14)
noncomputable def g14R17 := sub [1, 1, 1, 1, 1, 1, 1, 0] (codeOf Tryd.f14)
theorem g14L0_eq : g14L0 = (.seq g14R5 (.seq (.cond (.tmp 16) .skip (.exit 0)) (.seq (.block 1 (.seq g14R6 (.seq g14R7 (.seq (.seq g14R8 (.cond (.tmp 25) (.seq g14R9 .ret) .skip)) g14R10)))) g14R11))) := by kernel_rfl
theorem g14_eq : codeOf Tryd.f14 = (.seq g14R0 (.seq (.seq g14R1 (.cond (.tmp 12) (.seq g14R2 .ret) .skip)) (.seq g14R3 (.seq (.seq g14R4 (.block 0 (.loop g14L0))) (.seq (.seq g14R12 (.cond (.tmp 32) (.seq g14R13 .ret) .skip)) (.seq g14R14 (.seq (.seq g14R15 (.cond (.tmp 37) (.seq g14R16 .ret) .skip)) (.seq g14R17 .ret)))))))) := by kernel_rfl
def pickle_Put.l0 (m : Nat) (list0 : List VTree) : Nat → (List VTree) → Int → Option (Sum ((List Int) × Int) ((List VTree) × Int))
  | 0, _, _ => none
  | k + 1, least0, x0 => if (decide (x0 < (list0.length : Int))) = true then ((ix list0 x0).bind fun v0 => (tree_Least.f m v0).bind fun x1 => if (!(x1.2 == (0 : Int))) = true then (some (.inl ([], (2 : Int)))) else ((app 32 least0 ([x1.1])).bind fun x2 => pickle_Put.l0 m list0 k x2 (i64.wrap (x0 + (1 : Int))))) else (some (.inr (least0, x0)))
def pickle_Put.f (m : Nat) (list0 : List VTree) : Option ((List Int) × Int) := if (decide ((list0.length : Int) > (8 : Int))) = true then (some ([], (3 : Int))) else ((pickle_Put.l0 m list0 m ([] : List VTree) (0 : Int)).bind fun out0 => match out0 with | .inl r0 => some r0 | .inr (least1, x3) => (ContainsFT.f m least1 (fun y0 => pickle_Put_1.f m y0)).bind fun x4 => if x4 = true then (some ([], (4 : Int))) else ((pickle_write.f m least1).bind fun x5 => if (decide ((x5.length : Int) > (200000 : Int))) = true then (some ([], (3 : Int))) else (some (x5, (0 : Int)))))
def pickle_Put.fin (L : Mem) (r : (List Int) × Int) (s : St) : Prop := ∃ av, resultA Tryd.prog (s.open ann14) Tryd.f14.results.toList = some av ∧ Frz s.h av (.tup [eByte.fz r.1, .int .i64 r.2])
def S14 (cf : CallF) (m : Nat) : Prop := ∀ (list0 : List VTree) (r : (List Int) × Int), pickle_Put.f m list0 = some r → ∀ h xs, PureS xs [eTree.fz list0] → cf 14 xs h = some (.tup [eByte.fz r.1, .int .i64 r.2], h)
section
variable {cf : CallF} {m : Nat}
def pickle_Put.l0.R (L : Mem) (list0 : List VTree) (σ : (List VTree) × Int) (s : St) : Prop :=
  match σ with
  | (least0, x0) => ∃ (g0 : AV) (g1 : AV) (g2 : AV) (g3 : AV) (g4 : AV) (ad0 : Nat) (h0 : AHeap), s = ⟨Ay3 (.rs ad0 0 least0.length 2 :: Ay4 [g0, eTree.fz list0, .int .i64 (list0.length : Int), .int .i64 x0, g1, g2, g3, g4]), [none, none], h0⟩ ∧ Has h0 ((ad0, .sl least0.length 2 (eTree.l least0)) :: L)
def pickle_Put.l0.Q (L : Mem) (list0 : List VTree) (out : Sum ((List Int) × Int) ((List VTree) × Int)) (e : Ex) (s : St) : Prop :=
  (e = .exit 0 ∧ ∃ (least0 : List VTree) (x0 : Int), .inr (least0, x0) = out ∧ ∃ (x12_ : AV) (x13_ : AV) (x14_ : AV) (x15_ : AV) (x16_ : AV) (x25_ : AV) (x32_ : AV) (x37_ : AV) (ad0 : Nat) (h0 : AHeap), s = ⟨Ay3 (.rs ad0 0 least0.length 2 :: Ay4 [x12_, x13_, x14_, x15_, x16_, x25_, x32_, x37_]), [none, none], h0⟩ ∧ Has h0 ((ad0, .sl least0.length 2 (eTree.l least0)) :: L)) ∨ (e = .ret ∧ ∃ r, .inl r = out ∧ pickle_Put.fin L r s)
theorem pickle_Put.l0_ok (L : Mem) (list0 : List VTree)  (S31_ : S31 cf m) {σ : (List VTree) × Int} {s : St} {out : Sum ((List Int) × Int) ((List VTree) × Int)} (hr : pickle_Put.l0.R L list0 σ s) (H : (fun k σ => pickle_Put.l0 m list0 k σ.1 σ.2) m σ = some out) : Enz Tryd.prog cf ann14 m (.loop g14L0) s (pickle_Put.l0.Q L list0 out) := by
  refine ends_loop (fun k σ => pickle_Put.l0 m list0 k σ.1 σ.2) (pickle_Put.l0.R L list0) (pickle_Put.l0.Q L list0) (fun _ => rfl) ?_ hr H (fun _ _ _ h => h)
  clear hr H σ s out
  rintro k ⟨least0, x0⟩ s out ⟨g0, g1, g2, g3, g4, ad0, h0, rfl, o1⟩ H
  have H : pickle_Put.l0 m list0 (k + 1) least0 x0 = some out := H
  refine ends_of_eq g14L0_eq ?_
  refine sr [] [] ⟨Ay3 (.rs ad0 0 least0.length 2 :: Ay5 (eTree.fz list0 :: .int .i64 (list0.length : Int) :: .int .i64 x0 :: .bool (decide (x0 < (list0.length : Int))) :: Ay3 [])), [none, none], h0⟩ ((True) ∧ True) (by kernel_rfl) ⟨trivial, trivial⟩ ?_
  refine ends_seq ?_
  refine ends_cond (decide (x0 < (list0.length : Int))) (by kernel_rfl) (fun c1 => ?_) (fun c1 => ?_)
  · have H := ifp c1 H
    refine ends_skip ?_
    refine ends_seq ?_
    refine ends_block ?_
    refine ends_seq ?_
    obtain ⟨v0, e0, H⟩ := bsi H
    refine er [] [(0, .fp (eTree.l list0) (x0.toNat * 2), none), (1, .agg [eNode.fz v0.nodes, .int .i64 v0.root], none)] ⟨Ay3 (.rs ad0 0 least0.length 2 :: .lp 6 0 :: Ay4 (eTree.fz list0 :: .int .i64 (list0.length : Int) :: .int .i64 x0 :: Ay4 [])), [some [eNode.fz v0.nodes, .int .i64 v0.root], none], h0⟩ ((True) ∧ indexAddrA Tryd.prog 22 (eTree.fz list0) (.int .i64 x0) = some (.fp (eTree.l list0) (x0.toNat * 2)) ∧ loadH Tryd.prog h0 31 (.fp (eTree.l list0) (x0.toNat * 2)) = some (.agg [eNode.fz v0.nodes, .int .i64 v0.root]) ∧ True) (by kernel_rfl) ⟨trivial, ⟨ia_fz (E := eTree) (l := list0) T22 e0, ld_fzA (E := eTree) (l := list0) h0 A31 Z31 e0, trivial⟩⟩ ?_
    refine ends_seq ?_
    obtain ⟨x1, e1, H⟩ := bsi H
    refine er [] [(1, .tup [.agg [eNode.fz x1.1.nodes, .int .i64 x1.1.root], .int .i64 x1.2], some h0)] ⟨Ay3 (.rs ad0 0 least0.length 2 :: .any :: .lp 7 0 :: .int .i64 x1.2 :: .any :: .any :: eTree.fz list0 :: .int .i64 (list0.length : Int) :: .int .i64 x0 :: Ay4 []), [none, some [eNode.fz x1.1.nodes, .int .i64 x1.1.root]], h0⟩ ((True) ∧ callO cf (.fn 31 []) [.agg [eNode.fz v0.nodes, .int .i64 v0.root]] h0 = some (.tup [.agg [eNode.fz x1.1.nodes, .int .i64 x1.1.root], .int .i64 x1.2], h0) ∧ True) (by kernel_rfl) ⟨trivial, ⟨callO_of (by kernel_rfl) (S31_ _ _ e1 _ _ (pu_cons (pu_agg (pu_cons (pu_fz (E := eNode)) (pu_cons (pu_int) (pu_nil)))) (pu_nil))), trivial⟩⟩ ?_
    refine ends_seq ?_
    refine sr [] [] ⟨Ay3 (.rs ad0 0 least0.length 2 :: .any :: .lp 7 0 :: Ay3 [eTree.fz list0, .int .i64 (list0.length : Int), .int .i64 x0, .any, .bool (!(x1.2 == (0 : Int))), .any, .any]), [none, some [eNode.fz x1.1.nodes, .int .i64 x1.1.root]], h0⟩ ((True) ∧ True) (by kernel_rfl) ⟨trivial, trivial⟩ ?_
    refine ends_cond (!(x1.2 == (0 : Int))) (by kernel_rfl) (fun c2 => ?_) (fun c2 => ?_)
    · have H := ifp c2 H
      refine sr [] [] ⟨.any :: .nils :: .int .i64 (2 : Int) :: Ay13 [], [none, none], h0⟩ ((True) ∧ True) (by kernel_rfl) ⟨trivial, trivial⟩ ?_
      have o2 : Has h0 (L) := Has.del o1 0
      refine ends_ret ?_
      have H := Option.some.inj H
      exact Or.inr (⟨rfl, _, H, ⟨.tup [.nils, .int .i64 (2 : Int)], by kernel_rfl, frz (fr_tup (fr_cons (fr_nils) (fr_cons (fr_int) (fr_nil))))⟩⟩)
    · have H := ifn c2 H
      refine ends_skip ?_
      obtain ⟨x2, e2, H⟩ := bsi H
      obtain ⟨ad1, h1, e3, o3⟩ := ap_own (P := Tryd.prog) (E := eTree) (l := least0) (q := 0) (t2 := 22) (x := .fz [eNode.fz x1.1.nodes, .int .i64 x1.1.root] 1 true) (l2 := ([x1.1])) T22 o1 rfl (by kernel_rfl) rfl e2
      refine er [] [(3, .rs ad1 0 x2.length 2, some h1)] ⟨Ay3 (.rs ad1 0 x2.length 2 :: Ay5 (eTree.fz list0 :: .int .i64 (list0.length : Int) :: .int .i64 x0 :: Ay4 [])), [none, none], h1⟩ ((True) ∧ appendA Tryd.prog h0 22 22 (.rs ad0 0 least0.length 2) (.fz [eNode.fz x1.1.nodes, .int .i64 x1.1.root] 1 true) = some (.rs ad1 0 x2.length 2, h1) ∧ True) (by kernel_rfl) ⟨trivial, ⟨e3, trivial⟩⟩ ?_
      refine er [] [] ⟨Ay3 (.rs ad1 0 x2.length 2 :: Ay5 (eTree.fz list0 :: .int .i64 (list0.length : Int) :: .int .i64 (i64.wrap (x0 + (1 : Int))) :: Ay4 [])), [none, none], h1⟩ ((True) ∧ True) (by kernel_rfl) ⟨trivial, trivial⟩ ?_
      exact ⟨(x2, i64.wrap (x0 + (1 : Int))), ⟨.any, .any, .any, .any, .any, ad1, h1, rfl, o3⟩, H⟩
  · have H := ifn c1 H
    refine ends_exit ?_
    have H := Option.some.inj H
    exact Or.inl (⟨rfl, least0, x0, H, .any, eTree.fz list0, .int .i64 (list0.length : Int), .int .i64 x0, .bool (decide (x0 < (list0.length : Int))), .any, .any, .any, ad0, h0, rfl, o1⟩)
theorem pickle_Put_body {ann : FuncId → Ann} (ha : ann 14 = ann14) (S31_ : S31 cf m) (S32_ : S32 cf m) (S33_ : S33 cf m) (S36_ : S36 cf m) (list0 : List VTree) (h : AHeap) (L : Mem)  (o : Has h (L)) {out : (List Int) × Int} (H : pickle_Put.f m list0 = some out) :
    ∃ r h', bodyA Tryd.prog ann cf m 14 [eTree.fz list0] h = some (r, h') ∧ Frz h' r (.tup [eByte.fz out.1, .int .i64 out.2]) := by
  refine body_of_ends2 (fn := Tryd.f14) ha Tryd.func14 (by kernel_rfl) (by kernel_rfl) ?_
  refine ends_fin (Q := fun s => pickle_Put.fin L out s) (fun _ _ h => h) ?_
  refine ends_of_eq g14_eq ?_
  have H : _ = some out := H
  unfold pickle_Put.f at H
  show Enz _ cf ann14 m _ ⟨eTree.fz list0 :: Ay15 [], [none, none], h⟩ _
  refine sr [] [] ⟨eTree.fz list0 :: Ay15 [], [none, none], h⟩ ((True) ∧ True) (by kernel_rfl) ⟨trivial, trivial⟩ ?_
  refine ends_seq ?_
  refine sr [] [] ⟨eTree.fz list0 :: Ay7 (.bool (decide ((list0.length : Int) > (8 : Int))) :: Ay7 []), [none, none], h⟩ ((True) ∧ True) (by kernel_rfl) ⟨trivial, trivial⟩ ?_
  refine ends_cond (decide ((list0.length : Int) > (8 : Int))) (by kernel_rfl) (fun c0 => ?_) (fun c0 => ?_)
  · have H := ifp c0 H
    refine sr [] [] ⟨.any :: .nils :: .int .i64 (3 : Int) :: Ay13 [], [none, none], h⟩ ((True) ∧ True) (by kernel_rfl) ⟨trivial, trivial⟩ ?_
    refine ends_ret ?_
    have H := Option.some.inj H
    subst H
    exact ⟨.inl rfl, ⟨.tup [.nils, .int .i64 (3 : Int)], by kernel_rfl, frz (fr_tup (fr_cons (fr_nils) (fr_cons (fr_int) (fr_nil))))⟩⟩
  · have H := ifn c0 H
    refine ends_skip ?_
    refine sr [] [] ⟨eTree.fz list0 :: .any :: .any :: .rs (0) 0 (([] : List VTree).length) 2 :: Ay12 [], [none, none], h⟩ ((True) ∧ True) (by kernel_rfl) ⟨trivial, trivial⟩ ?_
    have o0 : Has h (((0), .sl (([] : List VTree).length) 2 (eTree.l ([] : List VTree))) :: L) := Has.nil o 2
    refine ends_seq ?_
    refine sr [] [] ⟨Ay3 (.rs (0) 0 (([] : List VTree).length) 2 :: Ay5 (eTree.fz list0 :: .int .i64 (list0.length : Int) :: .int .i64 (0 : Int) :: Ay4 [])), [none, none], h⟩ ((True) ∧ True) (by kernel_rfl) ⟨trivial, trivial⟩ ?_
    refine ends_block ?_
    obtain ⟨out0, e4, H⟩ := bsi H
    refine ends_mono (pickle_Put.l0_ok L list0  S31_ (σ := (([] : List VTree), (0 : Int))) ⟨.any, .any, .any, .any, .any, (0), h, rfl, o0⟩ e4) ?_
    rintro e s (⟨rfl, least1, x3, rfl, g5, g6, g7, g8, g9, g10, g11, g12, ad2, h2, rfl, o4⟩ | ⟨rfl, r0, rfl, hf0⟩)
    · try dsimp only at H
      refine ends_seq ?_
      refine ends_seq ?_
      obtain ⟨h3, e5, o5⟩ := fr_own (E := eTree) (l := least1) (q := 0) o4 rfl
      obtain ⟨x4, e6, H⟩ := bsi H
      refine er [(eTree.fz least1, h3)] [(1, .bool x4, some h3)] ⟨Ay3 (eTree.fz least1 :: Ay10 [.bool x4, .any]), [none, none], h3⟩ ((frzV 0 h2 (.rs ad2 0 least1.length 2) = some (eTree.fz least1, h3) ∧ True) ∧ callO cf (.fn 32 []) [eTree.fz least1, .fn 33 []] h3 = some (.bool x4, h3) ∧ True) (by kernel_rfl) ⟨⟨e5, trivial⟩, ⟨callO_of (by kernel_rfl) (S32_ _ _ _ e6 h3 (Has.pos o5) 33 [] rfl (fun y0 r hr => S33_ y0 r hr h3 _ (frs (fr_cons (fr_agg (fr_cons (fr_fz (E := eNode)) (fr_cons (fr_int) (fr_nil)))) (fr_nil)))) _ (can_cons (can_pure (pu_fz (E := eTree))) (can_cons (rfl) (can_nil)))), trivial⟩⟩ ?_
      refine ends_cond (x4) (by kernel_rfl) (fun c3 => ?_) (fun c3 => ?_)
      · have H := ifp c3 H
        refine sr [] [] ⟨.any :: .nils :: .int .i64 (4 : Int) :: Ay13 [], [none, none], h3⟩ ((True) ∧ True) (by kernel_rfl) ⟨trivial, trivial⟩ ?_
        refine ends_ret ?_
        have H := Option.some.inj H
        subst H
        exact ⟨.inl rfl, ⟨.tup [.nils, .int .i64 (4 : Int)], by kernel_rfl, frz (fr_tup (fr_cons (fr_nils) (fr_cons (fr_int) (fr_nil))))⟩⟩
      · have H := ifn c3 H
        refine ends_skip ?_
        refine ends_seq ?_
        obtain ⟨x5, e7, H⟩ := bsi H
        refine er [] [(1, eByte.fz x5, some h3)] ⟨Ay7 (eByte.fz x5 :: Ay8 []), [none, none], h3⟩ ((True) ∧ callO cf (.fn 36 []) [eTree.fz least1] h3 = some (eByte.fz x5, h3) ∧ True) (by kernel_rfl) ⟨trivial, ⟨callO_of (by kernel_rfl) (S36_ _ _ e7 _ _ (frs (fr_cons (fr_fz (E := eTree)) (fr_nil)))), trivial⟩⟩ ?_
        refine ends_seq ?_
        refine sr [] [] ⟨Ay7 (eByte.fz x5 :: Ay7 [.bool (decide ((x5.length : Int) > (200000 : Int)))]), [none, none], h3⟩ ((True) ∧ True) (by kernel_rfl) ⟨trivial, trivial⟩ ?_
        refine ends_cond (decide ((x5.length : Int) > (200000 : Int))) (by kernel_rfl) (fun c4 => ?_) (fun c4 => ?_)
        · have H := ifp c4 H
          refine sr [] [] ⟨.any :: .nils :: .int .i64 (3 : Int) :: Ay13 [], [none, none], h3⟩ ((True) ∧ True) (by kernel_rfl) ⟨trivial, trivial⟩ ?_
          refine ends_ret ?_
          have H := Option.some.inj H
          subst H
          exact ⟨.inl rfl, ⟨.tup [.nils, .int .i64 (3 : Int)], by kernel_rfl, frz (fr_tup (fr_cons (fr_nils) (fr_cons (fr_int) (fr_nil))))⟩⟩
        · have H := ifn c4 H
          refine ends_skip ?_
          refine sr [] [] ⟨.any :: eByte.fz x5 :: .int .i64 (0 : Int) :: Ay13 [], [none, none], h3⟩ ((True) ∧ True) (by kernel_rfl) ⟨trivial, trivial⟩ ?_
          refine ends_ret ?_
          have H := Option.some.inj H
          subst H
          exact ⟨.inl rfl, ⟨.tup [eByte.fz x5, .int .i64 (0 : Int)], by kernel_rfl, frz (fr_tup (fr_cons (fr_fz) (fr_cons (fr_int) (fr_nil))))⟩⟩
    · try dsimp only at H
      have H := Option.some.inj H
      subst H
      exact ⟨.inl rfl, hf0⟩
end
end Go.Proofs.YtmekcfdllhphlaaDoor

namespace Go.Proofs.YtmekcfdllhphlaaDoor
open Go Go.R
open Go.IntKind (i64 u64 u8 u32)
def ann41 : Ann := { keep := [0, 1, 4], locs := [], dead := [(0, [4]), (1, [0, 1])], frz := [], frz2 := [] }
noncomputable def g41R0 := sub [0] (codeOf Tryd.f41)
noncomputable def g41R1 := sub [1, 0] (codeOf Tryd.f41)
theorem g41_eq : codeOf Tryd.f41 = (.seq g41R0 (.seq g41R1 .ret)) := by kernel_rfl
def bytes_Equal.f (m : Nat) (a0 : List Int) (b0 : List Int) : Option (Bool) := some ((bytesStr a0).data.toList == (bytesStr b0).data.toList)
def bytes_Equal.fin (L : Mem) (r : Bool) (s : St) : Prop := ∃ av, resultA Tryd.prog (s.open ann41) Tryd.f41.results.toList = some av ∧ Frb s.h av (.bool r)
def S41 (cf : CallF) (m : Nat) : Prop := ∀ (a0 : List Int) (b0 : List Int) (r : Bool), bytes_Equal.f m a0 b0 = some r → ∀ h xs, FrzS 1000 h xs [eByte.fz a0, eByte.fz b0] → cf 41 xs h = some (.bool r, h)
section
variable {cf : CallF} {m : Nat}
theorem bytes_Equal_body {ann : FuncId → Ann} (ha : ann 41 = ann41)  (a0 : List Int) (b0 : List Int) (h : AHeap) (L : Mem)  (o : Has h (L)) {out : Bool} (H : bytes_Equal.f m a0 b0 = some out) :
    ∃ r h', bodyA Tryd.prog ann cf m 41 [eByte.fz a0, eByte.fz b0] h = some (r, h') ∧ Frb h' r (.bool out) := by
  refine body_of_ends2 (fn := Tryd.f41) ha Tryd.func41 (by kernel_rfl) (by kernel_rfl) ?_
  refine ends_fin (Q := fun s => bytes_Equal.fin L out s) (fun _ _ h => h) ?_
  refine ends_of_eq g41_eq ?_
  have H : _ = some out := H
  unfold bytes_Equal.f at H
  show Enz _ cf ann41 m _ ⟨[eByte.fz a0, eByte.fz b0, .any], [], h⟩ _
  refine sr [] [] ⟨[eByte.fz a0, eByte.fz b0, .any], [], h⟩ ((True) ∧ True) (by kernel_rfl) ⟨trivial, trivial⟩ ?_
  refine sr [] [(1, .str (bytesStr a0), none), (3, .str (bytesStr b0), none)] ⟨[.any, .any, .bool ((bytesStr a0).data.toList == (bytesStr b0).data.toList)], [], h⟩ ((True) ∧ convertA Tryd.prog h 25 9 (eByte.fz a0) = some (.str (bytesStr a0)) ∧ convertA Tryd.prog h 25 9 (eByte.fz b0) = some (.str (bytesStr b0)) ∧ True) (by kernel_rfl) ⟨trivial, ⟨cv_str (e := 5) (l := a0) rfl rfl rfl (cc_fz _), cv_str (e := 5) (l := b0) rfl rfl rfl (cc_fz _), trivial⟩⟩ ?_
  refine ends_ret ?_
  have H := Option.some.inj H
  subst H
  exact ⟨.inl rfl, ⟨.bool ((bytesStr a0).data.toList == (bytesStr b0).data.toList), by kernel_rfl, frb (fb_bool)⟩⟩
end
end Go.Proofs.YtmekcfdllhphlaaDoor

namespace Go.Proofs.YtmekcfdllhphlaaDoor
open Go Go.R
open Go.IntKind (i64 u64 u8 u32)
def ann19 : Ann := { keep := [0, 2, 3, 4, 5, 6, 7, 8, 9, 10, 11, 12, 15, 33, 56, 70, 93, 106], locs := [8], dead := [(0, [2, 3, 4, 5, 6, 7, 8, 9, 10, 11, 12, 15, 33, 56, 70, 93, 106]), (1, [2, 3, 4, 5, 6, 7, 8, 9, 10, 11, 12, 33, 56, 70, 93, 106]), (2, [0, 4, 5, 6, 7, 8, 9, 10, 11, 12, 15, 33, 56, 70, 93, 106]), (3, [2, 3, 4, 5, 6, 7, 8, 9, 10, 11, 12, 15, 56, 70, 93, 106]), (4, [0, 4, 5, 6, 7, 8, 9, 10, 11, 12, 15, 33, 56, 70, 93, 106]), (5, [2, 3, 5, 6, 7, 8, 9, 10, 11, 12, 15, 33, 56, 70, 93, 106]), (6, [2, 3, 6, 7, 8, 9, 10, 11, 12, 15, 33, 56, 70, 93, 106]), (7, [2, 3, 7, 8, 9, 10, 11, 12, 15, 33, 56, 70, 93, 106]), (8, [2, 3, 8, 9, 10, 11, 12, 15, 33, 56, 70, 93, 106]), (9, [2, 3, 8, 9, 10, 11, 12, 15, 33, 70, 93, 106]), (10, [2, 3, 8, 9, 10, 11, 12, 15, 33, 56, 70, 93, 106]), (11, [2, 3, 9, 10, 11, 12, 15, 33, 56, 70, 93, 106]), (12, [2, 3, 10, 11, 12, 15, 33, 56, 70, 93, 106]), (13, [2, 3, 11, 12, 15, 33, 56, 70, 93, 106]), (14, [2, 3, 11, 12, 15, 33, 56, 93, 106]), (15, [2, 3, 11, 12, 15, 33, 56, 70, 93, 106]), (16, [2, 3, 11, 12, 15, 33, 56, 70, 93, 106]), (17, [2, 3, 8, 9, 10, 11, 12, 15, 33, 56, 70, 93, 106]), (18, [2, 3, 4, 6, 7, 8, 9, 10, 11, 12, 15, 33, 56, 70, 106]), (19, [0, 4, 5, 6, 7, 8, 9, 10, 11, 12, 15, 33, 56, 70, 93, 106]), (20, [2, 3, 4, 6, 7, 8, 9, 10, 15, 33, 56, 70, 93, 106]), (21, [0, 2, 3, 4, 6, 7, 8, 9, 10, 11, 12, 15, 33, 56, 70, 93]), (22, [0, 4, 5, 6, 7, 8, 9, 10, 11, 12, 15, 33, 56, 70, 93, 106]), (23, [0, 4, 5, 6, 7, 8, 9, 10, 11, 12, 15, 33, 56, 70, 93, 106])], frz := [(17, [(8, some 0, 0)]), (20, [(5, none, 0)])], frz2 := [(6, [(5, none, 2)]), (11, [(8, some 0, 4)])] }
noncomputable def g19R0 := sub [0] (codeOf Tryd.f19)
noncomputable def g19R1 := sub [1, 0, 0] (codeOf Tryd.f19)
noncomputable def g19R2 := sub [1, 0, 1, 0, 0] (codeOf Tryd.f19)
noncomputable def g19R3 := sub [1, 1, 0, 0] (codeOf Tryd.f19)
noncomputable def g19R4 := sub [1, 1, 0, 1, 0, 0] (codeOf Tryd.f19)
noncomputable def g19R5 := sub [1, 1, 1, 0] (codeOf Tryd.f19)
noncomputable def g19R6 := sub [1, 1, 1, 1, 0] (codeOf Tryd.f19)
noncomputable def g19R7 := sub [1, 1, 1, 1, 1, 0] (codeOf Tryd.f19)
noncomputable def g19R8 := sub [1, 1, 1, 1, 1, 1, 0, 0] (codeOf Tryd.f19)
noncomputable def g19L0 := sub [1, 1, 1, 1, 1, 1, 0, 1, 0, 0] (codeOf Tryd.f19)
noncomputable def g19R9 := sub [1, 1, 1, 1, 1, 1, 0, 1, 0, 0, 0, 0] (codeOf Tryd.f19)
noncomputable def g19R11 := sub [1, 1, 1, 1, 1, 1, 0, 1, 0, 0, 1, 0, 0, 0] (codeOf Tryd.f19)
noncomputable def g19R12 := sub [1, 1, 1, 1, 1, 1, 0, 1, 0, 0, 1, 0, 0, 1, 0] (codeOf Tryd.f19)
noncomputable def g19R13 := sub [1, 1, 1, 1, 1, 1, 0, 1, 0, 0, 1, 0, 0, 1, 1, 0, 0] (codeOf Tryd.f19)
noncomputable def g19L1 := sub [1, 1, 1, 1, 1, 1, 0, 1, 0, 0, 1, 0, 0, 1, 1, 0, 1, 0, 0] (codeOf Tryd.f19)
noncomputable def g19R14 := sub [1, 1, 1, 1, 1, 1, 0, 1, 0, 0, 1, 0, 0, 1, 1, 0, 1, 0, 0, 0, 0] (codeOf Tryd.f19)
noncomputable def g19R16 := sub [1, 1, 1, 1, 1, 1, 0, 1, 0, 0, 1, 0, 0, 1, 1, 0, 1, 0, 0, 1, 0, 0] (codeOf Tryd.f19)
noncomputable def g19R15 := sub [1, 1, 1, 1, 1, 1, 0, 1, 0, 0, 1, 0, 0, 1, 1, 0, 1, 0, 0, 1, 1] (codeOf Tryd.f19)
noncomputable def g19R17 := sub [1, 1, 1, 1, 1, 1, 0, 1, 0, 0, 1, 0, 0, 1, 1, 1] (codeOf Tryd.f19)
noncomputable def g19R10 := sub [1, 1, 1, 1, 1, 1, 0, 1, 0, 0, 1, 1] (codeOf Tryd.f19)
noncomputable def g19R18 := sub [1, 1, 1, 1, 1, 1, 1, 0, 0] (codeOf Tryd.f19)
noncomputable def g19R19 := sub [1, 1, 1, 1, 1, 1, 1, 0, 1, 0, 0] (codeOf Tryd.f19)
noncomputable def g19R20 := sub [1, 1, 1, 1, 1, 1, 1, 1, 0] (codeOf Tryd.f19)
noncomputable def g19R21 := sub [1, 1, 1, 1, 1, 1, 1, 1, 1, 0, 0] (codeOf Tryd.f19)
noncomputable def g19R22 := sub [1, 1, 1, 1, 1, 1, 1, 1, 1, 0, 1, 0, 0] (codeOf Tryd.f19)
noncomputable def g19R23 := sub [1, 1, 1, 1, 1, 1, 1, 1, 1, 1, 0] (codeOf Tryd.f19)
theorem g19L1_eq : g19L1 = (.seq (.seq g19R14 (.cond (.tmp 70) .skip (.exit 2))) (.seq (.block 3 g19R16) g19R15)) := by kernel_rfl
theorem g19L0_eq : g19L0 = (.seq (.seq g19R9 (.cond (.tmp 56) .skip (.exit 0))) (.seq (.block 1 (.seq g19R11 (.seq g19R12 (.seq (.seq g19R13 (.block 2 (.loop g19L1))) g19R17)))) g19R10)) := by kernel_rfl
theorem g19_eq : codeOf Tryd.f19 = (.seq g19R0 (.seq (.seq g19R1 (.cond (.tmp 15) (.seq g19R2 .ret) .skip)) (.seq (.seq g19R3 (.cond (.tmp 33) (.seq g19R4 .ret) .skip)) (.seq g19R5 (.seq g19R6 (.seq g19R7 (.seq (.seq g19R8 (.block 0 (.loop g19L0))) (.seq (.seq g19R18 (.cond (.tmp 93) (.seq g19R19 .ret) .skip)) (.seq g19R20 (.seq (.seq g19R21 (.cond (.tmp 106) (.seq g19R22 .ret) .skip)) (.seq g19R23 .ret))))))))))) := by kernel_rfl
def pickle_Get.l1 (m : Nat) (x3 : Int × Rdr) : Nat → Int → (List VNode) → Int → Rdr → Option (Int × (List VNode) × Int × Rdr)
  | 0, _, _, _, _ => none
  | k + 1, k0, t0, t1, ob1 => if (decide (k0 < x3.1)) = true then (if (!ob1.f_bad) = true then ((rd_node.f m ob1).bind fun x4 => (app 56 t0 ([x4.1])).bind fun x5 => pickle_Get.l1 m x3 k (i64.wrap (k0 + (1 : Int))) x5 t1 x4.2) else (some ((k0, t0, t1, ob1)))) else (some ((k0, t0, t1, ob1)))
def pickle_Get.l0 (m : Nat) (x2 : Int × Rdr) : Nat → (List VTree) → Int → Rdr → Option ((List VTree) × Int × Rdr)
  | 0, _, _, _ => none
  | k + 1, list0, i0, ob0 => if (decide (i0 < x2.1)) = true then (if (!ob0.f_bad) = true then (if (decide (x2.1 ≤ (8 : Int))) = true then ((rd_number.f m ob0).bind fun x3 => (pickle_Get.l1 m x3 m (0 : Int) ([] : List VNode) (0 : Int) x3.2).bind fun out0 => match out0 with | (k1, t2, t3, ob2) => (app 32 list0 ([(VTree.mk t2 t3)])).bind fun x6 => pickle_Get.l0 m x2 k x6 (i64.wrap (i0 + (1 : Int))) ob2) else (some ((list0, i0, ob0)))) else (some ((list0, i0, ob0)))) else (some ((list0, i0, ob0)))
def pickle_Get.f (m : Nat) (b0 : List Int) : Option ((List VTree) × Int) := if (decide ((b0.length : Int) > (200000 : Int))) = true then (some ([], (3 : Int))) else (if (decide ((b0.length : Int) < (7 : Int))) = true then (some ([], (2 : Int))) else ((slc b0 (0 : Int) (i64.wrap ((b0.length : Int) - (4 : Int)))).bind fun v0 => (pickle_check.f m v0).bind fun x0 => (slc b0 (i64.wrap ((b0.length : Int) - (4 : Int))) (b0.length : Int)).bind fun v1 => (bytes_Equal.f m x0 v1).bind fun x1 => if (!x1) = true then (some ([], (2 : Int))) else ((slc b0 (2 : Int) (i64.wrap ((b0.length : Int) - (4 : Int)))).bind fun v2 => (rd_number.f m (Rdr.mk v2 false)).bind fun x2 => (pickle_Get.l0 m x2 m ([] : List VTree) (0 : Int) x2.2).bind fun out1 => match out1 with | (list1, i1, ob3) => if ob3.f_bad = true then (some ([], (2 : Int))) else (if (!((list1.length : Int) == x2.1)) = true then (some ([], (2 : Int))) else ((pickle_Put.f m list1).bind fun x7 => if (!(x7.2 == (0 : Int))) = true then (some ([], (2 : Int))) else ((bytes_Equal.f m x7.1 b0).bind fun x8 => if (!x8) = true then (some ([], (2 : Int))) else (some (list1, (0 : Int)))))))))
def pickle_Get.fin (L : Mem) (r : (List VTree) × Int) (s : St) : Prop := ∃ av, resultA Tryd.prog (s.open ann19) Tryd.f19.results.toList = some av ∧ Frz s.h av (.tup [eTree.fz r.1, .int .i64 r.2])
def S19 (cf : CallF) (m : Nat) : Prop := ∀ (b0 : List Int) (r : (List VTree) × Int), pickle_Get.f m b0 = some r → ∀ h xs, PureS xs [eByte.fz b0] → cf 19 xs h = some (.tup [eTree.fz r.1, .int .i64 r.2], h)
section
variable {cf : CallF} {m : Nat}
def pickle_Get.l1.R (L : Mem) (b0 : List Int) (ad0 : Nat) (x2 : Int × Rdr) (ad1 : Nat) (list0 : List VTree) (i0 : Int) (ad1 : Nat) (x3 : Int × Rdr) (σ : Int × (List VNode) × Int × Rdr) (s : St) : Prop :=
  match σ with
  | (k0, t0, t1, ob1) => ∃ (g6 : AV) (g7 : AV) (g8 : AV) (g9 : AV) (g10 : AV) (g11 : AV) (ad2 : Nat) (h4 : AHeap), s = ⟨[eByte.fz b0, .any, .any, .ptr ad0 0, .rs ad1 0 list0.length 2, .int .i64 x2.1, .int .i64 i0, .lp 8 0, .int .i64 x3.1, .int .i64 k0, .any, .any, g6, g7, g8, g9, g10, g11], [some [.rs ad2 0 t0.length 4, .int .i64 t1]], h4⟩ ∧ Has h4 ((ad0, .ob [eByte.fz ob1.f_b, .bool ob1.f_bad]) :: (ad2, .sl t0.length 4 (eNode.l t0)) :: (ad1, .sl list0.length 2 (eTree.l list0)) :: L)
def pickle_Get.l1.Q (L : Mem) (b0 : List Int) (ad0 : Nat) (x2 : Int × Rdr) (ad1 : Nat) (list0 : List VTree) (i0 : Int) (ad1 : Nat) (x3 : Int × Rdr) (out : Int × (List VNode) × Int × Rdr) (e : Ex) (s : St) : Prop :=
  (e = .exit 2 ∧ ∃ (k0 : Int) (t0 : List VNode) (t1 : Int) (ob1 : Rdr), (k0, t0, t1, ob1) = out ∧ ∃ (x9_ : AV) (x10_ : AV) (x15_ : AV) (x33_ : AV) (x56_ : AV) (x70_ : AV) (x93_ : AV) (x106_ : AV) (ad2 : Nat) (h4 : AHeap), s = ⟨[eByte.fz b0, .any, .any, .ptr ad0 0, .rs ad1 0 list0.length 2, .int .i64 x2.1, .int .i64 i0, .lp 8 0, x9_, x10_, .any, .any, x15_, x33_, x56_, x70_, x93_, x106_], [some [.rs ad2 0 t0.length 4, .int .i64 t1]], h4⟩ ∧ Has h4 ((ad0, .ob [eByte.fz ob1.f_b, .bool ob1.f_bad]) :: (ad2, .sl t0.length 4 (eNode.l t0)) :: (ad1, .sl list0.length 2 (eTree.l list0)) :: L))
theorem pickle_Get.l1_ok (L : Mem) (b0 : List Int) (ad0 : Nat) (x2 : Int × Rdr) (ad1 : Nat) (list0 : List VTree) (i0 : Int) (ad1 : Nat) (x3 : Int × Rdr)  (S44_ : S44 cf m) {σ : Int × (List VNode) × Int × Rdr} {s : St} {out : Int × (List VNode) × Int × Rdr} (hr : pickle_Get.l1.R L b0 ad0 x2 ad1 list0 i0 ad1 x3 σ s) (H : (fun k σ => pickle_Get.l1 m x3 k σ.1 σ.2.1 σ.2.2.1 σ.2.2.2) m σ = some out) : Enz Tryd.prog cf ann19 m (.loop g19L1) s (pickle_Get.l1.Q L b0 ad0 x2 ad1 list0 i0 ad1 x3 out) := by
  refine ends_loop (fun k σ => pickle_Get.l1 m x3 k σ.1 σ.2.1 σ.2.2.1 σ.2.2.2) (pickle_Get.l1.R L b0 ad0 x2 ad1 list0 i0 ad1 x3) (pickle_Get.l1.Q L b0 ad0 x2 ad1 list0 i0 ad1 x3) (fun _ => rfl) ?_ hr H (fun _ _ _ h => h)
  clear hr H σ s out
  rintro k ⟨k0, t0, t1, ob1⟩ s out ⟨g6, g7, g8, g9, g10, g11, ad2, h4, rfl, o6⟩ H
  have H : pickle_Get.l1 m x3 (k + 1) k0 t0 t1 ob1 = some out := H
  refine ends_of_eq g19L1_eq ?_
  refine ends_seq ?_
  refine ends_seq ?_
  rcases bft (decide (k0 < x3.1)) with c7 | c7
  · have H := ifp c7 H
    refine er [] [(3, .bool true, none), (7, .bool ob1.f_bad, none)] ⟨eByte.fz b0 :: .any :: .any :: .ptr ad0 0 :: .rs ad1 0 list0.length 2 :: .int .i64 x2.1 :: .int .i64 i0 :: .lp 8 0 :: .int .i64 x3.1 :: .int .i64 k0 :: Ay5 [.bool (!ob1.f_bad), .any, .any], [some [.rs ad2 0 t0.length 4, .int .i64 t1]], h4⟩ ((True) ∧ AV.bool (decide (k0 < x3.1)) = AV.bool true ∧ loadH Tryd.prog h4 4 (.ptr ad0 1) = some (.bool ob1.f_bad) ∧ True) (by kernel_rfl) ⟨trivial, ⟨congrArg AV.bool c7, ld_ob (q := 0) (cs := [eByte.fz ob1.f_b, .bool ob1.f_bad]) o6 rfl (by kernel_rfl), trivial⟩⟩ ?_
    refine ends_cond (!ob1.f_bad) (by kernel_rfl) (fun c8 => ?_) (fun c8 => ?_)
    · have H := ifp c8 H
      refine ends_skip ?_
      refine ends_seq ?_
      refine ends_block ?_
      obtain ⟨x4, e10, H⟩ := bsi H
      obtain ⟨h5, e11, o7⟩ := S44_ _ _ e10 h4 _ _ (o6)  [.ptr ad0 0] (can_cons (rfl) (can_nil))
      obtain ⟨x5, e12, H⟩ := bsi H
      obtain ⟨ad3, h6, e13, o8⟩ := ap_own (P := Tryd.prog) (E := eNode) (l := t0) (q := 1) (t2 := 29) (x := .fz [.int .i64 x4.1.kind, .int .i64 x4.1.int, .str x4.1.label, eInt.fz x4.1.args] 1 true) (l2 := ([x4.1])) T29 o7 rfl (by kernel_rfl) rfl e12
      refine er [] [(3, .agg [.int .i64 x4.1.kind, .int .i64 x4.1.int, .str x4.1.label, eInt.fz x4.1.args], some h5), (5, .rs ad3 0 x5.length 4, some h6)] ⟨eByte.fz b0 :: .any :: .any :: .ptr ad0 0 :: .rs ad1 0 list0.length 2 :: .int .i64 x2.1 :: .int .i64 i0 :: .lp 8 0 :: .int .i64 x3.1 :: .int .i64 k0 :: Ay8 [], [some [.rs ad3 0 x5.length 4, .int .i64 t1]], h6⟩ ((True) ∧ callO cf (.fn 44 []) [.ptr ad0 0] h4 = some (.agg [.int .i64 x4.1.kind, .int .i64 x4.1.int, .str x4.1.label, eInt.fz x4.1.args], h5) ∧ appendA Tryd.prog h5 29 29 (.rs ad2 0 t0.length 4) (.fz [.int .i64 x4.1.kind, .int .i64 x4.1.int, .str x4.1.label, eInt.fz x4.1.args] 1 true) = some (.rs ad3 0 x5.length 4, h6) ∧ True) (by kernel_rfl) ⟨trivial, ⟨callO_of (by kernel_rfl) e11, e13, trivial⟩⟩ ?_
      refine er [] [] ⟨eByte.fz b0 :: .any :: .any :: .ptr ad0 0 :: .rs ad1 0 list0.length 2 :: .int .i64 x2.1 :: .int .i64 i0 :: .lp 8 0 :: .int .i64 x3.1 :: .int .i64 (i64.wrap (k0 + (1 : Int))) :: Ay8 [], [some [.rs ad3 0 x5.length 4, .int .i64 t1]], h6⟩ ((True) ∧ True) (by kernel_rfl) ⟨trivial, trivial⟩ ?_
      exact ⟨(i64.wrap (k0 + (1 : Int)), x5, t1, x4.2), ⟨.any, .any, .any, .any, .any, .any, ad3, h6, rfl, o8⟩, H⟩
    · have H := ifn c8 H
      refine ends_exit ?_
      have H := Option.some.inj H
      exact ⟨rfl, k0, t0, t1, ob1, H, .int .i64 x3.1, .int .i64 k0, .any, .any, .any, .bool (!ob1.f_bad), .any, .any, ad2, h4, rfl, o6⟩
  · have H := ifn c7 H
    refine er [] [(3, .bool false, none)] ⟨eByte.fz b0 :: .any :: .any :: .ptr ad0 0 :: .rs ad1 0 list0.length 2 :: .int .i64 x2.1 :: .int .i64 i0 :: .lp 8 0 :: .int .i64 x3.1 :: .int .i64 k0 :: Ay5 [.bool false, .any, .any], [some [.rs ad2 0 t0.length 4, .int .i64 t1]], h4⟩ ((True) ∧ AV.bool (decide (k0 < x3.1)) = AV.bool false ∧ True) (by kernel_rfl) ⟨trivial, ⟨congrArg AV.bool c7, trivial⟩⟩ ?_
    refine ends_cond false (by kernel_rfl) (fun c9 => ?_) (fun c9 => ?_)
    · cases c9
    refine ends_exit ?_
    have H := Option.some.inj H
    exact ⟨rfl, k0, t0, t1, ob1, H, .int .i64 x3.1, .int .i64 k0, .any, .any, .any, .bool false, .any, .any, ad2, h4, rfl, o6⟩
def pickle_Get.l0.R (L : Mem) (b0 : List Int) (ad0 : Nat) (x2 : Int × Rdr) (σ : (List VTree) × Int × Rdr) (s : St) : Prop :=
  match σ with
  | (list0, i0, ob0) => ∃ (g0 : AV) (g1 : AV) (g2 : AV) (g3 : AV) (g4 : AV) (g5 : AV) (ad1 : Nat) (h2 : AHeap), s = ⟨eByte.fz b0 :: .any :: .any :: .ptr ad0 0 :: .rs ad1 0 list0.length 2 :: .int .i64 x2.1 :: .int .i64 i0 :: Ay5 [g0, g1, g2, g3, g4, g5], [none], h2⟩ ∧ Has h2 ((ad0, .ob [eByte.fz ob0.f_b, .bool ob0.f_bad]) :: (ad1, .sl list0.length 2 (eTree.l list0)) :: L)
def pickle_Get.l0.Q (L : Mem) (b0 : List Int) (ad0 : Nat) (x2 : Int × Rdr) (out : (List VTree) × Int × Rdr) (e : Ex) (s : St) : Prop :=
  (e = .exit 0 ∧ ∃ (list0 : List VTree) (i0 : Int) (ob0 : Rdr), (list0, i0, ob0) = out ∧ ∃ (x7_ : AV) (x15_ : AV) (x33_ : AV) (x56_ : AV) (x70_ : AV) (x93_ : AV) (x106_ : AV) (ad1 : Nat) (h2 : AHeap), s = ⟨eByte.fz b0 :: .any :: .any :: .ptr ad0 0 :: .rs ad1 0 list0.length 2 :: .int .i64 x2.1 :: x7_ :: Ay5 [x15_, x33_, x56_, x70_, x93_, x106_], [none], h2⟩ ∧ Has h2 ((ad0, .ob [eByte.fz ob0.f_b, .bool ob0.f_bad]) :: (ad1, .sl list0.length 2 (eTree.l list0)) :: L))
theorem pickle_Get.l0_ok (L : Mem) (b0 : List Int) (ad0 : Nat) (x2 : Int × Rdr)  (S43_ : S43 cf m) (S44_ : S44 cf m) {σ : (List VTree) × Int × Rdr} {s : St} {out : (List VTree) × Int × Rdr} (hr : pickle_Get.l0.R L b0 ad0 x2 σ s) (H : (fun k σ => pickle_Get.l0 m x2 k σ.1 σ.2.1 σ.2.2) m σ = some out) : Enz Tryd.prog cf ann19 m (.loop g19L0) s (pickle_Get.l0.Q L b0 ad0 x2 out) := by
  refine ends_loop (fun k σ => pickle_Get.l0 m x2 k σ.1 σ.2.1 σ.2.2) (pickle_Get.l0.R L b0 ad0 x2) (pickle_Get.l0.Q L b0 ad0 x2) (fun _ => rfl) ?_ hr H (fun _ _ _ h => h)
  clear hr H σ s out
  rintro k ⟨list0, i0, ob0⟩ s out ⟨g0, g1, g2, g3, g4, g5, ad1, h2, rfl, o3⟩ H
  have H : pickle_Get.l0 m x2 (k + 1) list0 i0 ob0 = some out := H
  refine ends_of_eq g19L0_eq ?_
  refine ends_seq ?_
  refine ends_seq ?_
  rcases bft (decide (i0 < x2.1)) with c4 | c4
  · have H := ifp c4 H
    rcases bft (!ob0.f_bad) with c5 | c5
    · have H := ifp c5 H
      refine er [] [(3, .bool true, none), (7, .bool ob0.f_bad, none), (10, .bool true, none)] ⟨eByte.fz b0 :: .any :: .any :: .ptr ad0 0 :: .rs ad1 0 list0.length 2 :: .int .i64 x2.1 :: .int .i64 i0 :: Ay7 (.bool (decide (x2.1 ≤ (8 : Int))) :: Ay3 []), [none], h2⟩ ((True) ∧ AV.bool (decide (i0 < x2.1)) = AV.bool true ∧ loadH Tryd.prog h2 4 (.ptr ad0 1) = some (.bool ob0.f_bad) ∧ AV.bool (!ob0.f_bad) = AV.bool true ∧ True) (by kernel_rfl) ⟨trivial, ⟨congrArg AV.bool c4, ld_ob (q := 0) (cs := [eByte.fz ob0.f_b, .bool ob0.f_bad]) o3 rfl (by kernel_rfl), congrArg AV.bool c5, trivial⟩⟩ ?_
      refine ends_cond (decide (x2.1 ≤ (8 : Int))) (by kernel_rfl) (fun c6 => ?_) (fun c6 => ?_)
      · have H := ifp c6 H
        refine ends_skip ?_
        refine ends_seq ?_
        refine ends_block ?_
        refine sr [] [] ⟨eByte.fz b0 :: .any :: .any :: .ptr ad0 0 :: .rs ad1 0 list0.length 2 :: .int .i64 x2.1 :: .int .i64 i0 :: .lp 8 0 :: Ay10 [], [some [.rs ((0)) 0 (([] : List VNode).length) 4, .int .i64 (0 : Int)]], h2⟩ ((True) ∧ True) (by kernel_rfl) ⟨trivial, trivial⟩ ?_
        have o4 : Has h2 ((((0)), .sl (([] : List VNode).length) 4 (eNode.l ([] : List VNode))) :: (ad0, .ob [eByte.fz ob0.f_b, .bool ob0.f_bad]) :: (ad1, .sl list0.length 2 (eTree.l list0)) :: L) := Has.nil o3 4
        refine ends_seq ?_
        obtain ⟨x3, e8, H⟩ := bsi H
        obtain ⟨h3, e9, o5⟩ := S43_ _ _ e8 h2 _ _ ((Has.front (Has.front (Has.front o4 2 rfl) 1 rfl) 2 rfl))  [.ptr ad0 0] (can_cons (rfl) (can_nil))
        refine er [] [(1, .int .i64 x3.1, some h3)] ⟨eByte.fz b0 :: .any :: .any :: .ptr ad0 0 :: .rs ad1 0 list0.length 2 :: .int .i64 x2.1 :: .int .i64 i0 :: .lp 8 0 :: .int .i64 x3.1 :: Ay9 [], [some [.rs ((0)) 0 (([] : List VNode).length) 4, .int .i64 (0 : Int)]], h3⟩ ((True) ∧ callO cf (.fn 43 []) [.ptr ad0 0] h2 = some (.int .i64 x3.1, h3) ∧ True) (by kernel_rfl) ⟨trivial, ⟨callO_of (by kernel_rfl) e9, trivial⟩⟩ ?_
        refine ends_seq ?_
        refine sr [] [] ⟨eByte.fz b0 :: .any :: .any :: .ptr ad0 0 :: .rs ad1 0 list0.length 2 :: .int .i64 x2.1 :: .int .i64 i0 :: .lp 8 0 :: .int .i64 x3.1 :: .int .i64 (0 : Int) :: Ay8 [], [some [.rs ((0)) 0 (([] : List VNode).length) 4, .int .i64 (0 : Int)]], h3⟩ ((True) ∧ True) (by kernel_rfl) ⟨trivial, trivial⟩ ?_
        refine ends_block ?_
        obtain ⟨out0, e14, H⟩ := bsi H
        refine ends_mono (pickle_Get.l1_ok L b0 ad0 x2 ad1 list0 i0 ad1 x3  S44_ (σ := ((0 : Int), ([] : List VNode), (0 : Int), x3.2)) ⟨.any, .any, .any, .any, .any, .any, ((0)), h3, rfl, o5⟩ e14) ?_
        rintro e s ⟨rfl, k1, t2, t3, ob2, rfl, g12, g13, g14, g15, g16, g17, g18, g19, ad4, h7, rfl, o9⟩
        try dsimp only at H
        obtain ⟨h8, e15, o10⟩ := fr_own (E := eNode) (l := t2) (q := 1) o9 rfl
        obtain ⟨x6, e16, H⟩ := bsi H
        obtain ⟨ad5, h9, e17, o11⟩ := ap_own (P := Tryd.prog) (E := eTree) (l := list0) (q := 1) (t2 := 22) (x := .fz [eNode.fz t2, .int .i64 t3] 1 true) (l2 := ([(VTree.mk t2 t3)])) T22 o10 rfl (by kernel_rfl) rfl e16
        refine er [(eNode.fz t2, h8)] [(3, .rs ad5 0 x6.length 2, some h9)] ⟨eByte.fz b0 :: .any :: .any :: .ptr ad0 0 :: .rs ad5 0 x6.length 2 :: .int .i64 x2.1 :: .int .i64 i0 :: Ay11 [], [none], h9⟩ ((frzV 0 h7 (.rs ad4 0 t2.length 4) = some (eNode.fz t2, h8) ∧ True) ∧ appendA Tryd.prog h8 22 22 (.rs ad1 0 list0.length 2) (.fz [eNode.fz t2, .int .i64 t3] 1 true) = some (.rs ad5 0 x6.length 2, h9) ∧ True) (by kernel_rfl) ⟨⟨e15, trivial⟩, ⟨e17, trivial⟩⟩ ?_
        refine er [] [] ⟨eByte.fz b0 :: .any :: .any :: .ptr ad0 0 :: .rs ad5 0 x6.length 2 :: .int .i64 x2.1 :: .int .i64 (i64.wrap (i0 + (1 : Int))) :: Ay11 [], [none], h9⟩ ((True) ∧ True) (by kernel_rfl) ⟨trivial, trivial⟩ ?_
        exact ⟨(x6, i64.wrap (i0 + (1 : Int)), ob2), ⟨.any, .any, .any, .any, .any, .any, ad5, h9, rfl, o11⟩, H⟩
      · have H := ifn c6 H
        refine ends_exit ?_
        have H := Option.some.inj H
        exact ⟨rfl, list0, i0, ob0, H, .int .i64 i0, .any, .any, .bool (decide (x2.1 ≤ (8 : Int))), .any, .any, .any, ad1, h2, rfl, o3⟩
    · have H := ifn c5 H
      refine er [] [(3, .bool true, none), (7, .bool ob0.f_bad, none), (10, .bool false, none)] ⟨eByte.fz b0 :: .any :: .any :: .ptr ad0 0 :: .rs ad1 0 list0.length 2 :: .int .i64 x2.1 :: .int .i64 i0 :: Ay7 (.bool false :: Ay3 []), [none], h2⟩ ((True) ∧ AV.bool (decide (i0 < x2.1)) = AV.bool true ∧ loadH Tryd.prog h2 4 (.ptr ad0 1) = some (.bool ob0.f_bad) ∧ AV.bool (!ob0.f_bad) = AV.bool false ∧ True) (by kernel_rfl) ⟨trivial, ⟨congrArg AV.bool c4, ld_ob (q := 0) (cs := [eByte.fz ob0.f_b, .bool ob0.f_bad]) o3 rfl (by kernel_rfl), congrArg AV.bool c5, trivial⟩⟩ ?_
      refine ends_cond false (by kernel_rfl) (fun c10 => ?_) (fun c10 => ?_)
      · cases c10
      refine ends_exit ?_
      have H := Option.some.inj H
      exact ⟨rfl, list0, i0, ob0, H, .int .i64 i0, .any, .any, .bool false, .any, .any, .any, ad1, h2, rfl, o3⟩
  · have H := ifn c4 H
    refine er [] [(3, .bool false, none)] ⟨eByte.fz b0 :: .any :: .any :: .ptr ad0 0 :: .rs ad1 0 list0.length 2 :: .int .i64 x2.1 :: .int .i64 i0 :: Ay7 (.bool false :: Ay3 []), [none], h2⟩ ((True) ∧ AV.bool (decide (i0 < x2.1)) = AV.bool false ∧ True) (by kernel_rfl) ⟨trivial, ⟨congrArg AV.bool c4, trivial⟩⟩ ?_
    refine ends_cond false (by kernel_rfl) (fun c11 => ?_) (fun c11 => ?_)
    · cases c11
    refine ends_exit ?_
    have H := Option.some.inj H
    exact ⟨rfl, list0, i0, ob0, H, .int .i64 i0, .any, .any, .bool false, .any, .any, .any, ad1, h2, rfl, o3⟩
theorem pickle_Get_body {ann : FuncId → Ann} (ha : ann 19 = ann19) (S14_ : S14 cf m) (S41_ : S41 cf m) (S42_ : S42 cf m) (S43_ : S43 cf m) (S44_ : S44 cf m) (b0 : List Int) (h : AHeap) (L : Mem)  (o : Has h (L)) {out : (List VTree) × Int} (H : pickle_Get.f m b0 = some out) :
    ∃ r h', bodyA Tryd.prog ann cf m 19 [eByte.fz b0] h = some (r, h') ∧ Frz h' r (.tup [eTree.fz out.1, .int .i64 out.2]) := by
  refine body_of_ends2 (fn := Tryd.f19) ha Tryd.func19 (by kernel_rfl) (by kernel_rfl) ?_
  refine ends_fin (Q := fun s => pickle_Get.fin L out s) (fun _ _ h => h) ?_
  refine ends_of_eq g19_eq ?_
  have H : _ = some out := H
  unfold pickle_Get.f at H
  show Enz _ cf ann19 m _ ⟨eByte.fz b0 :: Ay17 [], [none], h⟩ _
  refine sr [] [] ⟨eByte.fz b0 :: Ay17 [], [none], h⟩ ((True) ∧ True) (by kernel_rfl) ⟨trivial, trivial⟩ ?_
  refine ends_seq ?_
  refine sr [] [] ⟨eByte.fz b0 :: Ay11 (.bool (decide ((b0.length : Int) > (200000 : Int))) :: Ay5 []), [none], h⟩ ((True) ∧ True) (by kernel_rfl) ⟨trivial, trivial⟩ ?_
  refine ends_cond (decide ((b0.length : Int) > (200000 : Int))) (by kernel_rfl) (fun c0 => ?_) (fun c0 => ?_)
  · have H := ifp c0 H
    refine sr [] [] ⟨.any :: .nils :: .int .i64 (3 : Int) :: Ay15 [], [none], h⟩ ((True) ∧ True) (by kernel_rfl) ⟨trivial, trivial⟩ ?_
    refine ends_ret ?_
    have H := Option.some.inj H
    subst H
    exact ⟨.inl rfl, ⟨.tup [.nils, .int .i64 (3 : Int)], by kernel_rfl, frz (fr_tup (fr_cons (fr_nils) (fr_cons (fr_int) (fr_nil))))⟩⟩
  · have H := ifn c0 H
    refine ends_skip ?_
    refine ends_seq ?_
    refine ends_seq ?_
    rcases bft (decide ((b0.length : Int) < (7 : Int))) with c1 | c1
    · have H := ifp c1 H
      refine er [] [(3, .bool true, none)] ⟨eByte.fz b0 :: Ay12 (.bool true :: Ay4 []), [none], h⟩ ((True) ∧ AV.bool (decide ((b0.length : Int) < (7 : Int))) = AV.bool true ∧ True) (by kernel_rfl) ⟨trivial, ⟨congrArg AV.bool c1, trivial⟩⟩ ?_
      refine ends_cond true (by kernel_rfl) (fun c2 => ?_) (fun c2 => ?_)
      rotate_left
      · cases c2
      refine sr [] [] ⟨.any :: .nils :: .int .i64 (2 : Int) :: Ay15 [], [none], h⟩ ((True) ∧ True) (by kernel_rfl) ⟨trivial, trivial⟩ ?_
      refine ends_ret ?_
      have H := Option.some.inj H
      subst H
      exact ⟨.inl rfl, ⟨.tup [.nils, .int .i64 (2 : Int)], by kernel_rfl, frz (fr_tup (fr_cons (fr_nils) (fr_cons (fr_int) (fr_nil))))⟩⟩
    · have H := ifn c1 H
      obtain ⟨v0, e0, H⟩ := bsi H
      obtain ⟨x0, e1, H⟩ := bsi H
      obtain ⟨v1, e2, H⟩ := bsi H
      obtain ⟨x1, e3, H⟩ := bsi H
      refine er [] [(3, .bool false, none), (8, eByte.fz v0, none), (9, eByte.fz x0, some h), (14, eByte.fz v1, none), (15, .bool x1, some h)] ⟨eByte.fz b0 :: Ay12 (.bool (!x1) :: Ay4 []), [none], h⟩ ((True) ∧ AV.bool (decide ((b0.length : Int) < (7 : Int))) = AV.bool false ∧ sliceA Tryd.prog 25 (eByte.fz b0) none (some (.int .i64 (i64.wrap ((b0.length : Int) - (4 : Int))))) none = some (eByte.fz v0) ∧ callO cf (.fn 42 []) [eByte.fz v0] h = some (eByte.fz x0, h) ∧ sliceA Tryd.prog 25 (eByte.fz b0) (some (.int .i64 (i64.wrap ((b0.length : Int) - (4 : Int))))) none none = some (eByte.fz v1) ∧ callO cf (.fn 41 []) [eByte.fz x0, eByte.fz v1] h = some (.bool x1, h) ∧ True) (by kernel_rfl) ⟨trivial, ⟨congrArg AV.bool c1, sl_fz01 (E := eByte) T25 e0, callO_of (by kernel_rfl) (S42_ _ _ e1 _ _ (frs (fr_cons (fr_fz (E := eByte)) (fr_nil)))), sl_fz10 (E := eByte) T25 e2, callO_of (by kernel_rfl) (S41_ _ _ _ e3 _ _ (frs (fr_cons (fr_fz (E := eByte)) (fr_cons (fr_fz (E := eByte)) (fr_nil))))), trivial⟩⟩ ?_
      refine ends_cond (!x1) (by kernel_rfl) (fun c3 => ?_) (fun c3 => ?_)
      · have H := ifp c3 H
        refine sr [] [] ⟨.any :: .nils :: .int .i64 (2 : Int) :: Ay15 [], [none], h⟩ ((True) ∧ True) (by kernel_rfl) ⟨trivial, trivial⟩ ?_
        refine ends_ret ?_
        have H := Option.some.inj H
        subst H
        exact ⟨.inl rfl, ⟨.tup [.nils, .int .i64 (2 : Int)], by kernel_rfl, frz (fr_tup (fr_cons (fr_nils) (fr_cons (fr_int) (fr_nil))))⟩⟩
      · have H := ifn c3 H
        refine ends_skip ?_
        refine ends_seq ?_
        obtain ⟨v2, e4, H⟩ := bsi H
        obtain ⟨ad0, h0, e5, o0⟩ := bx_new (cs := [eByte.fz v2, .bool false]) o (by kernel_rfl)
        refine er [] [(4, eByte.fz v2, none), (6, .ptr ad0 0, some h0)] ⟨eByte.fz b0 :: .any :: .any :: .ptr ad0 0 :: Ay14 [], [none], h0⟩ ((True) ∧ sliceA Tryd.prog 25 (eByte.fz b0) (some (.int .i64 (2 : Int))) (some (.int .i64 (i64.wrap ((b0.length : Int) - (4 : Int))))) none = some (eByte.fz v2) ∧ boxH h [eByte.fz v2, .bool false] = some (.ptr ad0 0, h0) ∧ True) (by kernel_rfl) ⟨trivial, ⟨sl_fz11 (E := eByte) T25 e4, e5, trivial⟩⟩ ?_
        refine sr [] [] ⟨eByte.fz b0 :: .any :: .any :: .ptr ad0 0 :: .rs (0) 0 (([] : List VTree).length) 2 :: Ay13 [], [none], h0⟩ ((True) ∧ True) (by kernel_rfl) ⟨trivial, trivial⟩ ?_
        have o1 : Has h0 (((0), .sl (([] : List VTree).length) 2 (eTree.l ([] : List VTree))) :: (ad0, .ob [eByte.fz v2, .bool false]) :: L) := Has.nil o0 2
        refine ends_seq ?_
        obtain ⟨x2, e6, H⟩ := bsi H
        obtain ⟨h1, e7, o2⟩ := S43_ _ _ e6 h0 _ _ ((Has.front (Has.front o1 0 rfl) 1 rfl))  [.ptr ad0 0] (can_cons (rfl) (can_nil))
        refine er [] [(1, .int .i64 x2.1, some h1)] ⟨eByte.fz b0 :: .any :: .any :: .ptr ad0 0 :: .rs (0) 0 (([] : List VTree).length) 2 :: .int .i64 x2.1 :: Ay12 [], [none], h1⟩ ((True) ∧ callO cf (.fn 43 []) [.ptr ad0 0] h0 = some (.int .i64 x2.1, h1) ∧ True) (by kernel_rfl) ⟨trivial, ⟨callO_of (by kernel_rfl) e7, trivial⟩⟩ ?_
        refine ends_seq ?_
        refine sr [] [] ⟨eByte.fz b0 :: .any :: .any :: .ptr ad0 0 :: .rs (0) 0 (([] : List VTree).length) 2 :: .int .i64 x2.1 :: .int .i64 (0 : Int) :: Ay11 [], [none], h1⟩ ((True) ∧ True) (by kernel_rfl) ⟨trivial, trivial⟩ ?_
        refine ends_block ?_
        obtain ⟨out1, e18, H⟩ := bsi H
        refine ends_mono (pickle_Get.l0_ok L b0 ad0 x2  S43_ S44_ (σ := (([] : List VTree), (0 : Int), x2.2)) ⟨.any, .any, .any, .any, .any, .any, (0), h1, rfl, o2⟩ e18) ?_
        rintro e s ⟨rfl, list1, i1, ob3, rfl, g20, g21, g22, g23, g24, g25, g26, ad6, h10, rfl, o12⟩
        try dsimp only at H
        refine ends_seq ?_
        refine ends_seq ?_
        rcases bft (ob3.f_bad) with c12 | c12
        · have H := ifp c12 H
          refine er [] [(3, .bool ob3.f_bad, none), (4, .bool true, none)] ⟨eByte.fz b0 :: Ay3 (.rs ad6 0 list1.length 2 :: Ay11 [.bool true, .any]), [none], h10⟩ ((True) ∧ loadH Tryd.prog h10 4 (.ptr ad0 1) = some (.bool ob3.f_bad) ∧ AV.bool ob3.f_bad = AV.bool true ∧ True) (by kernel_rfl) ⟨trivial, ⟨ld_ob (q := 0) (cs := [eByte.fz ob3.f_b, .bool ob3.f_bad]) o12 rfl (by kernel_rfl), congrArg AV.bool c12, trivial⟩⟩ ?_
          have o13 : Has h10 ((ad6, .sl list1.length 2 (eTree.l list1)) :: L) := Has.del o12 0
          refine ends_cond true (by kernel_rfl) (fun c13 => ?_) (fun c13 => ?_)
          rotate_left
          · cases c13
          refine sr [] [] ⟨.any :: .nils :: .int .i64 (2 : Int) :: Ay15 [], [none], h10⟩ ((True) ∧ True) (by kernel_rfl) ⟨trivial, trivial⟩ ?_
          have o14 : Has h10 (L) := Has.del o13 0
          refine ends_ret ?_
          have H := Option.some.inj H
          subst H
          exact ⟨.inl rfl, ⟨.tup [.nils, .int .i64 (2 : Int)], by kernel_rfl, frz (fr_tup (fr_cons (fr_nils) (fr_cons (fr_int) (fr_nil))))⟩⟩
        · have H := ifn c12 H
          refine er [] [(3, .bool ob3.f_bad, none), (4, .bool false, none)] ⟨eByte.fz b0 :: Ay3 (.rs ad6 0 list1.length 2 :: Ay11 [.bool (!((list1.length : Int) == x2.1)), .any]), [none], h10⟩ ((True) ∧ loadH Tryd.prog h10 4 (.ptr ad0 1) = some (.bool ob3.f_bad) ∧ AV.bool ob3.f_bad = AV.bool false ∧ True) (by kernel_rfl) ⟨trivial, ⟨ld_ob (q := 0) (cs := [eByte.fz ob3.f_b, .bool ob3.f_bad]) o12 rfl (by kernel_rfl), congrArg AV.bool c12, trivial⟩⟩ ?_
          have o15 : Has h10 ((ad6, .sl list1.length 2 (eTree.l list1)) :: L) := Has.del o12 0
          refine ends_cond (!((list1.length : Int) == x2.1)) (by kernel_rfl) (fun c14 => ?_) (fun c14 => ?_)
          · have H := ifp c14 H
            refine sr [] [] ⟨.any :: .nils :: .int .i64 (2 : Int) :: Ay15 [], [none], h10⟩ ((True) ∧ True) (by kernel_rfl) ⟨trivial, trivial⟩ ?_
            have o16 : Has h10 (L) := Has.del o15 0
            refine ends_ret ?_
            have H := Option.some.inj H
            subst H
            exact ⟨.inl rfl, ⟨.tup [.nils, .int .i64 (2 : Int)], by kernel_rfl, frz (fr_tup (fr_cons (fr_nils) (fr_cons (fr_int) (fr_nil))))⟩⟩
          · have H := ifn c14 H
            refine ends_skip ?_
            refine ends_seq ?_
            obtain ⟨h11, e19, o17⟩ := fr_own (E := eTree) (l := list1) (q := 0) o15 rfl
            obtain ⟨x7, e20, H⟩ := bsi H
            refine er [(eTree.fz list1, h11)] [(1, .tup [eByte.fz x7.1, .int .i64 x7.2], some h11)] ⟨eByte.fz b0 :: Ay3 (eTree.fz list1 :: Ay5 (eByte.fz x7.1 :: .int .i64 x7.2 :: Ay6 [])), [none], h11⟩ ((frzV 0 h10 (.rs ad6 0 list1.length 2) = some (eTree.fz list1, h11) ∧ True) ∧ callO cf (.fn 14 []) [eTree.fz list1] h11 = some (.tup [eByte.fz x7.1, .int .i64 x7.2], h11) ∧ True) (by kernel_rfl) ⟨⟨e19, trivial⟩, ⟨callO_of (by kernel_rfl) (S14_ _ _ e20 _ _ (pu_cons (pu_fz (E := eTree)) (pu_nil))), trivial⟩⟩ ?_
            refine ends_seq ?_
            refine ends_seq ?_
            rcases bft (!(x7.2 == (0 : Int))) with c15 | c15
            · have H := ifp c15 H
              refine er [] [(2, .bool true, none)] ⟨Ay4 (eTree.fz list1 :: Ay12 [.bool true]), [none], h11⟩ ((True) ∧ AV.bool (!(x7.2 == (0 : Int))) = AV.bool true ∧ True) (by kernel_rfl) ⟨trivial, ⟨congrArg AV.bool c15, trivial⟩⟩ ?_
              refine ends_cond true (by kernel_rfl) (fun c16 => ?_) (fun c16 => ?_)
              rotate_left
              · cases c16
              refine sr [] [] ⟨.any :: .nils :: .int .i64 (2 : Int) :: Ay15 [], [none], h11⟩ ((True) ∧ True) (by kernel_rfl) ⟨trivial, trivial⟩ ?_
              refine ends_ret ?_
              have H := Option.some.inj H
              subst H
              exact ⟨.inl rfl, ⟨.tup [.nils, .int .i64 (2 : Int)], by kernel_rfl, frz (fr_tup (fr_cons (fr_nils) (fr_cons (fr_int) (fr_nil))))⟩⟩
            · have H := ifn c15 H
              obtain ⟨x8, e21, H⟩ := bsi H
              refine er [] [(2, .bool false, none), (5, .bool x8, some h11)] ⟨Ay4 (eTree.fz list1 :: Ay12 [.bool (!x8)]), [none], h11⟩ ((True) ∧ AV.bool (!(x7.2 == (0 : Int))) = AV.bool false ∧ callO cf (.fn 41 []) [eByte.fz x7.1, eByte.fz b0] h11 = some (.bool x8, h11) ∧ True) (by kernel_rfl) ⟨trivial, ⟨congrArg AV.bool c15, callO_of (by kernel_rfl) (S41_ _ _ _ e21 _ _ (frs (fr_cons (fr_fz (E := eByte)) (fr_cons (fr_fz (E := eByte)) (fr_nil))))), trivial⟩⟩ ?_
              refine ends_cond (!x8) (by kernel_rfl) (fun c17 => ?_) (fun c17 => ?_)
              · have H := ifp c17 H
                refine sr [] [] ⟨.any :: .nils :: .int .i64 (2 : Int) :: Ay15 [], [none], h11⟩ ((True) ∧ True) (by kernel_rfl) ⟨trivial, trivial⟩ ?_
                refine ends_ret ?_
                have H := Option.some.inj H
                subst H
                exact ⟨.inl rfl, ⟨.tup [.nils, .int .i64 (2 : Int)], by kernel_rfl, frz (fr_tup (fr_cons (fr_nils) (fr_cons (fr_int) (fr_nil))))⟩⟩
              · have H := ifn c17 H
                refine ends_skip ?_
                refine sr [] [] ⟨.any :: eTree.fz list1 :: .int .i64 (0 : Int) :: Ay15 [], [none], h11⟩ ((True) ∧ True) (by kernel_rfl) ⟨trivial, trivial⟩ ?_
                refine ends_ret ?_
                have H := Option.some.inj H
                subst H
                exact ⟨.inl rfl, ⟨.tup [eTree.fz list1, .int .i64 (0 : Int)], by kernel_rfl, frz (fr_tup (fr_cons (fr_fz) (fr_cons (fr_int) (fr_nil))))⟩⟩
end
end Go.Proofs.YtmekcfdllhphlaaDoor

namespace Go.Proofs.YtmekcfdllhphlaaDoor
open Go Go.R
open Go.IntKind (i64 u64 u8 u32)
def encNodes (l : List VNode) : List Int := (l.map encNode).flatten
def encTree (t : VTree) : List Int := encN t.nodes.length ++ encNodes t.nodes
def encTrees (l : List VTree) : List Int := (l.map encTree).flatten
def encList (l : List VTree) : List Int := [76, 1] ++ (encN l.length ++ encTrees l)
structure WTree (t : VTree) : Prop where
  nodes : ∀ n ∈ t.nodes, WNode n
  few : t.nodes.length < 2 ^ 30
  root : t.root = 0
theorem encNodes_cons (n : VNode) (l : List VNode) : encNodes (n :: l) = encNode n ++ encNodes l := by simp [encNodes]
theorem encTrees_cons (t : VTree) (l : List VTree) : encTrees (t :: l) = encTree t ++ encTrees l := by simp [encTrees]
theorem drop_cons {α : Type} {l : List α} {i : Nat} {a : α} {r : List α} (h : l.drop i = a :: r) : i < l.length ∧ ix l (i : Int) = some a ∧ l.drop (i + 1) = r ∧ a ∈ l := by
  have h1 : i < l.length := by
    have := congrArg List.length h
    simp at this
    omega
  have h2 : l[i]? = some a := by
    have := congrArg (·[0]?) h
    simpa using this
  refine ⟨h1, ?_, by rw [← List.tail_drop, h]; rfl, List.mem_of_getElem? h2⟩
  unfold ix
  rw [if_pos (by omega)]
  exact h2
theorem drop_nil {α : Type} {l : List α} {i : Nat} (h : l.drop i = []) : l.length ≤ i := by
  have := congrArg List.length h
  simp at this
  omega
theorem wnodes {m : Nat} (hm : 11 ≤ m) (v : VTree) : ∀ (l : List VNode) (f i : Nat) (w : List Int), l.length < f → v.nodes.drop i = l → (∀ n ∈ l, WNode n) → w ≠ [] → w.length + (encNodes l).length + 2 ^ 41 ≤ 140737488355328 → i + l.length < 2 ^ 40 →
    ∃ x, pickle_write.l1 m v f (i : Int) w = some (x, w ++ encNodes l)
  | l, 0, i, w, hf, _, _, _, _, _ => absurd hf (by omega)
  | [], f + 1, i, w, hf, hd, hW, hw, hl, hi => by
    refine ⟨i, ?_⟩
    have := drop_nil hd
    unfold pickle_write.l1
    rw [if_neg (by simp; omega)]
    simp [encNodes]
  | n :: l, f + 1, i, w, hf, hd, hW, hw, hl, hi => by
    obtain ⟨h1, h2, h3, h4⟩ := drop_cons hd
    have p41 : (2 : Nat) ^ 41 = 2199023255552 := by decide
    have p40 : (2 : Nat) ^ 40 = 1099511627776 := by decide
    have hWn := hW n (by simp)
    have hlab : n.label.size < 2 ^ 40 := by
      rcases hWn.kind with ⟨_, _, h, _⟩ | ⟨_, _, h, _⟩ | ⟨h, _⟩ | ⟨h, _⟩
      · rw [h]; decide
      · rw [h]; decide
      · exact (hWn.label (by omega)).2
      · exact (hWn.label (by omega)).2
    rw [encNodes_cons, List.length_append] at hl
    simp only [List.length_cons] at hf hi
    obtain ⟨x, ih⟩ := wnodes hm v l f (i + 1) (w ++ encNode n) (by omega) h3 (fun k hk => hW k (by simp [hk])) (by simp [hw]) (by simp; omega) (by omega)
    refine ⟨x, ?_⟩
    unfold pickle_write.l1
    rw [if_pos (by simp; omega), h2, Option.bind_some, wnode hm hWn (by omega) hw, Option.bind_some, i64_id (by omega) (by omega), show ((i : Int) + 1) = ((i + 1 : Nat) : Int) by omega, ih, encNodes_cons, List.append_assoc]
theorem wtrees {m : Nat} (hm : 2 ^ 30 ≤ m) (L : List VTree) : ∀ (l : List VTree) (f i : Nat) (w : List Int), l.length < f → L.drop i = l → (∀ t ∈ l, WTree t) → w ≠ [] → w.length + (encTrees l).length + 2 ^ 41 ≤ 140737488355328 → i + l.length < 2 ^ 40 →
    ∃ x, pickle_write.l0 m L f (i : Int) w = some (x, w ++ encTrees l)
  | l, 0, i, w, hf, _, _, _, _, _ => absurd hf (by omega)
  | [], f + 1, i, w, hf, hd, hW, hw, hl, hi => by
    refine ⟨i, ?_⟩
    have := drop_nil hd
    unfold pickle_write.l0
    rw [if_neg (by simp; omega)]
    simp [encTrees]
  | t :: l, f + 1, i, w, hf, hd, hW, hw, hl, hi => by
    obtain ⟨h1, h2, h3, h4⟩ := drop_cons hd
    have p41 : (2 : Nat) ^ 41 = 2199023255552 := by decide
    have p40 : (2 : Nat) ^ 40 = 1099511627776 := by decide
    have p30 : (2 : Nat) ^ 30 = 1073741824 := by decide
    have hWt := hW t (by simp)
    have hfew := hWt.few
    rw [encTrees_cons, List.length_append] at hl
    have he : (encTree t).length = (encN t.nodes.length).length + (encNodes t.nodes).length := by simp [encTree]
    simp only [List.length_cons] at hf hi
    obtain ⟨x, ih⟩ := wtrees hm L l f (i + 1) (w ++ encTree t) (by omega) h3 (fun k hk => hW k (by simp [hk])) (by simp [hw]) (by simp; omega) (by omega)
    obtain ⟨y, hy⟩ := wnodes (m := m) (by omega) t t.nodes m 0 (w ++ encN t.nodes.length) (by omega) rfl hWt.nodes (by simp [hw]) (by simp; omega) (by omega)
    have hy : pickle_write.l1 m t m (0 : Int) (w ++ encN t.nodes.length) = _ := hy
    refine ⟨x, ?_⟩
    unfold pickle_write.l0
    rw [if_pos (by simp; omega), h2, Option.bind_some, u64_id (by omega) (by omega), wnum (by omega) (by omega) hw (by omega), Option.bind_some, hy, Option.bind_some]
    dsimp only
    rw [i64_id (by omega) (by omega), show ((i : Int) + 1) = ((i + 1 : Nat) : Int) by omega]
    rw [show w ++ encN t.nodes.length ++ encNodes t.nodes = w ++ encTree t by simp [encTree]]
    rw [ih, encTrees_cons, List.append_assoc]
theorem wlist {m : Nat} (hm : 2 ^ 30 ≤ m) {L : List VTree} (hW : ∀ t ∈ L, WTree t) (hl : (encTrees L).length + 2 ^ 42 ≤ 140737488355328) (hL : L.length < 2 ^ 30) : pickle_write.f m L = (pickle_check.f m (encList L)).bind fun c => app 1 (encList L) c := by
  have p42 : (2 : Nat) ^ 42 = 4398046511104 := by decide
  have p41 : (2 : Nat) ^ 41 = 2199023255552 := by decide
  have p40 : (2 : Nat) ^ 40 = 1099511627776 := by decide
  have p30 : (2 : Nat) ^ 30 = 1073741824 := by decide
  unfold pickle_write.f
  have h1 : wB ([] : List Int) [(76 : Int)] = some [76] := by unfold wB; rw [if_pos (by simp)]; rfl
  have e0 : (encN L.length).length ≤ 10 := encN_len64 (by omega)
  obtain ⟨x, hx⟩ := wtrees (m := m) hm L L m 0 ([76] ++ [1] ++ encN L.length) (by omega) rfl hW (by simp) (by simp; omega) (by omega)
  have hx : pickle_write.l0 m L m (0 : Int) ([76] ++ [1] ++ encN L.length) = _ := hx
  rw [h1, Option.bind_some, wB1_some (by simp) (by simp) (by simp), Option.bind_some, u64_id (by omega) (by omega), wnum (by omega) (by omega) (by simp) (by simp), Option.bind_some, hx, Option.bind_some]
  dsimp only
  rw [show [(76 : Int)] ++ [1] ++ encN L.length ++ encTrees L = encList L by simp [encList]]
  have h2 : bufLen (encList L) = some () := by
    unfold bufLen
    rw [if_pos ⟨by simp [encList], by simp [encList]; omega⟩]
  rw [h2, Option.bind_some]
  congr 1
  funext c
  cases app 1 (encList L) c <;> rfl
end Go.Proofs.YtmekcfdllhphlaaDoor

namespace Go.Proofs.YtmekcfdllhphlaaDoor
open Go Go.R
open Go.IntKind (i64 u64 u8 u32)
theorem rnodes {m : Nat} (hm : 11 ≤ m) (x3 : Int × Rdr) (rest : List Int) (hx : x3.1 < 2 ^ 30) : ∀ (l : List VNode) (f k : Nat) (acc : List VNode), l.length < f → (k : Int) + l.length = x3.1 → acc.length = k → (∀ n ∈ l, WNode n) →
    ∃ x, pickle_Get.l1 m x3 f (k : Int) acc 0 ⟨encNodes l ++ rest, false⟩ = some (x, acc ++ l, 0, ⟨rest, false⟩)
  | l, 0, k, acc, hf, _, _, _ => absurd hf (by omega)
  | [], f + 1, k, acc, hf, hk, ha, hW => by
    refine ⟨k, ?_⟩
    simp only [List.length_nil] at hk
    unfold pickle_Get.l1
    rw [if_neg (by simp; omega)]
    simp [encNodes]
  | n :: l, f + 1, k, acc, hf, hk, ha, hW => by
    simp only [List.length_cons] at hf hk
    have p30 : (2 : Int) ^ 30 = 1073741824 := by decide
    obtain ⟨x, ih⟩ := rnodes hm x3 rest hx l f (k + 1) (acc ++ [n]) (by omega) (by omega) (by simp; omega) (fun c hc => hW c (by simp [hc]))
    refine ⟨x, ?_⟩
    unfold pickle_Get.l1
    have hap : app 56 acc [n] = some (acc ++ [n]) := by unfold app; rw [if_pos (by simp; omega)]
    rw [if_pos (by simp; omega), if_pos (show (!false) = true from rfl), encNodes_cons, List.append_assoc, rnode hm (hW n (by simp)), Option.bind_some]
    dsimp only
    rw [hap, Option.bind_some, i64_id (by omega) (by omega), show ((k : Int) + 1) = ((k + 1 : Nat) : Int) by omega, ih]
    simp
theorem rtrees {m : Nat} (hm : 2 ^ 30 ≤ m) (x2 : Int × Rdr) (rest : List Int) (hx : x2.1 ≤ 8) : ∀ (l : List VTree) (f k : Nat) (acc : List VTree), l.length < f → (k : Int) + l.length = x2.1 → acc.length = k → (∀ t ∈ l, WTree t) →
    ∃ x, pickle_Get.l0 m x2 f acc (k : Int) ⟨encTrees l ++ rest, false⟩ = some (acc ++ l, x, ⟨rest, false⟩)
  | l, 0, k, acc, hf, _, _, _ => absurd hf (by omega)
  | [], f + 1, k, acc, hf, hk, ha, hW => by
    refine ⟨k, ?_⟩
    simp only [List.length_nil] at hk
    unfold pickle_Get.l0
    rw [if_neg (by simp; omega)]
    simp [encTrees]
  | t :: l, f + 1, k, acc, hf, hk, ha, hW => by
    simp only [List.length_cons] at hf hk
    have p30 : (2 : Int) ^ 30 = 1073741824 := by decide
    have q30 : (2 : Nat) ^ 30 = 1073741824 := by decide
    have hWt := hW t (by simp)
    have hfew := hWt.few
    obtain ⟨x, ih⟩ := rtrees hm x2 rest hx l f (k + 1) (acc ++ [t]) (by omega) (by omega) (by simp; omega) (fun c hc => hW c (by simp [hc]))
    obtain ⟨y, hy⟩ := rnodes (m := m) (by omega) ((t.nodes.length : Int), (⟨encNodes t.nodes ++ (encTrees l ++ rest), false⟩ : Rdr)) (encTrees l ++ rest) (by simp only; omega) t.nodes m 0 [] (by omega) (by simp) rfl hWt.nodes
    have hy : pickle_Get.l1 m ((t.nodes.length : Int), (⟨encNodes t.nodes ++ (encTrees l ++ rest), false⟩ : Rdr)) m (0 : Int) [] 0 ⟨encNodes t.nodes ++ (encTrees l ++ rest), false⟩ = _ := hy
    refine ⟨x, ?_⟩
    unfold pickle_Get.l0
    have hap : app 32 acc [t] = some (acc ++ [t]) := by unfold app; rw [if_pos (by simp; omega)]
    rw [if_pos (by simp; omega), if_pos (show (!false) = true from rfl), if_pos (by simp; omega), encTrees_cons, encTree, List.append_assoc, List.append_assoc, rnum (by omega) (by omega), Option.bind_some]
    dsimp only
    rw [hy, Option.bind_some]
    dsimp only
    rw [show VTree.mk ([] ++ t.nodes) 0 = t by rw [List.nil_append, ← hWt.root], hap, Option.bind_some, i64_id (by omega) (by omega), show ((k : Int) + 1) = ((k + 1 : Nat) : Int) by omega, ih]
    simp
end Go.Proofs.YtmekcfdllhphlaaDoor

namespace Go.Proofs.YtmekcfdllhphlaaDoor
open Go Go.R
open Go.IntKind (i64 u64 u8 u32)
theorem byte_tot {m : Nat} (r : Rdr) : ∃ c r', rd_byte.f m r = some (c, r') ∧ r'.f_b.length ≤ r.f_b.length := by
  obtain ⟨l, bad⟩ := r
  cases l with
  | nil => exact ⟨0, ⟨[], true⟩, by unfold rd_byte.f; rw [if_pos (by simp)], Nat.le_refl _⟩
  | cons c l => exact ⟨c, ⟨l, bad⟩, rbyte, by simp⟩
theorem num_tot {m : Nat} : ∀ (f j : Nat) (n : Int) (r : Rdr), j ≤ 9 → 10 - j < f → ∃ n' s' r', rd_number.l0 m f n ((7 * j : Nat) : Int) r = some (n', s', r') ∧ r'.f_b.length ≤ r.f_b.length
  | 0, j, n, r, _, hf => absurd hf (by omega)
  | f + 1, j, n, r, hj, hf => by
    unfold rd_number.l0
    split
    rotate_left
    · exact ⟨_, _, _, rfl, Nat.le_refl _⟩
    obtain ⟨c, r', h1, h2⟩ := byte_tot (m := m) r
    rw [h1, Option.bind_some]
    dsimp only
    split
    · exact ⟨_, _, _, rfl, h2⟩
    rename_i g
    have hj8 : j ≤ 8 := by simp at g; omega
    have hsh : ∃ v, shLv .u64 (u64.wrap (bitsAnd .u8 c 127)) ((7 * j : Nat) : Int) = some v := ⟨_, by unfold shLv; rw [if_neg (by omega)]⟩
    obtain ⟨v, hv⟩ := hsh
    have hrec : ∃ n' s' r'', rd_number.l0 m f (bitsOr .u64 n v) (i64.wrap (((7 * j : Nat) : Int) + 7)) r' = some (n', s', r'') ∧ r''.f_b.length ≤ r.f_b.length := by
      obtain ⟨n', s', r'', k1, k2⟩ := num_tot f (j + 1) (bitsOr .u64 n v) r' (by omega) (by omega)
      refine ⟨n', s', r'', ?_, Nat.le_trans k2 h2⟩
      rw [i64_id (by omega) (by omega), show (((7 * j : Nat) : Int) + 7) = ((7 * (j + 1) : Nat) : Int) by omega, k1]
    split
    · split
      · exact ⟨_, _, _, rfl, h2⟩
      · rw [hv, Option.bind_some]
        split
        · exact ⟨_, _, _, rfl, h2⟩
        · exact hrec
    · rw [hv, Option.bind_some]
      split
      · exact ⟨_, _, _, rfl, h2⟩
      · exact hrec
theorem number_tot {m : Nat} (hm : 11 ≤ m) (r : Rdr) : ∃ n r', rd_number.f m r = some (n, r') ∧ -9223372036854775808 ≤ n ∧ n < 9223372036854775808 ∧ r'.f_b.length ≤ r.f_b.length := by
  obtain ⟨n', s', r', h1, h2⟩ := num_tot (m := m) m 0 0 r (by omega) (by omega)
  have h1 : rd_number.l0 m m (0 : Int) (0 : Int) r = _ := h1
  refine ⟨i64.wrap n', r', ?_, ?_, ?_, h2⟩
  · unfold rd_number.f
    rw [h1, Option.bind_some]
  · rw [i64_wrap]; split <;> omega
  · rw [i64_wrap]; split <;> omega
end Go.Proofs.YtmekcfdllhphlaaDoor

namespace Go.Proofs.YtmekcfdllhphlaaDoor
open Go Go.R
open Go.IntKind (i64 u64 u8 u32)
theorem text_tot {m : Nat} (hm : 11 ≤ m) (r : Rdr) (h0 : r.f_b.length ≤ 200000) : (∃ n r', rd_number.f m r = some (n, r') ∧ 0 ≤ n) → ∃ s r', rd_text.f m r = some (s, r') ∧ r'.f_b.length ≤ r.f_b.length := by
  rintro ⟨n, r', h1, hn⟩
  obtain ⟨n2, r2, h2, _, _, h3⟩ := number_tot hm r
  rw [h1] at h2
  cases h2
  unfold rd_text.f
  rw [h1, Option.bind_some]
  dsimp only
  split
  · exact ⟨_, _, rfl, h3⟩
  split
  · exact ⟨_, _, rfl, h3⟩
  rename_i g1 g2
  simp at g2
  have a1 : slc r'.f_b 0 n = some (r'.f_b.take n.toNat) := by unfold slc; rw [if_pos ⟨Int.le_refl _, hn, by omega⟩]; simp
  have a2 : slc r'.f_b n (r'.f_b.length : Int) = some (r'.f_b.drop n.toNat) := by
    unfold slc; rw [if_pos ⟨hn, by omega, Int.le_refl _⟩, List.take_of_length_le (by simp)]
  rw [a1, Option.bind_some, a2, Option.bind_some]
  exact ⟨_, _, rfl, by simp; omega⟩
end Go.Proofs.YtmekcfdllhphlaaDoor

namespace Go.Proofs.YtmekcfdllhphlaaDoor
open Go Go.R
open Go.IntKind (i64 u64 u8 u32)
theorem get_spec {m : Nat} {b : List Int} {l : List VTree} (H : pickle_Get.f m b = some (l, 0)) :
    ∃ v2 x2 i1 ob p, slc b 2 (i64.wrap ((b.length : Int) - 4)) = some v2 ∧ rd_number.f m ⟨v2, false⟩ = some x2 ∧ pickle_Get.l0 m x2 m [] 0 x2.2 = some (l, i1, ob) ∧ ob.f_bad = false ∧
      (l.length : Int) = x2.1 ∧ pickle_Put.f m l = some (p, 0) ∧ bytes_Equal.f m p b = some true := by
  unfold pickle_Get.f at H
  split at H
  · simp at H
  split at H
  · simp at H
  simp only [Option.bind_eq_some_iff] at H
  obtain ⟨v0, h0, x0, h1, v1, h2, x1, h3, H⟩ := H
  split at H
  · simp at H
  simp only [Option.bind_eq_some_iff] at H
  obtain ⟨v2, h4, x2, h5, ⟨l', i1, ob⟩, h6, H⟩ := H
  dsimp only at H
  split at H
  · simp at H
  split at H
  · simp at H
  rename_i g1 g2
  simp only [Option.bind_eq_some_iff] at H
  obtain ⟨⟨p, e⟩, h7, H⟩ := H
  split at H
  · simp at H
  rename_i g3
  simp only [Option.bind_eq_some_iff] at H
  obtain ⟨x8, h8, H⟩ := H
  split at H
  · simp at H
  rename_i g4
  simp only [Option.some.injEq, Prod.mk.injEq] at H
  obtain ⟨rfl, _⟩ := H
  have ge : e = 0 := by simpa using g3
  subst ge
  have gx : x8 = true := by simpa using g4
  subst gx
  exact ⟨v2, x2, i1, ob, p, h4, h5, h6, by simpa using g1, by simpa using g2, h7, h8⟩
theorem put_l0 {m : Nat} (L : List VTree) : ∀ (f : Nat) (acc : List VTree) (i : Nat) (out), i ≤ L.length → i < 2 ^ 40 → L.length < 2 ^ 40 → pickle_Put.l0 m L f acc (i : Int) = some out →
    out = .inl ([], 2) ∨ ∃ ls x, out = .inr (acc ++ ls, x) ∧ ls.length = (L.drop i).length ∧ ∀ (j : Nat) (t s : VTree), (L.drop i)[j]? = some t → ls[j]? = some s → tree_Least.f m t = some (s, 0)
  | 0, acc, i, out, _, _, _, H => by simp [pickle_Put.l0] at H
  | f + 1, acc, i, out, hi, hi2, hl, H => by
    have p40 : (2 : Nat) ^ 40 = 1099511627776 := by decide
    unfold pickle_Put.l0 at H
    split at H
    · rename_i g
      simp only [decide_eq_true_eq] at g
      simp only [Option.bind_eq_some_iff] at H
      obtain ⟨v0, h0, ⟨s0, e⟩, h1, H⟩ := H
      split at H
      · left
        simpa using H.symm
      · rename_i g2
        have ge : e = 0 := by simpa using g2
        subst ge
        simp only [Option.bind_eq_some_iff] at H
        obtain ⟨x2, h2, H⟩ := H
        obtain ⟨_, _, rfl⟩ := app_spec h2
        rw [i64_id (by omega) (by omega), show ((i : Int) + 1) = ((i + 1 : Nat) : Int) by omega] at H
        obtain ⟨_, _, h3⟩ := ix_spec h0
        rw [Int.toNat_natCast] at h3
        have hd : L.drop i = v0 :: L.drop (i + 1) := by
          obtain ⟨h4, h5⟩ := List.getElem?_eq_some_iff.1 h3
          rw [← h5]; exact List.drop_eq_getElem_cons h4
        rcases put_l0 L f _ (i + 1) out (by omega) (by omega) hl H with h | ⟨ls, x, rfl, h6, h7⟩
        · exact .inl h
        · refine .inr ⟨s0 :: ls, x, by simp, by rw [hd]; simp [h6], fun j t s hj hs => ?_⟩
          rw [hd] at hj
          cases j with
          | zero => simp at hj hs; subst hj hs; exact h1
          | succ j => exact h7 j t s (by simpa using hj) (by simpa using hs)
    · rename_i g
      simp only [decide_eq_true_eq] at g
      refine .inr ⟨[], i, by simpa using H.symm, ?_, fun j t s hj hs => by simp at hs⟩
      simp; omega
theorem put_spec {m : Nat} {l : List VTree} {p : List Int} (H : pickle_Put.f m l = some (p, 0)) :
    ∃ ls, l.length ≤ 8 ∧ ls.length = l.length ∧ (∀ (j : Nat) (t s : VTree), l[j]? = some t → ls[j]? = some s → tree_Least.f m t = some (s, 0)) ∧ pickle_write.f m ls = some p ∧ ContainsFT.f m ls (fun y0 => pickle_Put_1.f m y0) = some false := by
  unfold pickle_Put.f at H
  split at H
  · simp at H
  rename_i g0
  simp only [Option.bind_eq_some_iff] at H
  obtain ⟨out, h1, H⟩ := H
  have hl8 : l.length ≤ 8 := by simp at g0; omega
  rcases put_l0 l m [] 0 out (by omega) (by omega) (by omega) h1 with rfl | ⟨ls, x, rfl, h5, h6⟩
  · simp at H
  · dsimp only at H
    rw [List.nil_append] at H
    simp only [Option.bind_eq_some_iff] at H
    obtain ⟨x4, h2, H⟩ := H
    split at H
    · simp at H
    rename_i g4
    have g4 : x4 = false := by simpa using g4
    subst g4
    simp only [Option.bind_eq_some_iff] at H
    obtain ⟨x5, h3, H⟩ := H
    split at H
    · simp at H
    simp only [Option.some.injEq, Prod.mk.injEq] at H
    obtain ⟨rfl, _⟩ := H
    exact ⟨ls, hl8, h5, h6, h3, h2⟩
end Go.Proofs.YtmekcfdllhphlaaDoor

namespace Go.Proofs.YtmekcfdllhphlaaDoor
open Go Go.R
open Go.IntKind (i64 u64 u8 u32)
def Bytes (l : List Int) : Prop := ∀ x ∈ l, 0 ≤ x ∧ x < 256
theorem Bytes.append {a b : List Int} (ha : Bytes a) (hb : Bytes b) : Bytes (a ++ b) := fun x hx => (List.mem_append.1 hx).elim (ha x) (hb x)
theorem bytes_encN : ∀ (k n : Nat), n ≤ k → Bytes (encN n)
  | k, n, h => by
    by_cases h1 : n < 128
    · rw [encN_small h1]; intro x hx; simp at hx; omega
    · cases k with
      | zero => omega
      | succ k =>
        rw [encN_big h1]
        intro x hx
        rcases List.mem_cons.1 hx with rfl | hx
        · omega
        · exact bytes_encN k (n / 128) (by omega) x hx
theorem bytes_str (s : ByteArray) : Bytes (strBytes s) := by
  intro x hx
  simp only [strBytes, List.mem_map] at hx
  obtain ⟨b, _, rfl⟩ := hx
  have := b.toNat_lt
  omega
theorem bytes_node {n : VNode} (W : WNode n) : Bytes (encNode n) := by
  have hk : 0 ≤ n.kind ∧ n.kind ≤ 3 := by rcases W.kind with h | h | h | h <;> (have := h.1; omega)
  have hs : Bytes (encS n.label) := (bytes_encN _ _ (Nat.le_refl _)).append (bytes_str _)
  unfold encNode
  intro x hx
  rcases List.mem_cons.1 hx with rfl | hx
  · omega
  split at hx
  · exact bytes_encN _ _ (Nat.le_refl _) x hx
  split at hx
  · exact bytes_encN _ _ (Nat.le_refl _) x hx
  split at hx
  · exact hs x hx
  · refine ((hs.append (bytes_encN _ _ (Nat.le_refl _))).append ?_) x hx
    intro y hy
    simp only [List.mem_flatten, List.mem_map] at hy
    obtain ⟨l, ⟨a, _, rfl⟩, hy⟩ := hy
    exact bytes_encN _ _ (Nat.le_refl _) y hy
theorem bytes_list {l : List VTree} (W : ∀ t ∈ l, WTree t) : Bytes (encList l) := by
  refine Bytes.append (fun x hx => by simp at hx; omega) ((bytes_encN _ _ (Nat.le_refl _)).append ?_)
  intro y hy
  simp only [encTrees, List.mem_flatten, List.mem_map] at hy
  obtain ⟨k, ⟨t, ht, rfl⟩, hy⟩ := hy
  refine ((bytes_encN _ _ (Nat.le_refl _)).append ?_) y hy
  intro z hz
  simp only [encNodes, List.mem_flatten, List.mem_map] at hz
  obtain ⟨k, ⟨n, hn, rfl⟩, hz⟩ := hz
  exact bytes_node ((W t ht).nodes n hn) z hz
theorem check_spec {m : Nat} {b c : List Int} (H : pickle_check.f m b = some c) : Bytes c ∧ c.length = 4 := by
  unfold pickle_check.f at H
  simp only [Option.bind_eq_some_iff, Option.some.injEq] at H
  obtain ⟨x, _, rfl⟩ := H
  refine ⟨fun y hy => ?_, rfl⟩
  simp only [List.mem_cons, List.not_mem_nil, or_false] at hy
  rcases hy with rfl | rfl | rfl | rfl <;> (rw [u8_wrap]; omega)
theorem bytes_inj {a b : List Int} (ha : Bytes a) (hb : Bytes b) (h : bytesStr a = bytesStr b) : a = b := by
  have h : (a.map fun n => UInt8.ofNat n.toNat) = b.map fun n => UInt8.ofNat n.toNat := by
    have := congrArg (fun s : ByteArray => s.data.toList) h
    simpa [bytesStr] using this
  have hl : a.length = b.length := by simpa using congrArg List.length h
  apply List.ext_getElem hl
  intro i h1 h2
  have := congrArg (·[i]?) h
  simp only [List.getElem?_map, List.getElem?_eq_getElem h1, List.getElem?_eq_getElem h2, Option.map_some, Option.some.injEq] at this
  have g1 := ha _ (List.getElem_mem h1)
  have g2 := hb _ (List.getElem_mem h2)
  have := congrArg UInt8.toNat this
  simp only [UInt8.toNat_ofNat'] at this
  omega
theorem equal_spec {m : Nat} {a b : List Int} (ha : Bytes a) (hb : Bytes b) (H : bytes_Equal.f m a b = some true) : a = b := by
  unfold bytes_Equal.f at H
  simp only [Option.some.injEq, beq_iff_eq] at H
  refine bytes_inj ha hb ?_
  have : (bytesStr a).data = (bytesStr b).data := Array.toList_inj.1 H
  cases h1 : bytesStr a; cases h2 : bytesStr b
  rw [h1, h2] at this
  cases this
  rfl
theorem get_least {m : Nat} (hm : 2 ^ 30 ≤ m) {b : List Int} (hb : Bytes b) (hbl : b.length ≤ 200000) {l ls : List VTree} {p v2 : List Int} {x2 : Int × Rdr} {i1 : Int} {ob : Rdr}
    (h1 : slc b 2 (i64.wrap ((b.length : Int) - 4)) = some v2) (h2 : rd_number.f m ⟨v2, false⟩ = some x2) (h3 : pickle_Get.l0 m x2 m [] 0 x2.2 = some (l, i1, ob))
    (h4 : bytes_Equal.f m p b = some true) (h5 : pickle_write.f m ls = some p) (h6 : ls.length ≤ 8) (W : ∀ t ∈ ls, WTree t) (hlen : (encTrees ls).length + 2 ^ 42 ≤ 140737488355328) : l = ls ∧ p = b := by
  have p30 : (2 : Nat) ^ 30 = 1073741824 := by decide
  rw [wlist hm W hlen (by omega)] at h5
  simp only [Option.bind_eq_some_iff] at h5
  obtain ⟨c, hc, h5⟩ := h5
  obtain ⟨_, _, rfl⟩ := app_spec h5
  obtain ⟨c1, c2⟩ := check_spec hc
  have he := equal_spec ((bytes_list W).append c1) hb h4
  refine ⟨?_, he⟩
  have hbe : b = [76, 1] ++ ((encN ls.length ++ encTrees ls) ++ c) := by rw [← he]; simp [encList]
  have hbn : b.length = 6 + (encN ls.length ++ encTrees ls).length := by rw [hbe]; simp [c2]; omega
  have hv : v2 = encN ls.length ++ encTrees ls := by
    rw [i64_id (by omega) (by omega)] at h1
    obtain ⟨_, _, _, rfl⟩ := slc_spec h1
    rw [show ((b.length : Int) - 4).toNat - (2 : Int).toNat = (encN ls.length ++ encTrees ls).length by omega, hbe]
    have : ([76, 1] ++ ((encN ls.length ++ encTrees ls) ++ c)).drop (2 : Int).toNat = (encN ls.length ++ encTrees ls) ++ c := rfl
    rw [this, List.take_left]
  subst hv
  rw [rnum (by omega) (by omega)] at h2
  cases h2
  obtain ⟨x, hx⟩ := rtrees hm ((ls.length : Int), (⟨encTrees ls, false⟩ : Rdr)) [] (by simp; omega) ls m 0 [] (by omega) (by simp) rfl W
  rw [List.append_nil] at hx
  have hx : pickle_Get.l0 m ((ls.length : Int), (⟨encTrees ls, false⟩ : Rdr)) m [] 0 ⟨encTrees ls, false⟩ = _ := hx
  dsimp only at h3
  rw [hx] at h3
  simp at h3
  exact h3.1.symm
end Go.Proofs.YtmekcfdllhphlaaDoor

namespace Go.Proofs.YtmekcfdllhphlaaDoor
open Go Go.R
open Go.IntKind (i64 u64 u8 u32)
theorem byte_tot2 {m : Nat} (r : Rdr) (hb : Bytes r.f_b) : ∃ (c : Nat) (r' : Rdr), rd_byte.f m r = some ((c : Int), r') ∧ c < 256 ∧ Bytes r'.f_b := by
  obtain ⟨l, bad⟩ := r
  cases l with
  | nil => exact ⟨0, ⟨[], true⟩, by unfold rd_byte.f; rw [if_pos (by simp)]; rfl, by omega, hb⟩
  | cons c l =>
    have := hb c (by simp)
    refine ⟨c.toNat, ⟨l, bad⟩, ?_, by omega, fun x hx => hb x (by simp [hx])⟩
    rw [show ((c.toNat : Nat) : Int) = c by omega]
    exact rbyte
theorem num_tot2 {m : Nat} : ∀ (f j a : Nat) (r : Rdr), j ≤ 9 → 10 - j < f → a < 2 ^ (7 * j) → Bytes r.f_b → ∃ (a' : Nat) (s' : Int) (r' : Rdr), rd_number.l0 m f (a : Int) ((7 * j : Nat) : Int) r = some ((a' : Int), s', r') ∧ a' < 2 ^ 63 ∧ Bytes r'.f_b
  | 0, j, a, r, _, hf, _, _ => absurd hf (by omega)
  | f + 1, j, a, r, hj, hf, ha, hb => by
    have hp : 2 ^ (7 * (j + 1)) = 128 * 2 ^ (7 * j) := by rw [show 7 * (j + 1) = 7 + 7 * j by omega, Nat.pow_add]
    have hp2 : 2 ^ (7 * j) ≤ 2 ^ 63 := Nat.pow_le_pow_right (by omega) (by omega)
    unfold rd_number.l0
    split
    rotate_left
    · exact ⟨_, _, _, rfl, by omega, hb⟩
    obtain ⟨c, r', h1, h2, h3⟩ := byte_tot2 (m := m) r hb
    rw [h1, Option.bind_some]
    dsimp only
    split
    · exact ⟨_, _, _, rfl, by omega, h3⟩
    rename_i g
    have hj8 : j ≤ 8 := by simp at g; omega
    have hp3 : 2 ^ (7 * (j + 1)) ≤ 2 ^ 63 := Nat.pow_le_pow_right (by omega) (by omega)
    have hc : c % 128 * 2 ^ (7 * j) ≤ 127 * 2 ^ (7 * j) := Nat.mul_le_mul_right _ (by omega)
    obtain ⟨g1, g2⟩ := or_shl a (c % 128) (7 * j) ha (by omega) (by omega) (Nat.mod_lt _ (by omega))
    rw [and127 c h2]
    have hrec : ∃ (a' : Nat) (s' : Int) (r'' : Rdr), rd_number.l0 m f ((a + c % 128 * 2 ^ (7 * j) : Nat) : Int) (i64.wrap (((7 * j : Nat) : Int) + 7)) r' = some ((a' : Int), s', r'') ∧ a' < 2 ^ 63 ∧ Bytes r''.f_b := by
      rw [i64_id (by omega) (by omega), show (((7 * j : Nat) : Int) + 7) = ((7 * (j + 1) : Nat) : Int) by omega]
      exact num_tot2 f (j + 1) _ r' (by omega) (by omega) (by omega) h3
    split
    · split
      · exact ⟨_, _, _, rfl, by omega, h3⟩
      · rw [g1, Option.bind_some, g2]
        split
        · exact ⟨_, _, _, rfl, by omega, h3⟩
        · exact hrec
    · rw [g1, Option.bind_some, g2]
      split
      · exact ⟨_, _, _, rfl, by omega, h3⟩
      · exact hrec
theorem number_tot2 {m : Nat} (hm : 11 ≤ m) (r : Rdr) (hb : Bytes r.f_b) : ∃ (n : Nat) (r' : Rdr), rd_number.f m r = some ((n : Int), r') ∧ n < 2 ^ 63 ∧ Bytes r'.f_b := by
  obtain ⟨n', s', r', h1, h2, h3⟩ := num_tot2 (m := m) m 0 0 r (by omega) (by omega) (by omega) hb
  have h1 : rd_number.l0 m m (0 : Int) (0 : Int) r = _ := h1
  refine ⟨n', r', ?_, h2, h3⟩
  unfold rd_number.f
  rw [h1, Option.bind_some]
  dsimp only
  rw [i64_id (by omega) (by omega)]
end Go.Proofs.YtmekcfdllhphlaaDoor

namespace Go.Proofs.YtmekcfdllhphlaaDoor
open Go Go.R
open Go.IntKind (i64 u64 u8 u32)
theorem text_tot2 {m : Nat} (hm : 11 ≤ m) (r : Rdr) (hb : Bytes r.f_b) : ∃ s r', rd_text.f m r = some (s, r') ∧ Bytes r'.f_b := by
  obtain ⟨n, r', h1, h2, h3⟩ := number_tot2 hm r hb
  unfold rd_text.f
  rw [h1, Option.bind_some]
  dsimp only
  split
  · exact ⟨_, _, rfl, h3⟩
  split
  · exact ⟨_, _, rfl, h3⟩
  rename_i g1 g2
  simp at g2
  have a1 : slc r'.f_b 0 (n : Int) = some (r'.f_b.take n) := by unfold slc; rw [if_pos ⟨Int.le_refl _, by omega, by omega⟩]; simp
  have a2 : slc r'.f_b (n : Int) (r'.f_b.length : Int) = some (r'.f_b.drop n) := by
    unfold slc; rw [if_pos ⟨by omega, by omega, Int.le_refl _⟩, List.take_of_length_le (by simp)]; simp
  rw [a1, Option.bind_some, a2, Option.bind_some]
  exact ⟨_, _, rfl, fun x hx => h3 x (List.mem_of_mem_drop hx)⟩
end Go.Proofs.YtmekcfdllhphlaaDoor

namespace Go.Proofs.YtmekcfdllhphlaaDoor
open Go Go.R
open Go.IntKind (i64 u64 u8 u32)
end Go.Proofs.YtmekcfdllhphlaaDoor

namespace Go.Proofs.YtmekcfdllhphlaaDoor
open Go Go.R
open Go.IntKind (i64 u64 u8 u32)
theorem number_tot3 {m : Nat} (hm : 11 ≤ m) (r : Rdr) (hb : Bytes r.f_b) : ∃ (n : Nat) (r' : Rdr), rd_number.f m r = some ((n : Int), r') ∧ n < 2 ^ 63 ∧ Bytes r'.f_b ∧ r'.f_b.length ≤ r.f_b.length := by
  obtain ⟨n, r', h1, h2, h3⟩ := number_tot2 hm r hb
  obtain ⟨n2, r2, k1, _, _, k2⟩ := number_tot hm r
  rw [h1] at k1
  cases k1
  exact ⟨n, r', h1, h2, h3, k2⟩
theorem text_tot3 {m : Nat} (hm : 11 ≤ m) (r : Rdr) (hb : Bytes r.f_b) (hl : r.f_b.length ≤ 200000) : ∃ s r', rd_text.f m r = some (s, r') ∧ Bytes r'.f_b ∧ r'.f_b.length ≤ r.f_b.length := by
  obtain ⟨s, r', h1, h2⟩ := text_tot2 hm r hb
  obtain ⟨n, rn, g1, g2, _⟩ := number_tot2 hm r hb
  obtain ⟨s2, r2, k1, k2⟩ := text_tot hm r hl ⟨n, rn, g1, by omega⟩
  rw [h1] at k1
  cases k1
  exact ⟨s, r', h1, h2, k2⟩
theorem args_tot3 {m : Nat} (hm : 11 ≤ m) (x5 : Int × Rdr) (k0 : Int) (lb : ByteArray) : ∀ (f i : Nat) (acc : List Int) (r : Rdr), 8 - i < f → i ≤ 8 → acc.length ≤ i → Bytes r.f_b →
    ∃ x acc' r', rd_node.l1 m x5 f (i : Int) k0 0 lb acc r = some (x, k0, 0, lb, acc', r') ∧ Bytes r'.f_b ∧ r'.f_b.length ≤ r.f_b.length
  | 0, i, acc, r, hf, _, _, _ => absurd hf (by omega)
  | f + 1, i, acc, r, hf, hi, ha, hb => by
    unfold rd_node.l1
    split
    rotate_left
    · exact ⟨_, _, _, rfl, hb, Nat.le_refl _⟩
    rename_i g
    have hi8 : i < 8 := by
      unfold mn at g
      simp only [decide_eq_true_eq] at g
      split at g <;> omega
    obtain ⟨n, r', h1, h2, h3, h4⟩ := number_tot3 hm r hb
    have hap : app 8 acc [(n : Int)] = some (acc ++ [(n : Int)]) := by unfold app; rw [if_pos (by simp; omega)]
    rw [h1, Option.bind_some]
    dsimp only
    rw [hap, Option.bind_some, i64_id (by omega) (by omega), show ((i : Int) + 1) = ((i + 1 : Nat) : Int) by omega]
    obtain ⟨x, acc', r'', k1, k2, k3⟩ := args_tot3 hm x5 k0 lb f (i + 1) (acc ++ [(n : Int)]) r' (by omega) (by omega) (by simp; omega) h3
    exact ⟨x, acc', r'', k1, k2, Nat.le_trans k3 h4⟩
theorem args_tot03 {m : Nat} (hm : 11 ≤ m) (x5 : Int × Rdr) (k0 : Int) (lb : ByteArray) : ∀ (f i : Nat) (acc : List Int) (r : Rdr), 8 - i < f → i ≤ 8 → acc.length ≤ i → Bytes r.f_b →
    ∃ x acc' r', rd_node.l0 m x5 f (i : Int) k0 0 lb acc r = some (x, k0, 0, lb, acc', r') ∧ Bytes r'.f_b ∧ r'.f_b.length ≤ r.f_b.length
  | 0, i, acc, r, hf, _, _, _ => absurd hf (by omega)
  | f + 1, i, acc, r, hf, hi, ha, hb => by
    unfold rd_node.l0
    split
    rotate_left
    · exact ⟨_, _, _, rfl, hb, Nat.le_refl _⟩
    rename_i g
    have hi8 : i < 8 := by
      unfold mn at g
      simp only [decide_eq_true_eq] at g
      split at g <;> omega
    obtain ⟨n, r', h1, h2, h3, h4⟩ := number_tot3 hm r hb
    have hap : app 8 acc [(n : Int)] = some (acc ++ [(n : Int)]) := by unfold app; rw [if_pos (by simp; omega)]
    rw [h1, Option.bind_some]
    dsimp only
    rw [hap, Option.bind_some, i64_id (by omega) (by omega), show ((i : Int) + 1) = ((i + 1 : Nat) : Int) by omega]
    obtain ⟨x, acc', r'', k1, k2, k3⟩ := args_tot03 hm x5 k0 lb f (i + 1) (acc ++ [(n : Int)]) r' (by omega) (by omega) (by simp; omega) h3
    exact ⟨x, acc', r'', k1, k2, Nat.le_trans k3 h4⟩
theorem node_tot3 {m : Nat} (hm : 11 ≤ m) (r : Rdr) (hb : Bytes r.f_b) (hl : r.f_b.length ≤ 200000) : ∃ n r', rd_node.f m r = some (n, r') ∧ Bytes r'.f_b ∧ (r.f_b = [] → r'.f_bad = true ∧ r'.f_b = []) ∧ (r.f_b ≠ [] → r'.f_b.length < r.f_b.length) ∧ (n.kind = 0 → n.int < 2 ^ 63) := by
  unfold rd_node.f
  obtain ⟨bs, bad⟩ := r
  cases bs with
  | nil =>
    obtain ⟨k, rfl⟩ : ∃ k, m = k + 1 := ⟨m - 1, by omega⟩
    have h1 : rd_byte.f (k + 1) ⟨[], bad⟩ = some (0, ⟨[], true⟩) := by unfold rd_byte.f; rw [if_pos (by simp)]
    have h2 : rd_number.f (k + 1) ⟨[], true⟩ = some (0, ⟨[], true⟩) := by
      unfold rd_number.f rd_number.l0
      rw [if_neg (by simp)]; rfl
    have e0 : i64.wrap 0 = 0 := by decide
    rw [h1, Option.bind_some]
    dsimp only
    rw [e0, if_pos (by simp), h2]
    exact ⟨_, _, rfl, hb, fun _ => ⟨rfl, rfl⟩, fun h => absurd rfl h, fun _ => by dsimp only; decide⟩
  | cons c l =>
    have hb1 : Bytes l := fun x hx => hb x (by simp [hx])
    have h1 : rd_byte.f m ⟨c :: l, bad⟩ = some (c, ⟨l, bad⟩) := rbyte
    have hc := hb c (by simp)
    have hll : l.length ≤ 200000 := by simp at hl; omega
    obtain ⟨n, r2, h2, hn, hb2, l2⟩ := number_tot3 hm ⟨l, bad⟩ hb1
    obtain ⟨s, r3, h3, hb3, l3⟩ := text_tot3 hm ⟨l, bad⟩ hb1 hll
    obtain ⟨k, r4, h4, _, hb4, l4⟩ := number_tot3 hm r3 hb3
    dsimp only at l2 l3
    have fin : ∀ (n : VNode) (r' : Rdr), Bytes r'.f_b → r'.f_b.length ≤ l.length → (n.kind = 0 → n.int < 2 ^ 63) → ∃ n' r'', (some (n, r') : Option (VNode × Rdr)) = some (n', r'') ∧ Bytes r''.f_b ∧ (c :: l = [] → r''.f_bad = true ∧ r''.f_b = []) ∧ (c :: l ≠ [] → r''.f_b.length < (c :: l).length) ∧ (n'.kind = 0 → n'.int < 2 ^ 63) :=
      fun n r' a1 a2 a3 => ⟨n, r', rfl, a1, fun h => (List.cons_ne_nil _ _ h).elim, fun _ => by simp; omega, a3⟩
    rw [h1, Option.bind_some]
    dsimp only
    rw [h2, h3]
    simp only [Option.bind_some]
    rw [h4]
    simp only [Option.bind_some]
    rw [i64_id (by omega) (by omega)]
    split
    · exact fin _ _ hb2 l2 fun _ => by dsimp only; omega
    rename_i g0
    have g0 : c ≠ 0 := by simpa using g0
    split
    · split
      · exact fin _ _ hb2 l2 fun h => absurd h g0
      · exact fin _ _ hb2 l2 fun h => absurd h g0
    split
    · exact fin _ _ hb3 l3 fun h => absurd h g0
    split
    · split
      · obtain ⟨x, acc, r5, h5, hb5, l5⟩ := args_tot03 hm ((k : Int), r4) c s m 0 [] ⟨r4.f_b, true⟩ (by omega) (by omega) (by simp) hb4
        have h5 : rd_node.l0 m ((k : Int), r4) m (0 : Int) c 0 s [] ⟨r4.f_b, true⟩ = _ := h5
        rw [h5, Option.bind_some]
        exact fin _ r5 hb5 (by dsimp only at l5; omega) fun h => absurd h g0
      · obtain ⟨x, acc, r5, h5, hb5, l5⟩ := args_tot3 hm ((k : Int), r4) c s m 0 [] r4 (by omega) (by omega) (by simp) hb4
        have h5 : rd_node.l1 m ((k : Int), r4) m (0 : Int) c 0 s [] r4 = _ := h5
        rw [h5, Option.bind_some]
        exact fin _ r5 hb5 (by omega) fun h => absurd h g0
    · exact fin _ _ hb1 (Nat.le_refl _) fun h => absurd h g0
end Go.Proofs.YtmekcfdllhphlaaDoor

namespace Go.Proofs.YtmekcfdllhphlaaDoor
open Go Go.R
open Go.IntKind (i64 u64 u8 u32)
def ann16 : Ann := { keep := [0, 1, 2, 3], locs := [1, 2], dead := [(0, [0, 3]), (1, [0, 1])], frz := [], frz2 := [] }
noncomputable def g16R0 := sub [0] (codeOf Tryd.f16)
noncomputable def g16R1 := sub [1, 0] (codeOf Tryd.f16)
theorem g16_eq : codeOf Tryd.f16 = (.seq g16R0 (.seq g16R1 .ret)) := by kernel_rfl
def pickle_Least.f (m : Nat) (t0 : VTree) : Option (VTree × Int) := (tree_Least.f m t0).bind fun x0 => some (x0.1, x0.2)
def pickle_Least.fin (L : Mem) (r : VTree × Int) (s : St) : Prop := ∃ av, resultA Tryd.prog (s.open ann16) Tryd.f16.results.toList = some av ∧ Frz s.h av (.tup [.agg [eNode.fz r.1.nodes, .int .i64 r.1.root], .int .i64 r.2])
def S16 (cf : CallF) (m : Nat) : Prop := ∀ (t0 : VTree) (r : VTree × Int), pickle_Least.f m t0 = some r → ∀ h xs, PureS xs [.agg [eNode.fz t0.nodes, .int .i64 t0.root]] → cf 16 xs h = some (.tup [.agg [eNode.fz r.1.nodes, .int .i64 r.1.root], .int .i64 r.2], h)
section
variable {cf : CallF} {m : Nat}
theorem pickle_Least_body {ann : FuncId → Ann} (ha : ann 16 = ann16) (S31_ : S31 cf m) (t0 : VTree) (h : AHeap) (L : Mem)  (o : Has h (L)) {out : VTree × Int} (H : pickle_Least.f m t0 = some out) :
    ∃ r h', bodyA Tryd.prog ann cf m 16 [.agg [eNode.fz t0.nodes, .int .i64 t0.root]] h = some (r, h') ∧ Frz h' r (.tup [.agg [eNode.fz out.1.nodes, .int .i64 out.1.root], .int .i64 out.2]) := by
  refine body_of_ends2 (fn := Tryd.f16) ha Tryd.func16 (by kernel_rfl) (by kernel_rfl) ?_
  refine ends_fin (Q := fun s => pickle_Least.fin L out s) (fun _ _ h => h) ?_
  refine ends_of_eq g16_eq ?_
  have H : _ = some out := H
  unfold pickle_Least.f at H
  show Enz _ cf ann16 m _ ⟨.agg [eNode.fz t0.nodes, .int .i64 t0.root] :: Ay3 [], [none, none], h⟩ _
  refine sr [] [] ⟨[.any, .lp 1 0, .lp 2 0, .any], [some [eNode.fz t0.nodes, .int .i64 t0.root], some [.nils, .int .i64 (0 : Int)]], h⟩ ((True) ∧ True) (by kernel_rfl) ⟨trivial, trivial⟩ ?_
  refine ends_seq ?_
  obtain ⟨x0, e0, H⟩ := bsi H
  refine er [] [(1, .tup [.agg [eNode.fz x0.1.nodes, .int .i64 x0.1.root], .int .i64 x0.2], some h)] ⟨[.any, .any, .lp 2 0, .int .i64 x0.2], [none, some [eNode.fz x0.1.nodes, .int .i64 x0.1.root]], h⟩ ((True) ∧ callO cf (.fn 31 []) [.agg [eNode.fz t0.nodes, .int .i64 t0.root]] h = some (.tup [.agg [eNode.fz x0.1.nodes, .int .i64 x0.1.root], .int .i64 x0.2], h) ∧ True) (by kernel_rfl) ⟨trivial, ⟨callO_of (by kernel_rfl) (S31_ _ _ e0 _ _ (pu_cons (pu_agg (pu_cons (pu_fz (E := eNode)) (pu_cons (pu_int) (pu_nil)))) (pu_nil))), trivial⟩⟩ ?_
  refine ends_ret ?_
  have H := Option.some.inj H
  subst H
  exact ⟨.inl rfl, ⟨.tup [.agg [eNode.fz x0.1.nodes, .int .i64 x0.1.root], .int .i64 x0.2], by kernel_rfl, frz (fr_tup (fr_cons (fr_agg (fr_cons (fr_fz) (fr_cons (fr_int) (fr_nil)))) (fr_cons (fr_int) (fr_nil))))⟩⟩
end
end Go.Proofs.YtmekcfdllhphlaaDoor

