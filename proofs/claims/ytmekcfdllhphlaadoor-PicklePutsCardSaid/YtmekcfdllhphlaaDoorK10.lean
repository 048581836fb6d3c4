/- Part of the proof: Q25, Q75, Q102, Q104, Q105, Q103, Q76, Q57. -/
import Derived.Test.YtmekcfdllhphlaaDoorK9
set_option linter.unusedVariables false
set_option linter.unusedSimpArgs false
set_option maxRecDepth 100000
namespace Go.Proofs.YtmekcfdllhphlaaDoor
open Go Go.R
open Go.IntKind (i64 u64 u8 u32)
def ann25 : Ann := mkA [0, 1, 2, 3, 26, 31, 43] [1] [125, 109, 123, 117, 85, 117, 53, 123, 123] [] []
def ref01_Valid.l0 (m : Nat) (t0 : VTree) : Nat → Int → Option (Sum Bool (Int))
  | 0, _ => none
  | k + 1, i0 => if (decide (i0 < (t0.nodes.length : Int))) = true then ((ix t0.nodes i0).bind fun v0 => (ref01_Right.f m v0 (t0.nodes.length : Int)).bind fun x0 => if (!x0) = true then (some (.inl false)) else (ref01_Valid.l0 m t0 k (i64.wrap (i0 + (1 : Int))))) else (some (.inr i0))
def ref01_Valid.f (m : Nat) (t0 : VTree) : Option (Bool) := if (decide ((t0.nodes.length : Int) < (1 : Int))) = true then (some false) else (if (decide ((t0.nodes.length : Int) > (8000 : Int))) = true then (some false) else (if (decide (t0.root < (0 : Int))) = true then (some false) else (if (decide (t0.root ≥ (t0.nodes.length : Int))) = true then (some false) else ((ref01_Valid.l0 m t0 m (0 : Int)).bind fun out0 => match out0 with | .inl r0 => some r0 | .inr i1 => some true))))
def ref01_Valid.fin (L : Mem) (r : Bool) (s : St) : Prop := ∃ av, resultA Tryd.prog (s.open ann25) Tryd.f25.results.toList = some av ∧ Frb s.h av (.bool r)
def S25 (cf : CallF) (m : Nat) : Prop := ∀ (t0 : VTree) (r : Bool), ref01_Valid.f m t0 = some r → ∀ h xs, FrzS bigK h xs [.agg [eNode.fz t0.nodes, .int .i64 t0.root]] → cf 25 xs h = some (.bool r, h)
section
variable {cf : CallF} {m : Nat}
theorem ref01_Valid.l0_ok (L : Mem) (t0 : VTree)  (S48_ : S48 cf m) : LoopT Tryd.prog cf ann25 m (sub [1, 1, 0, 1, 0, 0] (codeOf Tryd.f25)) (fun k (σ : Int) => ref01_Valid.l0 m t0 k σ) (fun σ s => match σ with | i0 => ∃ h0, s = ⟨.any :: .lp 1 0 :: .any :: .int .i64 i0 :: Ay3 [], [some [eNode.fz t0.nodes, .int .i64 t0.root]], h0⟩ ∧ Has h0 (L)) (fun out e s => (e = .exit 0 ∧ ∃ i0, .inr i0 = out ∧ ∃ x1_ x3_ x31_ b1_ h0, s = ⟨[.any, x1_, .any, x3_, .any, x31_, .any], [b1_], h0⟩ ∧ Has h0 (L)) ∨ (e = .ret ∧ ∃ r, .inl r = out ∧ ref01_Valid.fin L r s)) := by
  refine lpT (fun _ => rfl) ?_
  rintro k i0 s out ⟨h0, rfl, o0⟩ H
  have H : ref01_Valid.l0 m t0 (k + 1) i0 = some out := H
  refine qq <| qq <| q0 <| qc H (fun c7 H => ?_) (fun c7 H => ?_)
  · refine qk <| qq <| qb 1 <| qq ?_
    obtain ⟨v0, e0, H⟩ := bsi H
    obtain ⟨x0, e1, H⟩ := bsi H
    refine qr [.v 3 (ia_fz (k := .i64) (E := eNode) (l := t0.nodes) T29 e0), .v 4 (ld_fzA  (E := eNode) (l := t0.nodes) h0 A48 Z48 e0), .a 8 (S48_ _ _ _ e1 h0 _ (frs (fr_cons (fr_agg (fr_cons (fr_int) (fr_cons (fr_int) (fr_cons (fr_str) (fr_cons (fr_fz (E := eInt)) (fr_nil)))))) (fr_cons (fr_int) (fr_nil)))))] <| qc H (fun c8 H => ?_) (fun c8 H => ?_)
    · exact q1 <| qt <| Or.inr (⟨rfl, _, oi H, fnb (.bool false) h0 (frb (fb_bool))⟩)
    · exact qk <| q0 <| ⟨i64.wrap (i0 + (1 : Int)), ⟨h0, by kernel_rfl, o0⟩, H⟩
  · exact qx 0 <| Or.inl (⟨rfl, i0, oi H, .lp 1 0, .int .i64 i0, .bool (decide (i0 < (t0.nodes.length : Int))), some [eNode.fz t0.nodes, .int .i64 t0.root], h0, by kernel_rfl, o0⟩)
theorem ref01_Valid_body {ann : FuncId → Ann} (ha : ann 25 = ann25) (S48_ : S48 cf m) (t0 : VTree) (h : AHeap) (L : Mem)  (o : Has h (L)) {out : Bool} (H : ref01_Valid.f m t0 = some out) :
    ∃ r h', bodyA Tryd.prog ann cf m 25 [.agg [eNode.fz t0.nodes, .int .i64 t0.root]] h = some (r, h') ∧ Frb h' r (.bool out) := by
  refine body_of_ends2 (fn := Tryd.f25) ha Tryd.func25 (by kernel_rfl) (by kernel_rfl) ?_
  refine ends_fin (Q := fun s => ref01_Valid.fin L out s) (fun _ _ h => h) ?_
  have H : _ = some out := H
  unfold ref01_Valid.f at H
  show Enz _ cf ann25 m _ ⟨.agg [eNode.fz t0.nodes, .int .i64 t0.root] :: Ay6 [], [none], h⟩ _
  refine q1 <| qq <| qq ?_
  rcases ift H with ⟨c0, H⟩ | ⟨c0, H⟩
  · obtain rfl := oi H
    exact qr [.b 4 c0] <| qcT <| qq <| q0 <| qt <| ⟨.inl rfl, fnb (.bool false) h (frb (fb_bool))⟩
  · rcases ift H with ⟨c2, H⟩ | ⟨c2, H⟩
    · obtain rfl := oi H
      exact qr [.b 4 c0, .b 10 c2] <| qcT <| qq <| q0 <| qt <| ⟨.inl rfl, fnb (.bool false) h (frb (fb_bool))⟩
    · rcases ift H with ⟨c4, H⟩ | ⟨c4, H⟩
      · obtain rfl := oi H
        exact qr [.b 4 c0, .b 10 c2, .b 15 c4] <| qcT <| qq <| q0 <| qt <| ⟨.inl rfl, fnb (.bool false) h (frb (fb_bool))⟩
      · refine qr [.b 4 c0, .b 10 c2, .b 15 c4] <| qc H (fun c6 H => ?_) (fun c6 H => ?_)
        · obtain rfl := oi H
          exact q1 <| qt <| ⟨.inl rfl, fnb (.bool false) h (frb (fb_bool))⟩
        · refine qk <| qq <| qq <| q0 <| qb 0 ?_
          obtain ⟨out0, e2, H⟩ := bsi H
          refine ql (ref01_Valid.l0_ok L t0  S48_ (0 : Int) _ _ ⟨h, by kernel_rfl, o⟩ e2) ?_
          rintro e s (⟨rfl, i1, rfl, g0, g1, g2, g3, h1, rfl, o1⟩ | ⟨rfl, r0, rfl, hf0⟩)
          · try dsimp only at H
            obtain rfl := oi H
            exact q1 <| qt <| ⟨.inl rfl, fnb (.bool true) h1 (frb (fb_bool))⟩
          · try dsimp only at H
            obtain rfl := oi H
            exact ⟨.inl rfl, hf0⟩
end
end Go.Proofs.YtmekcfdllhphlaaDoor

namespace Go.Proofs.YtmekcfdllhphlaaDoor
open Go Go.R
open Go.IntKind (i64 u64 u8 u32)
def ann75 : Ann := mkA [0, 1, 4, 5, 6, 7, 8, 9, 19, 34, 50] [] [2044, 2036, 1988, 1990, 1734, 1926, 1926, 1414, 1926, 1926, 1798, 774, 1798, 1798, 2043] [] [(2, [(6, none, 1), (7, none, 1)])]
def ref01_Reached.l1 (m : Nat) (l0 : List VNode) (v0 : Int) : Nat → (List Int) → Int → Option ((List Int) × Int)
  | 0, _, _ => none
  | k + 1, stack1, i0 => if (decide (i0 ≥ (0 : Int))) = true then ((ix l0 v0).bind fun v5 => (ix v5.args i0).bind fun v6 => (app 8 stack1 ([v6])).bind fun x3 => ref01_Reached.l1 m l0 v0 k x3 (i64.wrap (i0 - (1 : Int)))) else (some ((stack1, i0)))
def ref01_Reached.l0 (m : Nat) (l0 : List VNode) : Nat → (List Bool) → (List Int) → (List Int) → Option ((List Bool) × (List Int) × (List Int))
  | 0, _, _, _ => none
  | k + 1, met0, out0, stack0 => if (decide ((stack0.length : Int) > (0 : Int))) = true then ((ix stack0 (i64.wrap ((stack0.length : Int) - (1 : Int)))).bind fun v0 => (slc stack0 0 (i64.wrap ((stack0.length : Int) - (1 : Int)))).bind fun v1 => (ix met0 v0).bind fun v2 => if v2 = true then (ref01_Reached.l0 m l0 k met0 out0 v1) else ((ix met0 v0).bind fun v3 => (app 8 out0 ([v0])).bind fun x2 => (ix l0 v0).bind fun v4 => (ref01_Reached.l1 m l0 v0 m v1 (i64.wrap ((v4.args.length : Int) - (1 : Int)))).bind fun out1 => match out1 with | (stack2, i1) => ref01_Reached.l0 m l0 k (met0.set v0.toNat true) x2 stack2)) else (some ((met0, out0, stack0)))
def ref01_Reached.f (m : Nat) (l0 : List VNode) (root0 : Int) : Option ((List Int)) := (mkl 1 (l0.length : Int) false).bind fun x0 => (app 8 ([] : List Int) ([root0])).bind fun x1 => (ref01_Reached.l0 m l0 m x0 ([] : List Int) x1).bind fun out3 => match out3 with | (met1, out2, stack3) => some out2
def ref01_Reached.fin (L : Mem) (r : (List Int)) (s : St) : Prop := ∃ av, resultA Tryd.prog (s.open ann75) Tryd.f75.results.toList = some av ∧ Frb s.h av (eInt.fz r)
def S75 (cf : CallF) (m : Nat) : Prop := ∀ (l0 : List VNode) (root0 : Int) (r : (List Int)), ref01_Reached.f m l0 root0 = some r → ∀ h xs, FrzS bigK h xs [eNode.fz l0, .int .i64 root0] → cf 75 xs h = some (eInt.fz r, h)
section
variable {cf : CallF} {m : Nat}
theorem ref01_Reached.l1_ok (L : Mem) (l0 : List VNode) (ad2 : Nat) (met0 : List Bool) (ad2 : Nat) (v0 : Int) (x2 : List Int) (ad5 : Nat)   : LoopT Tryd.prog cf ann75 m (sub [1, 1, 1, 1, 0, 0, 0, 1, 0, 1, 1, 1, 1, 1, 1, 0, 0] (codeOf Tryd.f75)) (fun k (σ : (List Int) × Int) => ref01_Reached.l1 m l0 v0 k σ.1 σ.2) (fun σ s => match σ with | (stack1, i0) => ∃ ad6 h5, s = ⟨eNode.fz l0 :: .any :: .any :: .rs ad2 0 met0.length 1 :: .rs ad5 0 x2.length 1 :: .rs ad6 0 stack1.length 1 :: .int .i64 v0 :: .int .i64 i0 :: Ay3 [], [], h5⟩ ∧ Has h5 ((ad6, .sl stack1.length 1 (eInt.l stack1)) :: (ad5, .sl x2.length 1 (eInt.l x2)) :: (ad2, .sl met0.length 1 (eBool.l (met0.set v0.toNat true))) :: L)) (fun out e s => (e = .exit 2 ∧ ∃ stack1 i0, (stack1, i0) = out ∧ ∃ x8_ x9_ x50_ ad6 h5, s = ⟨[eNode.fz l0, .any, .any, .rs ad2 0 met0.length 1, .rs ad5 0 x2.length 1, .rs ad6 0 stack1.length 1, x8_, x9_, .any, .any, x50_], [], h5⟩ ∧ Has h5 ((ad6, .sl stack1.length 1 (eInt.l stack1)) :: (ad5, .sl x2.length 1 (eInt.l x2)) :: (ad2, .sl met0.length 1 (eBool.l (met0.set v0.toNat true))) :: L))) := by
  refine lpT (fun _ => rfl) ?_
  rintro k ⟨stack1, i0⟩ s out ⟨ad6, h5, rfl, o8⟩ H
  have H : ref01_Reached.l1 m l0 v0 (k + 1) stack1 i0 = some out := H
  refine qq <| qq <| q0 <| qc H (fun c2 H => ?_) (fun c2 H => ?_)
  · refine qk <| qq <| qb 3 ?_
    obtain ⟨v5, e12, H⟩ := bsi H
    obtain ⟨v6, e13, H⟩ := bsi H
    obtain ⟨x3, e14, H⟩ := bsi H
    obtain ⟨ad7, h6, e15, o9⟩ := ap_own (P := Tryd.prog) (E := eInt) (l := stack1) (q := 0) (t2 := 42) (x := .fz [.int .i64 v6] 1 true) (l2 := ([v6])) T42 o8 rfl (by kernel_rfl) rfl e14
    exact qr [.v 3 (ia_fz (k := .i64) (E := eNode) (l := l0) T29 e12), .v 5 (ld_fz1  (E := eNode) (l := l0) (off := 3) h5 A42 e12 rfl), .v 7 (ia_fz (k := .i64) (E := eInt) (l := v5.args) T42 e13), .v 8 (ld_fz0  (E := eInt) (l := v5.args) h5 A3 e13 rfl), .a 10 e15] <| q0 <| ⟨(x3, i64.wrap (i0 - (1 : Int))), ⟨ad7, h6, (Eq.trans (b := ⟨eNode.fz l0 :: .any :: .any :: .rs ad2 0 met0.length 1 :: .rs ad5 0 x2.length 1 :: .rs ad7 0 x3.length 1 :: .int .i64 v0 :: .int .i64 (i64.wrap (i0 - (1 : Int))) :: Ay3 [], [], h6⟩) (by kernel_rfl) (by simp only [List.length_set])), (by have o : Has h6 ((ad7, .sl x3.length 1 (eInt.l x3)) :: (ad5, .sl x2.length 1 (eInt.l x2)) :: (ad2, .sl met0.length 1 (eBool.l (met0.set v0.toNat true))) :: L) := o9; simpa only [List.length_set] using o)⟩, H⟩
  · exact qx 2 <| ⟨rfl, stack1, i0, oi H, .int .i64 v0, .int .i64 i0, .bool (decide (i0 ≥ (0 : Int))), ad6, h5, (Eq.trans (b := ⟨[eNode.fz l0, .any, .any, .rs ad2 0 met0.length 1, .rs ad5 0 x2.length 1, .rs ad6 0 stack1.length 1, .int .i64 v0, .int .i64 i0, .any, .any, .bool (decide (i0 ≥ (0 : Int)))], [], h5⟩) (by kernel_rfl) (by simp only [List.length_set])), (by have o : Has h5 ((ad6, .sl stack1.length 1 (eInt.l stack1)) :: (ad5, .sl x2.length 1 (eInt.l x2)) :: (ad2, .sl met0.length 1 (eBool.l (met0.set v0.toNat true))) :: L) := o8; simpa only [List.length_set] using o)⟩
theorem ref01_Reached.l0_ok (L : Mem) (l0 : List VNode)   : LoopT Tryd.prog cf ann75 m (sub [1, 1, 1, 1, 0, 0, 0] (codeOf Tryd.f75)) (fun k (σ : (List Bool) × (List Int) × (List Int)) => ref01_Reached.l0 m l0 k σ.1 σ.2.1 σ.2.2) (fun σ s => match σ with | (met0, out0, stack0) => ∃ g0 g1 g2 g3 ad4 ad3 ad2 h2, s = ⟨[eNode.fz l0, .any, .any, .rs ad2 0 met0.length 1, .rs ad3 0 out0.length 1, .rs ad4 0 stack0.length 1, g0, g1, .any, g2, g3], [], h2⟩ ∧ Has h2 ((ad4, .sl stack0.length 1 (eInt.l stack0)) :: (ad3, .sl out0.length 1 (eInt.l out0)) :: (ad2, .sl met0.length 1 (eBool.l met0)) :: L)) (fun out e s => (e = .exit 0 ∧ ∃ met0 out0 stack0, (met0, out0, stack0) = out ∧ ∃ x0_ x5_ x7_ x8_ x9_ x19_ x34_ x50_ ad4 ad3 ad2 h2, s = ⟨[x0_, .any, .any, x5_, .rs ad3 0 out0.length 1, x7_, x8_, x9_, x19_, x34_, x50_], [], h2⟩ ∧ Has h2 ((ad4, .sl stack0.length 1 (eInt.l stack0)) :: (ad3, .sl out0.length 1 (eInt.l out0)) :: (ad2, .sl met0.length 1 (eBool.l met0)) :: L))) := by
  refine lpT (fun _ => rfl) ?_
  rintro k ⟨met0, out0, stack0⟩ s out ⟨g0, g1, g2, g3, ad4, ad3, ad2, h2, rfl, o4⟩ H
  have H : ref01_Reached.l0 m l0 (k + 1) met0 out0 stack0 = some out := H
  refine qq <| qq <| q0 <| qc H (fun c0 H => ?_) (fun c0 H => ?_)
  · refine qk <| qb 1 <| qq ?_
    obtain ⟨v0, e4, H⟩ := bsi H
    refine qr [.v 4 (ia_ownL (k := .i64) (E := eInt) (l := stack0) (q := 0) T42 o4 rfl e4), .v 5 (ld_own0  (E := eInt) (l := stack0) (q := 0) o4 rfl A3 e4 rfl)] <| qq ?_
    obtain ⟨v1, e5, H⟩ := bsi H
    obtain ⟨eao5, o5⟩ := sl_own (P := Tryd.prog) (k := .i64) (E := eInt) (q := 0) o4 rfl T42 e5
    refine qr [.v 4 eao5] <| qq <| qq ?_
    obtain ⟨v2, e6, H⟩ := bsi H
    refine qr [.v 2 (ia_ownL (k := .i64) (E := eBool) (l := met0) (q := 2) T53 o5 rfl e6), .v 3 (ld_own0  (E := eBool) (l := met0) (q := 2) o5 rfl A4 e6 rfl)] <| qc H (fun c1 H => ?_) (fun c1 H => ?_)
    · exact qx 1 <| ⟨(met0, out0, v1), ⟨.int .i64 v0, .any, .bool v2, .any, ad4, ad3, ad2, h2, by kernel_rfl, o5⟩, H⟩
    · refine qk <| qq ?_
      obtain ⟨v3, e7, H⟩ := bsi H
      obtain ⟨h3, e8, o6⟩ := st_own (P := Tryd.prog) (tf := 4) (E := eBool) (l := met0) (q := 2) (v := true) (x := .bool true) o5 rfl Z4 e7 rfl rfl
      refine qr [.v 2 (ia_ownL (k := .i64) (E := eBool) (l := met0) (q := 2) T53 o5 rfl e7), .w 3 e8] <| qq ?_
      obtain ⟨x2, e9, H⟩ := bsi H
      obtain ⟨ad5, h4, e10, o7⟩ := ap_own (P := Tryd.prog) (E := eInt) (l := out0) (q := 1) (t2 := 42) (x := .fz [.int .i64 v0] 1 true) (l2 := ([v0])) T42 o6 rfl (by kernel_rfl) rfl e9
      refine qr [.a 3 e10] <| qq ?_
      obtain ⟨v4, e11, H⟩ := bsi H
      refine qr [.v 2 (ia_fz (k := .i64) (E := eNode) (l := l0) T29 e11), .v 4 (ld_fz1  (E := eNode) (l := l0) (off := 3) h4 A42 e11 rfl)] <| qb 2 ?_
      obtain ⟨out1, e16, H⟩ := bsi H
      refine ql (ref01_Reached.l1_ok L l0 ad2 met0 ad2 v0 x2 ad5   (v1, i64.wrap ((v4.args.length : Int) - (1 : Int))) _ _ ⟨ad4, h4, (Eq.trans (b := ⟨eNode.fz l0 :: .any :: .any :: .rs ad2 0 met0.length 1 :: .rs ad5 0 x2.length 1 :: .rs ad4 0 v1.length 1 :: .int .i64 v0 :: .int .i64 (i64.wrap ((v4.args.length : Int) - (1 : Int))) :: Ay3 [], [], h4⟩) (by kernel_rfl) (by simp only [List.length_set])), (by have o : Has h4 ((ad4, .sl v1.length 1 (eInt.l v1)) :: (ad5, .sl x2.length 1 (eInt.l x2)) :: (ad2, .sl met0.length 1 (eBool.l (met0.set v0.toNat true))) :: L) := o7; simpa only [List.length_set] using o)⟩ e16) ?_
      rintro e s ⟨rfl, stack2, i1, rfl, g4, g5, g6, ad8, h7, rfl, o10⟩
      try dsimp only at H
      exact ⟨(met0.set v0.toNat true, x2, stack2), ⟨g4, g5, .any, g6, ad8, ad5, ad2, h7, (Eq.trans (b := ⟨[eNode.fz l0, .any, .any, .rs ad2 0 met0.length 1, .rs ad5 0 x2.length 1, .rs ad8 0 stack2.length 1, g4, g5, .any, .any, g6], [], h7⟩) (by kernel_rfl) (by simp only [List.length_set])), (by have o : Has h7 ((ad8, .sl stack2.length 1 (eInt.l stack2)) :: (ad5, .sl x2.length 1 (eInt.l x2)) :: (ad2, .sl met0.length 1 (eBool.l (met0.set v0.toNat true))) :: L) := o10; simpa only [List.length_set] using o)⟩, H⟩
  · exact qx 0 <| ⟨rfl, met0, out0, stack0, oi H, eNode.fz l0, .rs ad2 0 met0.length 1, .rs ad4 0 stack0.length 1, .any, .any, .bool (decide ((stack0.length : Int) > (0 : Int))), .any, .any, ad4, ad3, ad2, h2, by kernel_rfl, o4⟩
theorem ref01_Reached_body {ann : FuncId → Ann} (ha : ann 75 = ann75)  (l0 : List VNode) (root0 : Int) (h : AHeap) (L : Mem)  (o : Has h (L)) {out : (List Int)} (H : ref01_Reached.f m l0 root0 = some out) :
    ∃ r h', bodyA Tryd.prog ann cf m 75 [eNode.fz l0, .int .i64 root0] h = some (r, h') ∧ Frb h' r (eInt.fz out) := by
  refine body_of_ends2 (fn := Tryd.f75) ha Tryd.func75 (by kernel_rfl) (by kernel_rfl) ?_
  refine ends_fin (Q := fun s => ref01_Reached.fin L out s) (fun _ _ h => h) ?_
  have H : _ = some out := H
  unfold ref01_Reached.f at H
  show Enz _ cf ann75 m _ ⟨eNode.fz l0 :: .int .i64 root0 :: Ay9 [], [], h⟩ _
  refine q1 <| qq ?_
  obtain ⟨x0, e0, H⟩ := bsi H
  obtain ⟨ad0, h0, e1, o0⟩ := mk_own (P := Tryd.prog) (E := eBool) (z := false) (zv := .bool false) T53 o 4 rfl rfl rfl rfl e0
  refine qr [.a 2 e1] <| qq <| q0 ?_
  have o1 : Has h0 (((0), .sl (([] : List Int).length) 1 (eInt.l ([] : List Int))) :: (ad0, .sl x0.length 1 (eBool.l x0)) :: L) := Has.nil o0 1
  have o2 : Has h0 ((((0)), .sl (([] : List Int).length) 1 (eInt.l ([] : List Int))) :: ((0), .sl (([] : List Int).length) 1 (eInt.l ([] : List Int))) :: (ad0, .sl x0.length 1 (eBool.l x0)) :: L) := Has.nil o1 1
  refine qq ?_
  obtain ⟨x1, e2, H⟩ := bsi H
  obtain ⟨ad1, h1, e3, o3⟩ := ap_own (P := Tryd.prog) (E := eInt) (l := ([] : List Int)) (q := 0) (t2 := 42) (x := .fz [.int .i64 root0] 1 true) (l2 := ([root0])) T42 o2 rfl (by kernel_rfl) rfl e2
  refine qr [.a 3 e3] <| qq <| qb 0 ?_
  obtain ⟨out3, e17, H⟩ := bsi H
  refine ql (ref01_Reached.l0_ok L l0   (x0, ([] : List Int), x1) _ _ ⟨.any, .any, .any, .any, ad1, (0), ad0, h1, by kernel_rfl, o3⟩ e17) ?_
  rintro e s ⟨rfl, met1, out2, stack3, rfl, g7, g8, g9, g10, g11, g12, g13, g14, ad9, ad10, ad11, h8, rfl, o11⟩
  try dsimp only at H
  refine q1 ?_
  have o12 : Has h8 ((ad9, .sl stack3.length 1 (eInt.l stack3)) :: (ad10, .sl out2.length 1 (eInt.l out2)) :: L) := Has.del o11 2
  have o13 : Has h8 ((ad10, .sl out2.length 1 (eInt.l out2)) :: L) := Has.del o12 0
  obtain rfl := oi H
  exact qt <| ⟨.inl rfl, fnb (.rs ad10 0 out2.length 1) h8 (frb (fb_rs (E := eInt) (l := out2) (q := 0) o13 rfl (fun _ => rfl)))⟩
end
end Go.Proofs.YtmekcfdllhphlaaDoor

namespace Go.Proofs.YtmekcfdllhphlaaDoor
open Go Go.R
open Go.IntKind (i64 u64 u8 u32)
def ann102 : Ann := mkA [0, 1, 2, 4, 5, 10, 21] [2] [121, 105, 73, 105, 41, 119, 119] [] []
def ref01_ready.l0 (m : Nat) (n0 : VNode) (done0 : List Bool) : Nat → Int → Option (Sum Bool (Int))
  | 0, _ => none
  | k + 1, i0 => if (decide (i0 < (n0.args.length : Int))) = true then ((ix n0.args i0).bind fun v0 => (ix done0 v0).bind fun v1 => if (!v1) = true then (some (.inl false)) else (ref01_ready.l0 m n0 done0 k (i64.wrap (i0 + (1 : Int))))) else (some (.inr i0))
def ref01_ready.f (m : Nat) (n0 : VNode) (done0 : List Bool) : Option (Bool) := (ref01_ready.l0 m n0 done0 m (0 : Int)).bind fun out0 => match out0 with | .inl r0 => some r0 | .inr i1 => some true
def ref01_ready.fin (L : Mem) (r : Bool) (s : St) : Prop := ∃ av, resultA Tryd.prog (s.open ann102) Tryd.f102.results.toList = some av ∧ Frb s.h av (.bool r)
def S102 (cf : CallF) (m : Nat) : Prop := ∀ (n0 : VNode) (done0 : List Bool) (r : Bool), ref01_ready.f m n0 done0 = some r → ∀ h xs, FrzS bigK h xs [.agg [.int .i64 n0.kind, .int .i64 n0.int, .str n0.label, eInt.fz n0.args], eBool.fz done0] → cf 102 xs h = some (.bool r, h)
section
variable {cf : CallF} {m : Nat}
theorem ref01_ready.l0_ok (L : Mem) (n0 : VNode) (done0 : List Bool)   : LoopT Tryd.prog cf ann102 m (sub [1, 0, 1, 0, 0] (codeOf Tryd.f102)) (fun k (σ : Int) => ref01_ready.l0 m n0 done0 k σ) (fun σ s => match σ with | i0 => ∃ h0, s = ⟨[.any, eBool.fz done0, .lp 2 0, .any, .int .i64 i0, .any, .any], [some [.int .i64 n0.kind, .int .i64 n0.int, .str n0.label, eInt.fz n0.args]], h0⟩ ∧ Has h0 (L)) (fun out e s => (e = .exit 0 ∧ ∃ i0, .inr i0 = out ∧ ∃ x1_ x2_ x5_ x10_ b2_ h0, s = ⟨[.any, x1_, x2_, .any, x5_, x10_, .any], [b2_], h0⟩ ∧ Has h0 (L)) ∨ (e = .ret ∧ ∃ r, .inl r = out ∧ ref01_ready.fin L r s)) := by
  refine lpT (fun _ => rfl) ?_
  rintro k i0 s out ⟨h0, rfl, o0⟩ H
  have H : ref01_ready.l0 m n0 done0 (k + 1) i0 = some out := H
  refine qq <| qq <| q0 <| qc H (fun c0 H => ?_) (fun c0 H => ?_)
  · refine qk <| qq <| qb 1 <| qq ?_
    obtain ⟨v0, e0, H⟩ := bsi H
    obtain ⟨v1, e1, H⟩ := bsi H
    refine qr [.v 4 (ia_fz (k := .i64) (E := eInt) (l := n0.args) T42 e0), .v 5 (ld_fz0  (E := eInt) (l := n0.args) h0 A3 e0 rfl), .v 6 (ia_fz (k := .i64) (E := eBool) (l := done0) T53 e1), .v 7 (ld_fz0  (E := eBool) (l := done0) h0 A4 e1 rfl)] <| qc H (fun c1 H => ?_) (fun c1 H => ?_)
    · exact q1 <| qt <| Or.inr (⟨rfl, _, oi H, fnb (.bool false) h0 (frb (fb_bool))⟩)
    · exact qk <| q0 <| ⟨i64.wrap (i0 + (1 : Int)), ⟨h0, by kernel_rfl, o0⟩, H⟩
  · exact qx 0 <| Or.inl (⟨rfl, i0, oi H, eBool.fz done0, .lp 2 0, .int .i64 i0, .bool (decide (i0 < (n0.args.length : Int))), some [.int .i64 n0.kind, .int .i64 n0.int, .str n0.label, eInt.fz n0.args], h0, by kernel_rfl, o0⟩)
theorem ref01_ready_body {ann : FuncId → Ann} (ha : ann 102 = ann102)  (n0 : VNode) (done0 : List Bool) (h : AHeap) (L : Mem)  (o : Has h (L)) {out : Bool} (H : ref01_ready.f m n0 done0 = some out) :
    ∃ r h', bodyA Tryd.prog ann cf m 102 [.agg [.int .i64 n0.kind, .int .i64 n0.int, .str n0.label, eInt.fz n0.args], eBool.fz done0] h = some (r, h') ∧ Frb h' r (.bool out) := by
  refine body_of_ends2 (fn := Tryd.f102) ha Tryd.func102 (by kernel_rfl) (by kernel_rfl) ?_
  refine ends_fin (Q := fun s => ref01_ready.fin L out s) (fun _ _ h => h) ?_
  have H : _ = some out := H
  unfold ref01_ready.f at H
  show Enz _ cf ann102 m _ ⟨.agg [.int .i64 n0.kind, .int .i64 n0.int, .str n0.label, eInt.fz n0.args] :: eBool.fz done0 :: Ay5 [], [none], h⟩ _
  refine q1 <| qq <| qq <| q0 <| qb 0 ?_
  obtain ⟨out0, e2, H⟩ := bsi H
  refine ql (ref01_ready.l0_ok L n0 done0   (0 : Int) _ _ ⟨h, by kernel_rfl, o⟩ e2) ?_
  rintro e s (⟨rfl, i1, rfl, g0, g1, g2, g3, g4, h1, rfl, o1⟩ | ⟨rfl, r0, rfl, hf0⟩)
  · try dsimp only at H
    obtain rfl := oi H
    exact q1 <| qt <| ⟨.inl rfl, fnb (.bool true) h1 (frb (fb_bool))⟩
  · try dsimp only at H
    obtain rfl := oi H
    exact ⟨.inl rfl, hf0⟩
end
end Go.Proofs.YtmekcfdllhphlaaDoor

namespace Go.Proofs.YtmekcfdllhphlaaDoor
open Go Go.R
open Go.IntKind (i64 u64 u8 u32)
def ann104 : Ann := mkA [0, 1, 2, 3, 4] [2, 3] [19, 15] [] []
def ref01_alike.f (m : Nat) (a0 : VNode) (b0 : VNode) : Option (Bool) := if (a0.kind == b0.kind) = true then (if (a0.int == b0.int) = true then (if (a0.label.data.toList == b0.label.data.toList) = true then (some ((a0.args.length : Int) == (b0.args.length : Int))) else (some false)) else (some false)) else (some false)
def ref01_alike.fin (L : Mem) (r : Bool) (s : St) : Prop := ∃ av, resultA Tryd.prog (s.open ann104) Tryd.f104.results.toList = some av ∧ Frb s.h av (.bool r)
def S104 (cf : CallF) (m : Nat) : Prop := ∀ (a0 : VNode) (b0 : VNode) (r : Bool), ref01_alike.f m a0 b0 = some r → ∀ h xs, FrzS bigK h xs [.agg [.int .i64 a0.kind, .int .i64 a0.int, .str a0.label, eInt.fz a0.args], .agg [.int .i64 b0.kind, .int .i64 b0.int, .str b0.label, eInt.fz b0.args]] → cf 104 xs h = some (.bool r, h)
section
variable {cf : CallF} {m : Nat}
theorem ref01_alike_body {ann : FuncId → Ann} (ha : ann 104 = ann104)  (a0 : VNode) (b0 : VNode) (h : AHeap) (L : Mem)  (o : Has h (L)) {out : Bool} (H : ref01_alike.f m a0 b0 = some out) :
    ∃ r h', bodyA Tryd.prog ann cf m 104 [.agg [.int .i64 a0.kind, .int .i64 a0.int, .str a0.label, eInt.fz a0.args], .agg [.int .i64 b0.kind, .int .i64 b0.int, .str b0.label, eInt.fz b0.args]] h = some (r, h') ∧ Frb h' r (.bool out) := by
  refine body_of_ends2 (fn := Tryd.f104) ha Tryd.func104 (by kernel_rfl) (by kernel_rfl) ?_
  refine ends_fin (Q := fun s => ref01_alike.fin L out s) (fun _ _ h => h) ?_
  have H : _ = some out := H
  unfold ref01_alike.f at H
  show Enz _ cf ann104 m _ ⟨.agg [.int .i64 a0.kind, .int .i64 a0.int, .str a0.label, eInt.fz a0.args] :: .agg [.int .i64 b0.kind, .int .i64 b0.int, .str b0.label, eInt.fz b0.args] :: Ay3 [], [none, none], h⟩ _
  refine q1 <| qq ?_
  rcases ift H with ⟨c0, H⟩ | ⟨c0, H⟩
  · rcases ift H with ⟨c1, H⟩ | ⟨c1, H⟩
    · rcases ift H with ⟨c2, H⟩ | ⟨c2, H⟩
      · obtain rfl := oi H
        exact qr [.b 5 c0, .b 12 c1, .b 19 c2] <| qt <| ⟨.inl rfl, fnb (.bool ((a0.args.length : Int) == (b0.args.length : Int))) h (frb (fb_bool))⟩
      · obtain rfl := oi H
        exact qr [.b 5 c0, .b 12 c1, .b 19 c2] <| qt <| ⟨.inl rfl, fnb (.bool false) h (frb (fb_bool))⟩
    · obtain rfl := oi H
      exact qr [.b 5 c0, .b 12 c1] <| qt <| ⟨.inl rfl, fnb (.bool false) h (frb (fb_bool))⟩
  · obtain rfl := oi H
    exact qr [.b 5 c0] <| qt <| ⟨.inl rfl, fnb (.bool false) h (frb (fb_bool))⟩
end
end Go.Proofs.YtmekcfdllhphlaaDoor

namespace Go.Proofs.YtmekcfdllhphlaaDoor
open Go Go.R
open Go.IntKind (i64 u64 u8 u32)
def ann105 : Ann := mkA [0, 1, 2, 3, 4, 6, 7, 12, 31] [3, 4] [483, 419, 291, 419, 163, 479, 479] [] []
def ref01_sameArgs.l0 (m : Nat) (a0 : VNode) (b0 : VNode) (class0 : List Int) : Nat → Int → Option (Sum Bool (Int))
  | 0, _ => none
  | k + 1, i0 => if (decide (i0 < (a0.args.length : Int))) = true then ((ix a0.args i0).bind fun v0 => (ix class0 v0).bind fun v1 => (ix b0.args i0).bind fun v2 => (ix class0 v2).bind fun v3 => if (!(v1 == v3)) = true then (some (.inl false)) else (ref01_sameArgs.l0 m a0 b0 class0 k (i64.wrap (i0 + (1 : Int))))) else (some (.inr i0))
def ref01_sameArgs.f (m : Nat) (a0 : VNode) (b0 : VNode) (class0 : List Int) : Option (Bool) := (ref01_sameArgs.l0 m a0 b0 class0 m (0 : Int)).bind fun out0 => match out0 with | .inl r0 => some r0 | .inr i1 => some true
def ref01_sameArgs.fin (L : Mem) (r : Bool) (s : St) : Prop := ∃ av, resultA Tryd.prog (s.open ann105) Tryd.f105.results.toList = some av ∧ Frb s.h av (.bool r)
def S105 (cf : CallF) (m : Nat) : Prop := ∀ (a0 : VNode) (b0 : VNode) (class0 : List Int) (r : Bool), ref01_sameArgs.f m a0 b0 class0 = some r → ∀ h xs, FrzS bigK h xs [.agg [.int .i64 a0.kind, .int .i64 a0.int, .str a0.label, eInt.fz a0.args], .agg [.int .i64 b0.kind, .int .i64 b0.int, .str b0.label, eInt.fz b0.args], eInt.fz class0] → cf 105 xs h = some (.bool r, h)
section
variable {cf : CallF} {m : Nat}
theorem ref01_sameArgs.l0_ok (L : Mem) (a0 : VNode) (b0 : VNode) (class0 : List Int)   : LoopT Tryd.prog cf ann105 m (sub [1, 0, 1, 0, 0] (codeOf Tryd.f105)) (fun k (σ : Int) => ref01_sameArgs.l0 m a0 b0 class0 k σ) (fun σ s => match σ with | i0 => ∃ h0, s = ⟨[.any, .any, eInt.fz class0, .lp 3 0, .lp 4 0, .any, .int .i64 i0, .any, .any], [some [.int .i64 a0.kind, .int .i64 a0.int, .str a0.label, eInt.fz a0.args], some [.int .i64 b0.kind, .int .i64 b0.int, .str b0.label, eInt.fz b0.args]], h0⟩ ∧ Has h0 (L)) (fun out e s => (e = .exit 0 ∧ ∃ i0, .inr i0 = out ∧ ∃ x2_ x3_ x4_ x7_ x12_ b3_ b4_ h0, s = ⟨[.any, .any, x2_, x3_, x4_, .any, x7_, x12_, .any], [b3_, b4_], h0⟩ ∧ Has h0 (L)) ∨ (e = .ret ∧ ∃ r, .inl r = out ∧ ref01_sameArgs.fin L r s)) := by
  refine lpT (fun _ => rfl) ?_
  rintro k i0 s out ⟨h0, rfl, o0⟩ H
  have H : ref01_sameArgs.l0 m a0 b0 class0 (k + 1) i0 = some out := H
  refine qq <| qq <| q0 <| qc H (fun c0 H => ?_) (fun c0 H => ?_)
  · refine qk <| qq <| qb 1 <| qq ?_
    obtain ⟨v0, e0, H⟩ := bsi H
    obtain ⟨v1, e1, H⟩ := bsi H
    obtain ⟨v2, e2, H⟩ := bsi H
    obtain ⟨v3, e3, H⟩ := bsi H
    refine qr [.v 4 (ia_fz (k := .i64) (E := eInt) (l := a0.args) T42 e0), .v 5 (ld_fz0  (E := eInt) (l := a0.args) h0 A3 e0 rfl), .v 6 (ia_fz (k := .i64) (E := eInt) (l := class0) T42 e1), .v 7 (ld_fz0  (E := eInt) (l := class0) h0 A3 e1 rfl), .v 12 (ia_fz (k := .i64) (E := eInt) (l := b0.args) T42 e2), .v 13 (ld_fz0  (E := eInt) (l := b0.args) h0 A3 e2 rfl), .v 14 (ia_fz (k := .i64) (E := eInt) (l := class0) T42 e3), .v 15 (ld_fz0  (E := eInt) (l := class0) h0 A3 e3 rfl)] <| qc H (fun c1 H => ?_) (fun c1 H => ?_)
    · exact q1 <| qt <| Or.inr (⟨rfl, _, oi H, fnb (.bool false) h0 (frb (fb_bool))⟩)
    · exact qk <| q0 <| ⟨i64.wrap (i0 + (1 : Int)), ⟨h0, by kernel_rfl, o0⟩, H⟩
  · exact qx 0 <| Or.inl (⟨rfl, i0, oi H, eInt.fz class0, .lp 3 0, .lp 4 0, .int .i64 i0, .bool (decide (i0 < (a0.args.length : Int))), some [.int .i64 a0.kind, .int .i64 a0.int, .str a0.label, eInt.fz a0.args], some [.int .i64 b0.kind, .int .i64 b0.int, .str b0.label, eInt.fz b0.args], h0, by kernel_rfl, o0⟩)
theorem ref01_sameArgs_body {ann : FuncId → Ann} (ha : ann 105 = ann105)  (a0 : VNode) (b0 : VNode) (class0 : List Int) (h : AHeap) (L : Mem)  (o : Has h (L)) {out : Bool} (H : ref01_sameArgs.f m a0 b0 class0 = some out) :
    ∃ r h', bodyA Tryd.prog ann cf m 105 [.agg [.int .i64 a0.kind, .int .i64 a0.int, .str a0.label, eInt.fz a0.args], .agg [.int .i64 b0.kind, .int .i64 b0.int, .str b0.label, eInt.fz b0.args], eInt.fz class0] h = some (r, h') ∧ Frb h' r (.bool out) := by
  refine body_of_ends2 (fn := Tryd.f105) ha Tryd.func105 (by kernel_rfl) (by kernel_rfl) ?_
  refine ends_fin (Q := fun s => ref01_sameArgs.fin L out s) (fun _ _ h => h) ?_
  have H : _ = some out := H
  unfold ref01_sameArgs.f at H
  show Enz _ cf ann105 m _ ⟨.agg [.int .i64 a0.kind, .int .i64 a0.int, .str a0.label, eInt.fz a0.args] :: .agg [.int .i64 b0.kind, .int .i64 b0.int, .str b0.label, eInt.fz b0.args] :: eInt.fz class0 :: Ay6 [], [none, none], h⟩ _
  refine q1 <| qq <| qq <| q0 <| qb 0 ?_
  obtain ⟨out0, e4, H⟩ := bsi H
  refine ql (ref01_sameArgs.l0_ok L a0 b0 class0   (0 : Int) _ _ ⟨h, by kernel_rfl, o⟩ e4) ?_
  rintro e s (⟨rfl, i1, rfl, g0, g1, g2, g3, g4, g5, g6, h1, rfl, o1⟩ | ⟨rfl, r0, rfl, hf0⟩)
  · try dsimp only at H
    obtain rfl := oi H
    exact q1 <| qt <| ⟨.inl rfl, fnb (.bool true) h1 (frb (fb_bool))⟩
  · try dsimp only at H
    obtain rfl := oi H
    exact ⟨.inl rfl, hf0⟩
end
end Go.Proofs.YtmekcfdllhphlaaDoor

namespace Go.Proofs.YtmekcfdllhphlaaDoor
open Go Go.R
open Go.IntKind (i64 u64 u8 u32)
def ann103 : Ann := mkA [0, 1, 2, 3, 8, 9, 13, 42] [] [240, 208, 144, 208, 80, 239, 239] [] []
def ref01_find.l0 (m : Nat) (l0 : List VNode) (some0 : List Int) (n0 : Int) (class0 : List Int) : Nat → Int → Option (Sum Int (Int))
  | 0, _ => none
  | k + 1, k0 => if (decide (k0 < (some0.length : Int))) = true then ((ix l0 n0).bind fun v0 => (ix some0 k0).bind fun v1 => (ix l0 v1).bind fun v2 => (ref01_alike.f m v0 v2).bind fun x0 => if x0 = true then ((ix l0 n0).bind fun v3 => (ix some0 k0).bind fun v4 => (ix l0 v4).bind fun v5 => (ref01_sameArgs.f m v3 v5 class0).bind fun x1 => if x1 = true then ((ix some0 k0).bind fun v6 => some (.inl v6)) else (ref01_find.l0 m l0 some0 n0 class0 k (i64.wrap (k0 + (1 : Int))))) else (ref01_find.l0 m l0 some0 n0 class0 k (i64.wrap (k0 + (1 : Int))))) else (some (.inr k0))
def ref01_find.f (m : Nat) (l0 : List VNode) (some0 : List Int) (n0 : Int) (class0 : List Int) : Option (Int) := (ref01_find.l0 m l0 some0 n0 class0 m (0 : Int)).bind fun out0 => match out0 with | .inl r0 => some r0 | .inr k1 => some n0
def ref01_find.fin (L : Mem) (r : Int) (s : St) : Prop := ∃ av, resultA Tryd.prog (s.open ann103) Tryd.f103.results.toList = some av ∧ Frb s.h av (.int .i64 r)
def S103 (cf : CallF) (m : Nat) : Prop := ∀ (l0 : List VNode) (some0 : List Int) (n0 : Int) (class0 : List Int) (r : Int), ref01_find.f m l0 some0 n0 class0 = some r → ∀ h xs, FrzS bigK h xs [eNode.fz l0, eInt.fz some0, .int .i64 n0, eInt.fz class0] → cf 103 xs h = some (.int .i64 r, h)
section
variable {cf : CallF} {m : Nat}
theorem ref01_find.l0_ok (L : Mem) (l0 : List VNode) (some0 : List Int) (n0 : Int) (class0 : List Int)  (S104_ : S104 cf m) (S105_ : S105 cf m) : LoopT Tryd.prog cf ann103 m (sub [1, 0, 1, 0, 0] (codeOf Tryd.f103)) (fun k (σ : Int) => ref01_find.l0 m l0 some0 n0 class0 k σ) (fun σ s => match σ with | k0 => ∃ h0, s = ⟨[eNode.fz l0, eInt.fz some0, .int .i64 n0, eInt.fz class0, .any, .int .i64 k0, .any, .any], [], h0⟩ ∧ Has h0 (L)) (fun out e s => (e = .exit 0 ∧ ∃ k0, .inr k0 = out ∧ ∃ x0_ x1_ x3_ x9_ x13_ h0, s = ⟨[x0_, x1_, .int .i64 n0, x3_, .any, x9_, x13_, .any], [], h0⟩ ∧ Has h0 (L)) ∨ (e = .ret ∧ ∃ r, .inl r = out ∧ ref01_find.fin L r s)) := by
  refine lpT (fun _ => rfl) ?_
  rintro k k0 s out ⟨h0, rfl, o0⟩ H
  have H : ref01_find.l0 m l0 some0 n0 class0 (k + 1) k0 = some out := H
  refine qq <| qq <| q0 <| qc H (fun c0 H => ?_) (fun c0 H => ?_)
  · refine qk <| qq <| qb 1 <| qq ?_
    obtain ⟨v0, e0, H⟩ := bsi H
    obtain ⟨v1, e1, H⟩ := bsi H
    obtain ⟨v2, e2, H⟩ := bsi H
    obtain ⟨x0, e3, H⟩ := bsi H
    rcases ift H with ⟨c1, H⟩ | ⟨c1, H⟩
    · obtain ⟨v3, e4, H⟩ := bsi H
      obtain ⟨v4, e5, H⟩ := bsi H
      obtain ⟨v5, e6, H⟩ := bsi H
      obtain ⟨x1, e7, H⟩ := bsi H
      refine qr [.v 2 (ia_fz (k := .i64) (E := eNode) (l := l0) T29 e0), .v 3 (ld_fzA  (E := eNode) (l := l0) h0 A48 Z48 e0), .v 7 (ia_fz (k := .i64) (E := eInt) (l := some0) T42 e1), .v 8 (ld_fz0  (E := eInt) (l := some0) h0 A3 e1 rfl), .v 9 (ia_fz (k := .i64) (E := eNode) (l := l0) T29 e2), .v 10 (ld_fzA  (E := eNode) (l := l0) h0 A48 Z48 e2), .a 11 (S104_ _ _ _ e3 h0 _ (frs (fr_cons (fr_agg (fr_cons (fr_int) (fr_cons (fr_int) (fr_cons (fr_str) (fr_cons (fr_fz (E := eInt)) (fr_nil)))))) (fr_cons (fr_agg (fr_cons (fr_int) (fr_cons (fr_int) (fr_cons (fr_str) (fr_cons (fr_fz (E := eInt)) (fr_nil)))))) (fr_nil))))), .b 12 c1, .v 15 (ia_fz (k := .i64) (E := eNode) (l := l0) T29 e4), .v 16 (ld_fzA  (E := eNode) (l := l0) h0 A48 Z48 e4), .v 20 (ia_fz (k := .i64) (E := eInt) (l := some0) T42 e5), .v 21 (ld_fz0  (E := eInt) (l := some0) h0 A3 e5 rfl), .v 22 (ia_fz (k := .i64) (E := eNode) (l := l0) T29 e6), .v 23 (ld_fzA  (E := eNode) (l := l0) h0 A48 Z48 e6), .a 25 (S105_ _ _ _ _ e7 h0 _ (frs (fr_cons (fr_agg (fr_cons (fr_int) (fr_cons (fr_int) (fr_cons (fr_str) (fr_cons (fr_fz (E := eInt)) (fr_nil)))))) (fr_cons (fr_agg (fr_cons (fr_int) (fr_cons (fr_int) (fr_cons (fr_str) (fr_cons (fr_fz (E := eInt)) (fr_nil)))))) (fr_cons (fr_fz (E := eInt)) (fr_nil))))))] ?_
      refine qc H (fun c2 H => ?_) (fun c2 H => ?_)
      · refine qq ?_
        obtain ⟨v6, e8, H⟩ := bsi H
        exact qr [.v 2 (ia_fz (k := .i64) (E := eInt) (l := some0) T42 e8), .v 3 (ld_fz0  (E := eInt) (l := some0) h0 A3 e8 rfl)] <| qt <| Or.inr (⟨rfl, _, oi H, fnb (.int .i64 v6) h0 (frb (fb_int))⟩)
      · exact qk <| q0 <| ⟨i64.wrap (k0 + (1 : Int)), ⟨h0, by kernel_rfl, o0⟩, H⟩
    · exact qr [.v 2 (ia_fz (k := .i64) (E := eNode) (l := l0) T29 e0), .v 3 (ld_fzA  (E := eNode) (l := l0) h0 A48 Z48 e0), .v 7 (ia_fz (k := .i64) (E := eInt) (l := some0) T42 e1), .v 8 (ld_fz0  (E := eInt) (l := some0) h0 A3 e1 rfl), .v 9 (ia_fz (k := .i64) (E := eNode) (l := l0) T29 e2), .v 10 (ld_fzA  (E := eNode) (l := l0) h0 A48 Z48 e2), .a 11 (S104_ _ _ _ e3 h0 _ (frs (fr_cons (fr_agg (fr_cons (fr_int) (fr_cons (fr_int) (fr_cons (fr_str) (fr_cons (fr_fz (E := eInt)) (fr_nil)))))) (fr_cons (fr_agg (fr_cons (fr_int) (fr_cons (fr_int) (fr_cons (fr_str) (fr_cons (fr_fz (E := eInt)) (fr_nil)))))) (fr_nil))))), .b 12 c1] <| qcF <| qk <| q0 <| ⟨i64.wrap (k0 + (1 : Int)), ⟨h0, by kernel_rfl, o0⟩, H⟩
  · exact qx 0 <| Or.inl (⟨rfl, k0, oi H, eNode.fz l0, eInt.fz some0, eInt.fz class0, .int .i64 k0, .bool (decide (k0 < (some0.length : Int))), h0, by kernel_rfl, o0⟩)
theorem ref01_find_body {ann : FuncId → Ann} (ha : ann 103 = ann103) (S104_ : S104 cf m) (S105_ : S105 cf m) (l0 : List VNode) (some0 : List Int) (n0 : Int) (class0 : List Int) (h : AHeap) (L : Mem)  (o : Has h (L)) {out : Int} (H : ref01_find.f m l0 some0 n0 class0 = some out) :
    ∃ r h', bodyA Tryd.prog ann cf m 103 [eNode.fz l0, eInt.fz some0, .int .i64 n0, eInt.fz class0] h = some (r, h') ∧ Frb h' r (.int .i64 out) := by
  refine body_of_ends2 (fn := Tryd.f103) ha Tryd.func103 (by kernel_rfl) (by kernel_rfl) ?_
  refine ends_fin (Q := fun s => ref01_find.fin L out s) (fun _ _ h => h) ?_
  have H : _ = some out := H
  unfold ref01_find.f at H
  show Enz _ cf ann103 m _ ⟨eNode.fz l0 :: eInt.fz some0 :: .int .i64 n0 :: eInt.fz class0 :: Ay4 [], [], h⟩ _
  refine q1 <| qq <| qq <| q0 <| qb 0 ?_
  obtain ⟨out0, e9, H⟩ := bsi H
  refine ql (ref01_find.l0_ok L l0 some0 n0 class0  S104_ S105_ (0 : Int) _ _ ⟨h, by kernel_rfl, o⟩ e9) ?_
  rintro e s (⟨rfl, k1, rfl, g0, g1, g2, g3, g4, h1, rfl, o1⟩ | ⟨rfl, r0, rfl, hf0⟩)
  · try dsimp only at H
    obtain rfl := oi H
    exact q1 <| qt <| ⟨.inl rfl, fnb (.int .i64 n0) h1 (frb (fb_int))⟩
  · try dsimp only at H
    obtain rfl := oi H
    exact ⟨.inl rfl, hf0⟩
end
end Go.Proofs.YtmekcfdllhphlaaDoor

namespace Go.Proofs.YtmekcfdllhphlaaDoor
open Go Go.R
open Go.IntKind (i64 u64 u8 u32)
def ann76 : Ann := mkA [0, 2, 3, 4, 5, 6, 7, 8, 9, 10, 11, 12, 13, 14, 15, 22, 27, 42, 56, 67, 73, 95, 109, 120, 127, 148, 177] [] [134217726, 134217722, 134217714, 134217666, 134217602, 134184898, 134217602, 134217474, 134151938, 134217474, 134086402, 134217538, 133955394, 134217538, 134217538, 134217474, 134217426, 133693138, 134217426, 133168850, 134217426, 134217426, 134216914, 132119762, 134216914, 130022610, 134216914, 134216666, 125829082, 134216666, 134214618, 134214618, 134210522, 117433306, 134210522, 134202330, 134202330, 134185946, 100631514, 134185946, 67077082, 134185946, 134210522, 134216666, 134217725] [] [(3, [(5, none, 1), (6, none, 1)]), (30, [(12, none, 1)])]
def ref01_Classes.l1 (m : Nat) (l0 : List VNode) : Nat → (List Int) → (List Bool) → (List Int) → Bool → Int → Option ((List Int) × (List Bool) × (List Int) × Bool × Int)
  | 0, _, _, _, _, _ => none
  | k + 1, class1, done1, firsts1, more1, i0 => if (decide (i0 ≥ (0 : Int))) = true then ((ix done1 i0).bind fun v0 => if v0 = true then (ref01_Classes.l1 m l0 k class1 done1 firsts1 more1 (i64.wrap (i0 - (1 : Int)))) else ((ix l0 i0).bind fun v1 => (ref01_ready.f m v1 done1).bind fun x2 => if (!x2) = true then (ref01_Classes.l1 m l0 k class1 done1 firsts1 more1 (i64.wrap (i0 - (1 : Int)))) else ((ref01_find.f m l0 firsts1 i0 class1).bind fun x3 => (ix class1 i0).bind fun v2 => (ix (class1.set i0.toNat x3) i0).bind fun v3 => if (v3 == i0) = true then ((app 8 firsts1 ([i0])).bind fun x4 => (ix done1 i0).bind fun v4 => ref01_Classes.l1 m l0 k (class1.set i0.toNat x3) (done1.set i0.toNat true) x4 true (i64.wrap (i0 - (1 : Int)))) else ((ix done1 i0).bind fun v5 => ref01_Classes.l1 m l0 k (class1.set i0.toNat x3) (done1.set i0.toNat true) firsts1 true (i64.wrap (i0 - (1 : Int))))))) else (some ((class1, done1, firsts1, more1, i0)))
def ref01_Classes.l0 (m : Nat) (l0 : List VNode) : Nat → (List Int) → (List Bool) → (List Int) → Bool → Option ((List Int) × (List Bool) × (List Int) × Bool)
  | 0, _, _, _, _ => none
  | k + 1, class0, done0, firsts0, more0 => if more0 = true then ((ref01_Classes.l1 m l0 m class0 done0 firsts0 false (i64.wrap ((l0.length : Int) - (1 : Int)))).bind fun out0 => match out0 with | (class2, done2, firsts2, more2, i1) => ref01_Classes.l0 m l0 k class2 done2 firsts2 more2) else (some ((class0, done0, firsts0, more0)))
def ref01_Classes.l3 (m : Nat) (l0 : List VNode) (i2 : Int) (x5 : List Int) : Nat → (List Int) → Int → Option ((List Int) × Int)
  | 0, _, _ => none
  | k + 1, class5, k0 => (ix class5 i2).bind fun v8 => if (v8 == i2) = true then ((ix x5 k0).bind fun v9 => if (decide (v9 < i2)) = true then ((ix l0 i2).bind fun v10 => (ix x5 k0).bind fun v11 => (ix l0 v11).bind fun v12 => (ref01_alike.f m v10 v12).bind fun x6 => if x6 = true then ((ix x5 k0).bind fun v13 => (ix class5 v13).bind fun v14 => (ix class5 i2).bind fun v15 => ref01_Classes.l3 m l0 i2 x5 k (class5.set i2.toNat v14) (i64.wrap (k0 + (1 : Int)))) else (ref01_Classes.l3 m l0 i2 x5 k class5 (i64.wrap (k0 + (1 : Int))))) else (some ((class5, k0)))) else (some ((class5, k0)))
def ref01_Classes.l2 (m : Nat) (l0 : List VNode) (done3 : List Bool) : Nat → (List Int) → (List Int) → Int → Option ((List Int) × (List Int) × Int)
  | 0, _, _, _ => none
  | k + 1, class4, rest0, i2 => if (decide (i2 < (l0.length : Int))) = true then ((ix done3 i2).bind fun v6 => if v6 = true then (ref01_Classes.l2 m l0 done3 k class4 rest0 (i64.wrap (i2 + (1 : Int)))) else ((app 8 rest0 ([i2])).bind fun x5 => (ix class4 i2).bind fun v7 => (ref01_Classes.l3 m l0 i2 x5 m (class4.set i2.toNat i2) (0 : Int)).bind fun out2 => match out2 with | (class6, k1) => ref01_Classes.l2 m l0 done3 k class6 x5 (i64.wrap (i2 + (1 : Int))))) else (some ((class4, rest0, i2)))
def ref01_Classes.l6 (m : Nat) (l0 : List VNode) (rest1 : List Int) (class8 : List Int) (j0 : Int) (v16 : Int) : Nat → (List Int) → Int → Option ((List Int) × Int)
  | 0, _, _ => none
  | k + 1, next1, k2 => (ix next1 v16).bind fun v18 => if (v18 == v16) = true then (if (decide (k2 < j0)) = true then ((ix class8 v16).bind fun v19 => (ix rest1 k2).bind fun v20 => (ix class8 v20).bind fun v21 => if (v19 == v21) = true then ((ix l0 v16).bind fun v22 => (ix rest1 k2).bind fun v23 => (ix l0 v23).bind fun v24 => (ref01_sameArgs.f m v22 v24 class8).bind fun x8 => if x8 = true then ((ix rest1 k2).bind fun v25 => (ix next1 v25).bind fun v26 => (ix next1 v16).bind fun v27 => ref01_Classes.l6 m l0 rest1 class8 j0 v16 k (next1.set v16.toNat v26) (i64.wrap (k2 + (1 : Int)))) else (ref01_Classes.l6 m l0 rest1 class8 j0 v16 k next1 (i64.wrap (k2 + (1 : Int))))) else (ref01_Classes.l6 m l0 rest1 class8 j0 v16 k next1 (i64.wrap (k2 + (1 : Int))))) else (some ((next1, k2)))) else (some ((next1, k2)))
def ref01_Classes.l5 (m : Nat) (l0 : List VNode) (rest1 : List Int) (class8 : List Int) : Nat → Bool → (List Int) → Int → Option (Bool × (List Int) × Int)
  | 0, _, _, _ => none
  | k + 1, more5, next0, j0 => if (decide (j0 < (rest1.length : Int))) = true then ((ix rest1 j0).bind fun v16 => (ix next0 v16).bind fun v17 => (ref01_Classes.l6 m l0 rest1 class8 j0 v16 m (next0.set v16.toNat v16) (0 : Int)).bind fun out4 => match out4 with | (next2, k3) => if more5 = true then (ref01_Classes.l5 m l0 rest1 class8 k true next2 (i64.wrap (j0 + (1 : Int)))) else ((ix next2 v16).bind fun v28 => (ix class8 v16).bind fun v29 => ref01_Classes.l5 m l0 rest1 class8 k (!(v28 == v29)) next2 (i64.wrap (j0 + (1 : Int))))) else (some ((more5, next0, j0)))
def ref01_Classes.l4 (m : Nat) (l0 : List VNode) (rest1 : List Int) : Nat → (List Int) → Bool → Option ((List Int) × Bool)
  | 0, _, _ => none
  | k + 1, class8, more4 => if more4 = true then ((app 8 ([] : List Int) class8).bind fun x7 => (ref01_Classes.l5 m l0 rest1 class8 m false x7 (0 : Int)).bind fun out5 => match out5 with | (more6, next3, j1) => ref01_Classes.l4 m l0 rest1 k next3 more6) else (some ((class8, more4)))
def ref01_Classes.f (m : Nat) (l0 : List VNode) : Option ((List Int)) := (mkl 8 (l0.length : Int) (0 : Int)).bind fun x0 => (mkl 1 (l0.length : Int) false).bind fun x1 => (ref01_Classes.l0 m l0 m x0 x1 ([] : List Int) true).bind fun out1 => match out1 with | (class3, done3, firsts3, more3) => (ref01_Classes.l2 m l0 done3 m class3 ([] : List Int) (0 : Int)).bind fun out3 => match out3 with | (class7, rest1, i3) => (ref01_Classes.l4 m l0 rest1 m class7 true).bind fun out6 => match out6 with | (class9, more7) => some class9
def ref01_Classes.fin (L : Mem) (r : (List Int)) (s : St) : Prop := ∃ av, resultA Tryd.prog (s.open ann76) Tryd.f76.results.toList = some av ∧ Frb s.h av (eInt.fz r)
def S76 (cf : CallF) (m : Nat) : Prop := ∀ (l0 : List VNode) (r : (List Int)), ref01_Classes.f m l0 = some r → ∀ h xs, FrzS bigK h xs [eNode.fz l0] → cf 76 xs h = some (eInt.fz r, h)
section
variable {cf : CallF} {m : Nat}
theorem ref01_Classes.l1_ok (L : Mem) (l0 : List VNode)  (S102_ : S102 cf m) (S103_ : S103 cf m) : LoopT Tryd.prog cf ann76 m (sub [1, 1, 1, 1, 0, 1, 0, 0, 1, 0, 1, 1, 0, 0] (codeOf Tryd.f76)) (fun k (σ : (List Int) × (List Bool) × (List Int) × Bool × Int) => ref01_Classes.l1 m l0 k σ.1 σ.2.1 σ.2.2.1 σ.2.2.2.1 σ.2.2.2.2) (fun σ s => match σ with | (class1, done1, firsts1, more1, i0) => ∃ ad7 ad6 ad5 h3, s = ⟨eNode.fz l0 :: .any :: .rs ad5 0 class1.length 1 :: .rs ad6 0 done1.length 1 :: .rs ad7 0 firsts1.length 1 :: .rs ((0)) 0 (([] : List Int).length) 1 :: .bool more1 :: .int .i64 i0 :: Ay19 [], [], h3⟩ ∧ Has h3 ((((0)), .sl (([] : List Int).length) 1 (eInt.l ([] : List Int))) :: (ad7, .sl firsts1.length 1 (eInt.l firsts1)) :: (ad6, .sl done1.length 1 (eBool.l done1)) :: (ad5, .sl class1.length 1 (eInt.l class1)) :: L)) (fun out e s => (e = .exit 2 ∧ ∃ class1 done1 firsts1 more1 i0, (class1, done1, firsts1, more1, i0) = out ∧ ∃ x8_ x27_ ad7 ad6 ad5 h3, s = ⟨eNode.fz l0 :: .any :: .rs ad5 0 class1.length 1 :: .rs ad6 0 done1.length 1 :: .rs ad7 0 firsts1.length 1 :: .rs ((0)) 0 (([] : List Int).length) 1 :: .bool more1 :: x8_ :: Ay8 (x27_ :: Ay10 []), [], h3⟩ ∧ Has h3 ((((0)), .sl (([] : List Int).length) 1 (eInt.l ([] : List Int))) :: (ad7, .sl firsts1.length 1 (eInt.l firsts1)) :: (ad6, .sl done1.length 1 (eBool.l done1)) :: (ad5, .sl class1.length 1 (eInt.l class1)) :: L))) := by
  refine lpT (fun _ => rfl) ?_
  rintro k ⟨class1, done1, firsts1, more1, i0⟩ s out ⟨ad7, ad6, ad5, h3, rfl, o5⟩ H
  have H : ref01_Classes.l1 m l0 (k + 1) class1 done1 firsts1 more1 i0 = some out := H
  refine qq <| qq <| q0 <| qc H (fun c1 H => ?_) (fun c1 H => ?_)
  · refine qk <| qq <| qb 3 <| qq <| qq ?_
    obtain ⟨v0, e4, H⟩ := bsi H
    rcases ift H with ⟨c2, H⟩ | ⟨c2, H⟩
    · exact qr [.v 2 (ia_ownL (k := .i64) (E := eBool) (l := done1) (q := 2) T53 o5 rfl e4), .v 3 (ld_own0  (E := eBool) (l := done1) (q := 2) o5 rfl A4 e4 rfl), .b 4 c2] <| qcT <| qx 3 <| q0 <| ⟨(class1, done1, firsts1, more1, i64.wrap (i0 - (1 : Int))), ⟨ad7, ad6, ad5, h3, by kernel_rfl, o5⟩, H⟩
    · obtain ⟨v1, e5, H⟩ := bsi H
      obtain ⟨x2, e6, H⟩ := bsi H
      refine qr [.v 2 (ia_ownL (k := .i64) (E := eBool) (l := done1) (q := 2) T53 o5 rfl e4), .v 3 (ld_own0  (E := eBool) (l := done1) (q := 2) o5 rfl A4 e4 rfl), .b 4 c2, .v 7 (ia_fz (k := .i64) (E := eNode) (l := l0) T29 e5), .v 8 (ld_fzA  (E := eNode) (l := l0) h3 A48 Z48 e5), .a 10 (S102_ _ _ _ e6 h3 _ (frs (fr_cons (fr_agg (fr_cons (fr_int) (fr_cons (fr_int) (fr_cons (fr_str) (fr_cons (fr_fz (E := eInt)) (fr_nil)))))) (fr_cons (fr_rs (E := eBool) (l := done1) (q := 2) o5 rfl (fun _ => rfl)) (fr_nil)))))] <| qc H (fun c4 H => ?_) (fun c4 H => ?_)
      · exact qx 3 <| q0 <| ⟨(class1, done1, firsts1, more1, i64.wrap (i0 - (1 : Int))), ⟨ad7, ad6, ad5, h3, by kernel_rfl, o5⟩, H⟩
      · refine qk <| qq ?_
        obtain ⟨x3, e7, H⟩ := bsi H
        obtain ⟨v2, e8, H⟩ := bsi H
        obtain ⟨h4, e9, o6⟩ := st_own (P := Tryd.prog) (tf := 3) (E := eInt) (l := class1) (q := 3) (v := x3) (x := .int .i64 x3) o5 rfl Z3 e8 rfl rfl
        refine qr [.a 6 (S103_ _ _ _ _ _ e7 h3 _ (frs (fr_cons (fr_fz (E := eNode)) (fr_cons (fr_rs (E := eInt) (l := firsts1) (q := 1) o5 rfl (fun _ => rfl)) (fr_cons (fr_int) (fr_cons (fr_rs (E := eInt) (l := class1) (q := 3) o5 rfl (fun _ => rfl)) (fr_nil))))))), .v 7 (ia_ownL (k := .i64) (E := eInt) (l := class1) (q := 3) T42 o5 rfl e8), .w 8 e9] <| qq <| qq ?_
        obtain ⟨v3, e10, H⟩ := bsi H
        refine qr [.v 2 (ia_ownL (k := .i64) (E := eInt) (l := (class1.set i0.toNat x3)) (q := 3) T42 o6 rfl e10), .v 3 (ld_own0  (E := eInt) (l := (class1.set i0.toNat x3)) (q := 3) o6 rfl A3 e10 rfl)] <| qc H (fun c5 H => ?_) (fun c5 H => ?_)
        · obtain ⟨x4, e11, H⟩ := bsi H
          obtain ⟨ad8, h5, e12, o7⟩ := ap_own (P := Tryd.prog) (E := eInt) (l := firsts1) (q := 1) (t2 := 42) (x := .fz [.int .i64 i0] 1 true) (l2 := ([i0])) T42 o6 rfl (by kernel_rfl) rfl e11
          refine qr [.a 3 e12] <| qq ?_
          obtain ⟨v4, e13, H⟩ := bsi H
          obtain ⟨h6, e14, o8⟩ := st_own (P := Tryd.prog) (tf := 4) (E := eBool) (l := done1) (q := 2) (v := true) (x := .bool true) o7 rfl Z4 e13 rfl rfl
          exact qr [.v 2 (ia_ownL (k := .i64) (E := eBool) (l := done1) (q := 2) T53 o7 rfl e13), .w 3 e14] <| q0 <| q0 <| ⟨(class1.set i0.toNat x3, done1.set i0.toNat true, x4, true, i64.wrap (i0 - (1 : Int))), ⟨ad8, ad6, ad5, h6, (Eq.trans (b := ⟨eNode.fz l0 :: .any :: .rs ad5 0 class1.length 1 :: .rs ad6 0 done1.length 1 :: .rs ad8 0 x4.length 1 :: .rs ((0)) 0 (([] : List Int).length) 1 :: .bool true :: .int .i64 (i64.wrap (i0 - (1 : Int))) :: Ay19 [], [], h6⟩) (by kernel_rfl) (by simp only [List.length_set])), (by have o : Has h6 ((((0)), .sl (([] : List Int).length) 1 (eInt.l ([] : List Int))) :: (ad8, .sl x4.length 1 (eInt.l x4)) :: (ad6, .sl done1.length 1 (eBool.l (done1.set i0.toNat true))) :: (ad5, .sl class1.length 1 (eInt.l (class1.set i0.toNat x3))) :: L) := o8; simpa only [List.length_set] using o)⟩, H⟩
        · refine qk <| qq ?_
          obtain ⟨v5, e15, H⟩ := bsi H
          obtain ⟨h7, e16, o9⟩ := st_own (P := Tryd.prog) (tf := 4) (E := eBool) (l := done1) (q := 2) (v := true) (x := .bool true) o6 rfl Z4 e15 rfl rfl
          exact qr [.v 2 (ia_ownL (k := .i64) (E := eBool) (l := done1) (q := 2) T53 o6 rfl e15), .w 3 e16] <| q0 <| q0 <| ⟨(class1.set i0.toNat x3, done1.set i0.toNat true, firsts1, true, i64.wrap (i0 - (1 : Int))), ⟨ad7, ad6, ad5, h7, (Eq.trans (b := ⟨eNode.fz l0 :: .any :: .rs ad5 0 class1.length 1 :: .rs ad6 0 done1.length 1 :: .rs ad7 0 firsts1.length 1 :: .rs ((0)) 0 (([] : List Int).length) 1 :: .bool true :: .int .i64 (i64.wrap (i0 - (1 : Int))) :: Ay19 [], [], h7⟩) (by kernel_rfl) (by simp only [List.length_set])), (by have o : Has h7 ((((0)), .sl (([] : List Int).length) 1 (eInt.l ([] : List Int))) :: (ad7, .sl firsts1.length 1 (eInt.l firsts1)) :: (ad6, .sl done1.length 1 (eBool.l (done1.set i0.toNat true))) :: (ad5, .sl class1.length 1 (eInt.l (class1.set i0.toNat x3))) :: L) := o9; simpa only [List.length_set] using o)⟩, H⟩
  · exact qx 2 <| ⟨rfl, class1, done1, firsts1, more1, i0, oi H, .int .i64 i0, .bool (decide (i0 ≥ (0 : Int))), ad7, ad6, ad5, h3, by kernel_rfl, o5⟩
theorem ref01_Classes.l0_ok (L : Mem) (l0 : List VNode)  (S102_ : S102 cf m) (S103_ : S103 cf m) : LoopT Tryd.prog cf ann76 m (sub [1, 1, 1, 1, 0, 1, 0, 0] (codeOf Tryd.f76)) (fun k (σ : (List Int) × (List Bool) × (List Int) × Bool) => ref01_Classes.l0 m l0 k σ.1 σ.2.1 σ.2.2.1 σ.2.2.2) (fun σ s => match σ with | (class0, done0, firsts0, more0) => ∃ g0 g1 ad4 ad3 ad2 h2, s = ⟨eNode.fz l0 :: .any :: .rs ad2 0 class0.length 1 :: .rs ad3 0 done0.length 1 :: .rs ad4 0 firsts0.length 1 :: .rs ((0)) 0 (([] : List Int).length) 1 :: .bool more0 :: g0 :: Ay8 (g1 :: Ay10 []), [], h2⟩ ∧ Has h2 ((((0)), .sl (([] : List Int).length) 1 (eInt.l ([] : List Int))) :: (ad4, .sl firsts0.length 1 (eInt.l firsts0)) :: (ad3, .sl done0.length 1 (eBool.l done0)) :: (ad2, .sl class0.length 1 (eInt.l class0)) :: L)) (fun out e s => (e = .exit 0 ∧ ∃ class0 done0 firsts0 more0, (class0, done0, firsts0, more0) = out ∧ ∃ x5_ x7_ x8_ x22_ x27_ ad4 ad3 ad2 h2, s = ⟨eNode.fz l0 :: .any :: .rs ad2 0 class0.length 1 :: .rs ad3 0 done0.length 1 :: x5_ :: .rs ((0)) 0 (([] : List Int).length) 1 :: x7_ :: x8_ :: Ay7 (x22_ :: x27_ :: Ay10 []), [], h2⟩ ∧ Has h2 ((((0)), .sl (([] : List Int).length) 1 (eInt.l ([] : List Int))) :: (ad4, .sl firsts0.length 1 (eInt.l firsts0)) :: (ad3, .sl done0.length 1 (eBool.l done0)) :: (ad2, .sl class0.length 1 (eInt.l class0)) :: L))) := by
  refine lpT (fun _ => rfl) ?_
  rintro k ⟨class0, done0, firsts0, more0⟩ s out ⟨g0, g1, ad4, ad3, ad2, h2, rfl, o4⟩ H
  have H : ref01_Classes.l0 m l0 (k + 1) class0 done0 firsts0 more0 = some out := H
  refine qq <| qq <| q0 <| qc H (fun c0 H => ?_) (fun c0 H => ?_)
  · refine qk <| qb 1 <| qq <| q0 <| qq <| q0 <| qb 2 ?_
    obtain ⟨out0, e17, H⟩ := bsi H
    refine ql (ref01_Classes.l1_ok L l0  S102_ S103_ (class0, done0, firsts0, false, i64.wrap ((l0.length : Int) - (1 : Int))) _ _ ⟨ad4, ad3, ad2, h2, by kernel_rfl, o4⟩ e17) ?_
    rintro e s ⟨rfl, class2, done2, firsts2, more2, i1, rfl, g2, g3, ad9, ad10, ad11, h8, rfl, o10⟩
    try dsimp only at H
    exact ⟨(class2, done2, firsts2, more2), ⟨g2, g3, ad9, ad10, ad11, h8, by kernel_rfl, o10⟩, H⟩
  · exact qx 0 <| ⟨rfl, class0, done0, firsts0, more0, oi H, .rs ad4 0 firsts0.length 1, .any, .any, .bool more0, .any, ad4, ad3, ad2, h2, by kernel_rfl, o4⟩
theorem ref01_Classes.l3_ok (L : Mem) (l0 : List VNode) (ad13 : Nat) (done3 : List Bool) (ad13 : Nat) (i2 : Int) (x5 : List Int) (ad17 : Nat)  (S104_ : S104 cf m) : LoopT Tryd.prog cf ann76 m (sub [1, 1, 1, 1, 1, 0, 1, 0, 0, 1, 0, 0, 1, 1, 1, 1, 0, 0] (codeOf Tryd.f76)) (fun k (σ : (List Int) × Int) => ref01_Classes.l3 m l0 i2 x5 k σ.1 σ.2) (fun σ s => match σ with | (class5, k0) => ∃ ad18 h13, s = ⟨eNode.fz l0 :: .any :: .rs ad18 0 class5.length 1 :: .rs ad13 0 done3.length 1 :: .any :: .rs ad17 0 x5.length 1 :: .any :: .any :: .int .i64 i2 :: .int .i64 k0 :: Ay17 [], [], h13⟩ ∧ Has h13 ((ad17, .sl x5.length 1 (eInt.l x5)) :: (ad13, .sl done3.length 1 (eBool.l done3)) :: (ad18, .sl class5.length 1 (eInt.l class5)) :: L)) (fun out e s => (e = .exit 6 ∧ ∃ class5 k0, (class5, k0) = out ∧ ∃ x10_ x95_ ad18 h13, s = ⟨eNode.fz l0 :: .any :: .rs ad18 0 class5.length 1 :: .rs ad13 0 done3.length 1 :: .any :: .rs ad17 0 x5.length 1 :: .any :: .any :: .int .i64 i2 :: x10_ :: Ay11 (x95_ :: Ay5 []), [], h13⟩ ∧ Has h13 ((ad17, .sl x5.length 1 (eInt.l x5)) :: (ad13, .sl done3.length 1 (eBool.l done3)) :: (ad18, .sl class5.length 1 (eInt.l class5)) :: L))) := by
  refine lpT (fun _ => rfl) ?_
  rintro k ⟨class5, k0⟩ s out ⟨ad18, h13, rfl, o16⟩ H
  have H : ref01_Classes.l3 m l0 i2 x5 (k + 1) class5 k0 = some out := H
  refine qq <| qq ?_
  obtain ⟨v8, e24, H⟩ := bsi H
  rcases ift H with ⟨c8, H⟩ | ⟨c8, H⟩
  · obtain ⟨v9, e25, H⟩ := bsi H
    refine qr [.v 2 (ia_ownL (k := .i64) (E := eInt) (l := class5) (q := 2) T42 o16 rfl e24), .v 3 (ld_own0  (E := eInt) (l := class5) (q := 2) o16 rfl A3 e24 rfl), .b 6 c8, .v 9 (ia_ownL (k := .i64) (E := eInt) (l := x5) (q := 0) T42 o16 rfl e25), .v 10 (ld_own0  (E := eInt) (l := x5) (q := 0) o16 rfl A3 e25 rfl)] <| qc H (fun c9 H => ?_) (fun c9 H => ?_)
    · refine qk <| qq <| qb 7 <| qq ?_
      obtain ⟨v10, e26, H⟩ := bsi H
      obtain ⟨v11, e27, H⟩ := bsi H
      obtain ⟨v12, e28, H⟩ := bsi H
      obtain ⟨x6, e29, H⟩ := bsi H
      refine qr [.v 2 (ia_fz (k := .i64) (E := eNode) (l := l0) T29 e26), .v 3 (ld_fzA  (E := eNode) (l := l0) h13 A48 Z48 e26), .v 7 (ia_ownL (k := .i64) (E := eInt) (l := x5) (q := 0) T42 o16 rfl e27), .v 8 (ld_own0  (E := eInt) (l := x5) (q := 0) o16 rfl A3 e27 rfl), .v 9 (ia_fz (k := .i64) (E := eNode) (l := l0) T29 e28), .v 10 (ld_fzA  (E := eNode) (l := l0) h13 A48 Z48 e28), .a 11 (S104_ _ _ _ e29 h13 _ (frs (fr_cons (fr_agg (fr_cons (fr_int) (fr_cons (fr_int) (fr_cons (fr_str) (fr_cons (fr_fz (E := eInt)) (fr_nil)))))) (fr_cons (fr_agg (fr_cons (fr_int) (fr_cons (fr_int) (fr_cons (fr_str) (fr_cons (fr_fz (E := eInt)) (fr_nil)))))) (fr_nil)))))] <| qc H (fun c10 H => ?_) (fun c10 H => ?_)
      · obtain ⟨v13, e30, H⟩ := bsi H
        obtain ⟨v14, e31, H⟩ := bsi H
        obtain ⟨v15, e32, H⟩ := bsi H
        obtain ⟨h14, e33, o17⟩ := st_own (P := Tryd.prog) (tf := 3) (E := eInt) (l := class5) (q := 2) (v := v14) (x := .int .i64 v14) o16 rfl Z3 e32 rfl rfl
        exact qr [.v 5 (ia_ownL (k := .i64) (E := eInt) (l := x5) (q := 0) T42 o16 rfl e30), .v 6 (ld_own0  (E := eInt) (l := x5) (q := 0) o16 rfl A3 e30 rfl), .v 7 (ia_ownL (k := .i64) (E := eInt) (l := class5) (q := 2) T42 o16 rfl e31), .v 8 (ld_own0  (E := eInt) (l := class5) (q := 2) o16 rfl A3 e31 rfl), .v 9 (ia_ownL (k := .i64) (E := eInt) (l := class5) (q := 2) T42 o16 rfl e32), .w 10 e33] <| q0 <| ⟨(class5.set i2.toNat v14, i64.wrap (k0 + (1 : Int))), ⟨ad18, h14, (Eq.trans (b := ⟨eNode.fz l0 :: .any :: .rs ad18 0 class5.length 1 :: .rs ad13 0 done3.length 1 :: .any :: .rs ad17 0 x5.length 1 :: .any :: .any :: .int .i64 i2 :: .int .i64 (i64.wrap (k0 + (1 : Int))) :: Ay17 [], [], h14⟩) (by kernel_rfl) (by simp only [List.length_set])), (by have o : Has h14 ((ad17, .sl x5.length 1 (eInt.l x5)) :: (ad13, .sl done3.length 1 (eBool.l done3)) :: (ad18, .sl class5.length 1 (eInt.l (class5.set i2.toNat v14))) :: L) := o17; simpa only [List.length_set] using o)⟩, H⟩
      · exact qk <| q0 <| ⟨(class5, i64.wrap (k0 + (1 : Int))), ⟨ad18, h13, by kernel_rfl, o16⟩, H⟩
    · exact qx 6 <| ⟨rfl, class5, k0, oi H, .int .i64 k0, .bool (decide (v9 < i2)), ad18, h13, by kernel_rfl, o16⟩
  · exact qr [.v 2 (ia_ownL (k := .i64) (E := eInt) (l := class5) (q := 2) T42 o16 rfl e24), .v 3 (ld_own0  (E := eInt) (l := class5) (q := 2) o16 rfl A3 e24 rfl), .b 6 c8] <| qcF <| qx 6 <| ⟨rfl, class5, k0, oi H, .int .i64 k0, .bool false, ad18, h13, by kernel_rfl, o16⟩
theorem ref01_Classes.l2_ok (L : Mem) (l0 : List VNode) (ad13 : Nat) (done3 : List Bool) (ad13 : Nat)  (S104_ : S104 cf m) : LoopT Tryd.prog cf ann76 m (sub [1, 1, 1, 1, 1, 0, 1, 0, 0] (codeOf Tryd.f76)) (fun k (σ : (List Int) × (List Int) × Int) => ref01_Classes.l2 m l0 done3 k σ.1 σ.2.1 σ.2.2) (fun σ s => match σ with | (class4, rest0, i2) => ∃ ad16 ad15 h10, s = ⟨eNode.fz l0 :: .any :: .rs ad15 0 class4.length 1 :: .rs ad13 0 done3.length 1 :: .any :: .rs ad16 0 rest0.length 1 :: .any :: .any :: .int .i64 i2 :: Ay18 [], [], h10⟩ ∧ Has h10 ((ad16, .sl rest0.length 1 (eInt.l rest0)) :: (ad13, .sl done3.length 1 (eBool.l done3)) :: (ad15, .sl class4.length 1 (eInt.l class4)) :: L)) (fun out e s => (e = .exit 4 ∧ ∃ class4 rest0 i2, (class4, rest0, i2) = out ∧ ∃ x4_ x9_ x67_ ad16 ad15 h10, s = ⟨eNode.fz l0 :: .any :: .rs ad15 0 class4.length 1 :: x4_ :: .any :: .rs ad16 0 rest0.length 1 :: .any :: .any :: x9_ :: Ay10 (x67_ :: Ay7 []), [], h10⟩ ∧ Has h10 ((ad16, .sl rest0.length 1 (eInt.l rest0)) :: (ad13, .sl done3.length 1 (eBool.l done3)) :: (ad15, .sl class4.length 1 (eInt.l class4)) :: L))) := by
  refine lpT (fun _ => rfl) ?_
  rintro k ⟨class4, rest0, i2⟩ s out ⟨ad16, ad15, h10, rfl, o13⟩ H
  have H : ref01_Classes.l2 m l0 done3 (k + 1) class4 rest0 i2 = some out := H
  refine qq <| qq <| q0 <| qc H (fun c6 H => ?_) (fun c6 H => ?_)
  · refine qk <| qq <| qb 5 <| qq <| qq ?_
    obtain ⟨v6, e19, H⟩ := bsi H
    refine qr [.v 2 (ia_ownL (k := .i64) (E := eBool) (l := done3) (q := 1) T53 o13 rfl e19), .v 3 (ld_own0  (E := eBool) (l := done3) (q := 1) o13 rfl A4 e19 rfl)] <| qc H (fun c7 H => ?_) (fun c7 H => ?_)
    · exact qx 5 <| q0 <| ⟨(class4, rest0, i64.wrap (i2 + (1 : Int))), ⟨ad16, ad15, h10, by kernel_rfl, o13⟩, H⟩
    · refine qk <| qq ?_
      obtain ⟨x5, e20, H⟩ := bsi H
      obtain ⟨ad17, h11, e21, o14⟩ := ap_own (P := Tryd.prog) (E := eInt) (l := rest0) (q := 0) (t2 := 42) (x := .fz [.int .i64 i2] 1 true) (l2 := ([i2])) T42 o13 rfl (by kernel_rfl) rfl e20
      refine qr [.a 3 e21] <| qq ?_
      obtain ⟨v7, e22, H⟩ := bsi H
      obtain ⟨h12, e23, o15⟩ := st_own (P := Tryd.prog) (tf := 3) (E := eInt) (l := class4) (q := 2) (v := i2) (x := .int .i64 i2) o14 rfl Z3 e22 rfl rfl
      refine qr [.v 3 (ia_ownL (k := .i64) (E := eInt) (l := class4) (q := 2) T42 o14 rfl e22), .w 4 e23] <| qq <| q0 <| qb 6 ?_
      obtain ⟨out2, e34, H⟩ := bsi H
      refine ql (ref01_Classes.l3_ok L l0 ad13 done3 ad13 i2 x5 ad17  S104_ (class4.set i2.toNat i2, (0 : Int)) _ _ ⟨ad15, h12, (Eq.trans (b := ⟨eNode.fz l0 :: .any :: .rs ad15 0 class4.length 1 :: .rs ad13 0 done3.length 1 :: .any :: .rs ad17 0 x5.length 1 :: .any :: .any :: .int .i64 i2 :: .int .i64 (0 : Int) :: Ay17 [], [], h12⟩) (by kernel_rfl) (by simp only [List.length_set])), (by have o : Has h12 ((ad17, .sl x5.length 1 (eInt.l x5)) :: (ad13, .sl done3.length 1 (eBool.l done3)) :: (ad15, .sl class4.length 1 (eInt.l (class4.set i2.toNat i2))) :: L) := o15; simpa only [List.length_set] using o)⟩ e34) ?_
      rintro e s ⟨rfl, class6, k1, rfl, g9, g10, ad19, h15, rfl, o18⟩
      try dsimp only at H
      exact q0 <| ⟨(class6, x5, i64.wrap (i2 + (1 : Int))), ⟨ad17, ad19, h15, by kernel_rfl, o18⟩, H⟩
  · exact qx 4 <| ⟨rfl, class4, rest0, i2, oi H, .rs ad13 0 done3.length 1, .int .i64 i2, .bool (decide (i2 < (l0.length : Int))), ad16, ad15, h10, by kernel_rfl, o13⟩
theorem ref01_Classes.l6_ok (L : Mem) (l0 : List VNode) (ad20 : Nat) (rest1 : List Int) (ad20 : Nat) (ad22 : Nat) (class8 : List Int) (ad22 : Nat) (more5 : Bool) (j0 : Int) (v16 : Int)  (S105_ : S105 cf m) : LoopT Tryd.prog cf ann76 m (sub [1, 1, 1, 1, 1, 1, 0, 1, 0, 0, 1, 0, 1, 1, 1, 0, 1, 0, 0, 1, 0, 0, 1, 1, 0, 1, 0, 0] (codeOf Tryd.f76)) (fun k (σ : (List Int) × Int) => ref01_Classes.l6 m l0 rest1 class8 j0 v16 k σ.1 σ.2) (fun σ s => match σ with | (next1, k2) => ∃ ad25 h21, s = ⟨eNode.fz l0 :: .any :: .rs ad22 0 class8.length 1 :: .any :: .any :: .rs ad20 0 rest1.length 1 :: Ay4 (.bool more5 :: .rs ad25 0 next1.length 1 :: .int .i64 j0 :: .int .i64 v16 :: .int .i64 k2 :: Ay12 []), [], h21⟩ ∧ Has h21 ((ad25, .sl next1.length 1 (eInt.l next1)) :: (ad20, .sl rest1.length 1 (eInt.l rest1)) :: (ad22, .sl class8.length 1 (eInt.l class8)) :: L)) (fun out e s => (e = .exit 12 ∧ ∃ next1 k2, (next1, k2) = out ∧ ∃ x15_ x148_ ad25 h21, s = ⟨eNode.fz l0 :: .any :: .rs ad22 0 class8.length 1 :: .any :: .any :: .rs ad20 0 rest1.length 1 :: Ay4 (.bool more5 :: .rs ad25 0 next1.length 1 :: .int .i64 j0 :: .int .i64 v16 :: x15_ :: Ay10 [x148_, .any]), [], h21⟩ ∧ Has h21 ((ad25, .sl next1.length 1 (eInt.l next1)) :: (ad20, .sl rest1.length 1 (eInt.l rest1)) :: (ad22, .sl class8.length 1 (eInt.l class8)) :: L))) := by
  refine lpT (fun _ => rfl) ?_
  rintro k ⟨next1, k2⟩ s out ⟨ad25, h21, rfl, o26⟩ H
  have H : ref01_Classes.l6 m l0 rest1 class8 j0 v16 (k + 1) next1 k2 = some out := H
  refine qq <| qq ?_
  obtain ⟨v18, e41, H⟩ := bsi H
  rcases ift H with ⟨c14, H⟩ | ⟨c14, H⟩
  · refine qr [.v 2 (ia_ownL (k := .i64) (E := eInt) (l := next1) (q := 0) T42 o26 rfl e41), .v 3 (ld_own0  (E := eInt) (l := next1) (q := 0) o26 rfl A3 e41 rfl), .b 6 c14] <| qc H (fun c15 H => ?_) (fun c15 H => ?_)
    · refine qk <| qq <| qb 13 <| qq ?_
      obtain ⟨v19, e42, H⟩ := bsi H
      obtain ⟨v20, e43, H⟩ := bsi H
      obtain ⟨v21, e44, H⟩ := bsi H
      rcases ift H with ⟨c16, H⟩ | ⟨c16, H⟩
      · obtain ⟨v22, e45, H⟩ := bsi H
        obtain ⟨v23, e46, H⟩ := bsi H
        obtain ⟨v24, e47, H⟩ := bsi H
        obtain ⟨x8, e48, H⟩ := bsi H
        refine qr [.v 2 (ia_ownL (k := .i64) (E := eInt) (l := class8) (q := 2) T42 o26 rfl e42), .v 3 (ld_own0  (E := eInt) (l := class8) (q := 2) o26 rfl A3 e42 rfl), .v 7 (ia_ownL (k := .i64) (E := eInt) (l := rest1) (q := 1) T42 o26 rfl e43), .v 8 (ld_own0  (E := eInt) (l := rest1) (q := 1) o26 rfl A3 e43 rfl), .v 9 (ia_ownL (k := .i64) (E := eInt) (l := class8) (q := 2) T42 o26 rfl e44), .v 10 (ld_own0  (E := eInt) (l := class8) (q := 2) o26 rfl A3 e44 rfl), .b 12 c16, .v 15 (ia_fz (k := .i64) (E := eNode) (l := l0) T29 e45), .v 16 (ld_fzA  (E := eNode) (l := l0) h21 A48 Z48 e45), .v 20 (ia_ownL (k := .i64) (E := eInt) (l := rest1) (q := 1) T42 o26 rfl e46), .v 21 (ld_own0  (E := eInt) (l := rest1) (q := 1) o26 rfl A3 e46 rfl), .v 22 (ia_fz (k := .i64) (E := eNode) (l := l0) T29 e47), .v 23 (ld_fzA  (E := eNode) (l := l0) h21 A48 Z48 e47), .a 25 (S105_ _ _ _ _ e48 h21 _ (frs (fr_cons (fr_agg (fr_cons (fr_int) (fr_cons (fr_int) (fr_cons (fr_str) (fr_cons (fr_fz (E := eInt)) (fr_nil)))))) (fr_cons (fr_agg (fr_cons (fr_int) (fr_cons (fr_int) (fr_cons (fr_str) (fr_cons (fr_fz (E := eInt)) (fr_nil)))))) (fr_cons (fr_rs (E := eInt) (l := class8) (q := 2) o26 rfl (fun _ => rfl)) (fr_nil))))))] ?_
        refine qc H (fun c17 H => ?_) (fun c17 H => ?_)
        · obtain ⟨v25, e49, H⟩ := bsi H
          obtain ⟨v26, e50, H⟩ := bsi H
          obtain ⟨v27, e51, H⟩ := bsi H
          obtain ⟨h22, e52, o27⟩ := st_own (P := Tryd.prog) (tf := 3) (E := eInt) (l := next1) (q := 0) (v := v26) (x := .int .i64 v26) o26 rfl Z3 e51 rfl rfl
          exact qr [.v 5 (ia_ownL (k := .i64) (E := eInt) (l := rest1) (q := 1) T42 o26 rfl e49), .v 6 (ld_own0  (E := eInt) (l := rest1) (q := 1) o26 rfl A3 e49 rfl), .v 7 (ia_ownL (k := .i64) (E := eInt) (l := next1) (q := 0) T42 o26 rfl e50), .v 8 (ld_own0  (E := eInt) (l := next1) (q := 0) o26 rfl A3 e50 rfl), .v 9 (ia_ownL (k := .i64) (E := eInt) (l := next1) (q := 0) T42 o26 rfl e51), .w 10 e52] <| q0 <| ⟨(next1.set v16.toNat v26, i64.wrap (k2 + (1 : Int))), ⟨ad25, h22, (Eq.trans (b := ⟨eNode.fz l0 :: .any :: .rs ad22 0 class8.length 1 :: .any :: .any :: .rs ad20 0 rest1.length 1 :: Ay4 (.bool more5 :: .rs ad25 0 next1.length 1 :: .int .i64 j0 :: .int .i64 v16 :: .int .i64 (i64.wrap (k2 + (1 : Int))) :: Ay12 []), [], h22⟩) (by kernel_rfl) (by simp only [List.length_set])), (by have o : Has h22 ((ad25, .sl next1.length 1 (eInt.l (next1.set v16.toNat v26))) :: (ad20, .sl rest1.length 1 (eInt.l rest1)) :: (ad22, .sl class8.length 1 (eInt.l class8)) :: L) := o27; simpa only [List.length_set] using o)⟩, H⟩
        · exact qk <| q0 <| ⟨(next1, i64.wrap (k2 + (1 : Int))), ⟨ad25, h21, by kernel_rfl, o26⟩, H⟩
      · exact qr [.v 2 (ia_ownL (k := .i64) (E := eInt) (l := class8) (q := 2) T42 o26 rfl e42), .v 3 (ld_own0  (E := eInt) (l := class8) (q := 2) o26 rfl A3 e42 rfl), .v 7 (ia_ownL (k := .i64) (E := eInt) (l := rest1) (q := 1) T42 o26 rfl e43), .v 8 (ld_own0  (E := eInt) (l := rest1) (q := 1) o26 rfl A3 e43 rfl), .v 9 (ia_ownL (k := .i64) (E := eInt) (l := class8) (q := 2) T42 o26 rfl e44), .v 10 (ld_own0  (E := eInt) (l := class8) (q := 2) o26 rfl A3 e44 rfl), .b 12 c16] <| qcF <| qk <| q0 <| ⟨(next1, i64.wrap (k2 + (1 : Int))), ⟨ad25, h21, by kernel_rfl, o26⟩, H⟩
    · exact qx 12 <| ⟨rfl, next1, k2, oi H, .int .i64 k2, .bool (decide (k2 < j0)), ad25, h21, by kernel_rfl, o26⟩
  · exact qr [.v 2 (ia_ownL (k := .i64) (E := eInt) (l := next1) (q := 0) T42 o26 rfl e41), .v 3 (ld_own0  (E := eInt) (l := next1) (q := 0) o26 rfl A3 e41 rfl), .b 6 c14] <| qcF <| qx 12 <| ⟨rfl, next1, k2, oi H, .int .i64 k2, .bool false, ad25, h21, by kernel_rfl, o26⟩
theorem ref01_Classes.l5_ok (L : Mem) (l0 : List VNode) (ad20 : Nat) (rest1 : List Int) (ad20 : Nat) (ad22 : Nat) (class8 : List Int) (ad22 : Nat)  (S105_ : S105 cf m) : LoopT Tryd.prog cf ann76 m (sub [1, 1, 1, 1, 1, 1, 0, 1, 0, 0, 1, 0, 1, 1, 1, 0, 1, 0, 0] (codeOf Tryd.f76)) (fun k (σ : Bool × (List Int) × Int) => ref01_Classes.l5 m l0 rest1 class8 k σ.1 σ.2.1 σ.2.2) (fun σ s => match σ with | (more5, next0, j0) => ∃ ad24 h19, s = ⟨eNode.fz l0 :: .any :: .rs ad22 0 class8.length 1 :: .any :: .any :: .rs ad20 0 rest1.length 1 :: Ay4 (.bool more5 :: .rs ad24 0 next0.length 1 :: .int .i64 j0 :: Ay14 []), [], h19⟩ ∧ Has h19 ((ad24, .sl next0.length 1 (eInt.l next0)) :: (ad20, .sl rest1.length 1 (eInt.l rest1)) :: (ad22, .sl class8.length 1 (eInt.l class8)) :: L)) (fun out e s => (e = .exit 10 ∧ ∃ more5 next0 j0, (more5, next0, j0) = out ∧ ∃ x3_ x13_ x127_ ad24 h19, s = ⟨eNode.fz l0 :: .any :: x3_ :: .any :: .any :: .rs ad20 0 rest1.length 1 :: Ay4 (.bool more5 :: .rs ad24 0 next0.length 1 :: x13_ :: Ay11 [x127_, .any, .any]), [], h19⟩ ∧ Has h19 ((ad24, .sl next0.length 1 (eInt.l next0)) :: (ad20, .sl rest1.length 1 (eInt.l rest1)) :: (ad22, .sl class8.length 1 (eInt.l class8)) :: L))) := by
  refine lpT (fun _ => rfl) ?_
  rintro k ⟨more5, next0, j0⟩ s out ⟨ad24, h19, rfl, o24⟩ H
  have H : ref01_Classes.l5 m l0 rest1 class8 (k + 1) more5 next0 j0 = some out := H
  refine qq <| qq <| q0 <| qc H (fun c13 H => ?_) (fun c13 H => ?_)
  · refine qk <| qq <| qb 11 <| qq ?_
    obtain ⟨v16, e38, H⟩ := bsi H
    refine qr [.v 2 (ia_ownL (k := .i64) (E := eInt) (l := rest1) (q := 1) T42 o24 rfl e38), .v 3 (ld_own0  (E := eInt) (l := rest1) (q := 1) o24 rfl A3 e38 rfl)] <| qq ?_
    obtain ⟨v17, e39, H⟩ := bsi H
    obtain ⟨h20, e40, o25⟩ := st_own (P := Tryd.prog) (tf := 3) (E := eInt) (l := next0) (q := 0) (v := v16) (x := .int .i64 v16) o24 rfl Z3 e39 rfl rfl
    refine qr [.v 3 (ia_ownL (k := .i64) (E := eInt) (l := next0) (q := 0) T42 o24 rfl e39), .w 4 e40] <| qq <| qq <| q0 <| qb 12 ?_
    obtain ⟨out4, e53, H⟩ := bsi H
    refine ql (ref01_Classes.l6_ok L l0 ad20 rest1 ad20 ad22 class8 ad22 more5 j0 v16  S105_ (next0.set v16.toNat v16, (0 : Int)) _ _ ⟨ad24, h20, (Eq.trans (b := ⟨eNode.fz l0 :: .any :: .rs ad22 0 class8.length 1 :: .any :: .any :: .rs ad20 0 rest1.length 1 :: Ay4 (.bool more5 :: .rs ad24 0 next0.length 1 :: .int .i64 j0 :: .int .i64 v16 :: .int .i64 (0 : Int) :: Ay12 []), [], h20⟩) (by kernel_rfl) (by simp only [List.length_set])), (by have o : Has h20 ((ad24, .sl next0.length 1 (eInt.l (next0.set v16.toNat v16))) :: (ad20, .sl rest1.length 1 (eInt.l rest1)) :: (ad22, .sl class8.length 1 (eInt.l class8)) :: L) := o25; simpa only [List.length_set] using o)⟩ e53) ?_
    rintro e s ⟨rfl, next2, k3, rfl, g14, g15, ad26, h23, rfl, o28⟩
    try dsimp only at H
    rcases ift H with ⟨c20, H⟩ | ⟨c20, H⟩
    · exact qr [.b 1 c20] <| q0 <| ⟨(true, next2, i64.wrap (j0 + (1 : Int))), ⟨ad26, h23, by kernel_rfl, o28⟩, H⟩
    · obtain ⟨v28, e54, H⟩ := bsi H
      obtain ⟨v29, e55, H⟩ := bsi H
      exact qr [.b 1 c20, .v 4 (ia_ownL (k := .i64) (E := eInt) (l := next2) (q := 0) T42 o28 rfl e54), .v 5 (ld_own0  (E := eInt) (l := next2) (q := 0) o28 rfl A3 e54 rfl), .v 8 (ia_ownL (k := .i64) (E := eInt) (l := class8) (q := 2) T42 o28 rfl e55), .v 9 (ld_own0  (E := eInt) (l := class8) (q := 2) o28 rfl A3 e55 rfl)] <| q0 <| ⟨(!(v28 == v29), next2, i64.wrap (j0 + (1 : Int))), ⟨ad26, h23, by kernel_rfl, o28⟩, H⟩
  · exact qx 10 <| ⟨rfl, more5, next0, j0, oi H, .rs ad22 0 class8.length 1, .int .i64 j0, .bool (decide (j0 < (rest1.length : Int))), ad24, h19, by kernel_rfl, o24⟩
theorem ref01_Classes.l4_ok (L : Mem) (l0 : List VNode) (ad20 : Nat) (rest1 : List Int) (ad20 : Nat)  (S105_ : S105 cf m) : LoopT Tryd.prog cf ann76 m (sub [1, 1, 1, 1, 1, 1, 0, 1, 0, 0] (codeOf Tryd.f76)) (fun k (σ : (List Int) × Bool) => ref01_Classes.l4 m l0 rest1 k σ.1 σ.2) (fun σ s => match σ with | (class8, more4) => ∃ ad22 h17, s = ⟨eNode.fz l0 :: .any :: .rs ad22 0 class8.length 1 :: .any :: .any :: .rs ad20 0 rest1.length 1 :: Ay4 (.bool more4 :: Ay16 []), [], h17⟩ ∧ Has h17 ((ad20, .sl rest1.length 1 (eInt.l rest1)) :: (ad22, .sl class8.length 1 (eInt.l class8)) :: L)) (fun out e s => (e = .exit 8 ∧ ∃ class8 more4, (class8, more4) = out ∧ ∃ x0_ x6_ x11_ x120_ ad22 h17, s = ⟨x0_ :: .any :: .rs ad22 0 class8.length 1 :: .any :: .any :: x6_ :: Ay4 (x11_ :: Ay12 (x120_ :: Ay3 [])), [], h17⟩ ∧ Has h17 ((ad20, .sl rest1.length 1 (eInt.l rest1)) :: (ad22, .sl class8.length 1 (eInt.l class8)) :: L))) := by
  refine lpT (fun _ => rfl) ?_
  rintro k ⟨class8, more4⟩ s out ⟨ad22, h17, rfl, o21⟩ H
  have H : ref01_Classes.l4 m l0 rest1 (k + 1) class8 more4 = some out := H
  refine qq <| qq <| q0 <| qc H (fun c12 H => ?_) (fun c12 H => ?_)
  · refine qk <| qb 9 <| qq <| q0 <| qq <| q0 ?_
    have o22 : Has h17 (((((0))), .sl (([] : List Int).length) 1 (eInt.l ([] : List Int))) :: (ad20, .sl rest1.length 1 (eInt.l rest1)) :: (ad22, .sl class8.length 1 (eInt.l class8)) :: L) := Has.nil o21 1
    refine qq ?_
    obtain ⟨x7, e36, H⟩ := bsi H
    obtain ⟨ad23, h18, e37, o23⟩ := ap_own (P := Tryd.prog) (E := eInt) (l := ([] : List Int)) (q := 0) (t2 := 42) (x := .rs ad22 0 class8.length 1) (l2 := class8) T42 o22 rfl (cells_own (E := eInt) (l := class8) (q := 2) o22 rfl) rfl e36
    refine qr [.a 2 e37] <| qq <| qq <| q0 <| qb 10 ?_
    obtain ⟨out5, e56, H⟩ := bsi H
    refine ql (ref01_Classes.l5_ok L l0 ad20 rest1 ad20 ad22 class8 ad22  S105_ (false, x7, (0 : Int)) _ _ ⟨ad23, h18, by kernel_rfl, o23⟩ e56) ?_
    rintro e s ⟨rfl, more6, next3, j1, rfl, g16, g17, g18, ad27, h24, rfl, o29⟩
    try dsimp only at H
    refine q0 ?_
    have o30 : Has h24 ((ad27, .sl next3.length 1 (eInt.l next3)) :: (ad20, .sl rest1.length 1 (eInt.l rest1)) :: L) := Has.del o29 2
    exact ⟨(next3, more6), ⟨ad27, h24, by kernel_rfl, (Has.front (Has.front o30 0 rfl) 1 rfl)⟩, H⟩
  · exact qx 8 <| ⟨rfl, class8, more4, oi H, eNode.fz l0, .rs ad20 0 rest1.length 1, .any, .bool more4, ad22, h17, by kernel_rfl, o21⟩
theorem ref01_Classes_body {ann : FuncId → Ann} (ha : ann 76 = ann76) (S102_ : S102 cf m) (S103_ : S103 cf m) (S104_ : S104 cf m) (S105_ : S105 cf m) (l0 : List VNode) (h : AHeap) (L : Mem)  (o : Has h (L)) {out : (List Int)} (H : ref01_Classes.f m l0 = some out) :
    ∃ r h', bodyA Tryd.prog ann cf m 76 [eNode.fz l0] h = some (r, h') ∧ Frb h' r (eInt.fz out) := by
  refine body_of_ends2 (fn := Tryd.f76) ha Tryd.func76 (by kernel_rfl) (by kernel_rfl) ?_
  refine ends_fin (Q := fun s => ref01_Classes.fin L out s) (fun _ _ h => h) ?_
  have H : _ = some out := H
  unfold ref01_Classes.f at H
  show Enz _ cf ann76 m _ ⟨eNode.fz l0 :: Ay26 [], [], h⟩ _
  refine q1 <| qq ?_
  obtain ⟨x0, e0, H⟩ := bsi H
  obtain ⟨ad0, h0, e1, o0⟩ := mk_own (P := Tryd.prog) (E := eInt) (z := (0 : Int)) (zv := .int .i64 (0 : Int)) T42 o 3 rfl rfl rfl rfl e0
  refine qr [.a 2 e1] <| qq ?_
  obtain ⟨x1, e2, H⟩ := bsi H
  obtain ⟨ad1, h1, e3, o1⟩ := mk_own (P := Tryd.prog) (E := eBool) (z := false) (zv := .bool false) T53 o0 4 rfl rfl rfl rfl e2
  refine qr [.a 2 e3] <| qq <| q0 ?_
  have o2 : Has h1 (((0), .sl (([] : List Int).length) 1 (eInt.l ([] : List Int))) :: (ad1, .sl x1.length 1 (eBool.l x1)) :: (ad0, .sl x0.length 1 (eInt.l x0)) :: L) := Has.nil o1 1
  have o3 : Has h1 ((((0)), .sl (([] : List Int).length) 1 (eInt.l ([] : List Int))) :: ((0), .sl (([] : List Int).length) 1 (eInt.l ([] : List Int))) :: (ad1, .sl x1.length 1 (eBool.l x1)) :: (ad0, .sl x0.length 1 (eInt.l x0)) :: L) := Has.nil o2 1
  refine qq <| qq <| q0 <| qb 0 ?_
  obtain ⟨out1, e18, H⟩ := bsi H
  refine ql (ref01_Classes.l0_ok L l0  S102_ S103_ (x0, x1, ([] : List Int), true) _ _ ⟨.any, .any, (0), ad1, ad0, h1, by kernel_rfl, o3⟩ e18) ?_
  rintro e s ⟨rfl, class3, done3, firsts3, more3, rfl, g4, g5, g6, g7, g8, ad12, ad13, ad14, h9, rfl, o11⟩
  try dsimp only at H
  refine qq <| qq <| q0 ?_
  have o12 : Has h9 ((((0)), .sl (([] : List Int).length) 1 (eInt.l ([] : List Int))) :: (ad13, .sl done3.length 1 (eBool.l done3)) :: (ad14, .sl class3.length 1 (eInt.l class3)) :: L) := Has.del o11 1
  refine qb 4 ?_
  obtain ⟨out3, e35, H⟩ := bsi H
  refine ql (ref01_Classes.l2_ok L l0 ad13 done3 ad13  S104_ (class3, ([] : List Int), (0 : Int)) _ _ ⟨((0)), ad14, h9, by kernel_rfl, o12⟩ e35) ?_
  rintro e s ⟨rfl, class7, rest1, i3, rfl, g11, g12, g13, ad20, ad21, h16, rfl, o19⟩
  try dsimp only at H
  refine qq <| qq <| q0 ?_
  have o20 : Has h16 ((ad20, .sl rest1.length 1 (eInt.l rest1)) :: (ad21, .sl class7.length 1 (eInt.l class7)) :: L) := Has.del o19 1
  refine qb 8 ?_
  obtain ⟨out6, e57, H⟩ := bsi H
  refine ql (ref01_Classes.l4_ok L l0 ad20 rest1 ad20  S105_ (class7, true) _ _ ⟨ad21, h16, by kernel_rfl, o20⟩ e57) ?_
  rintro e s ⟨rfl, class9, more7, rfl, g19, g20, g21, g22, ad28, h25, rfl, o31⟩
  try dsimp only at H
  refine q1 ?_
  have o32 : Has h25 ((ad28, .sl class9.length 1 (eInt.l class9)) :: L) := Has.del o31 0
  obtain rfl := oi H
  exact qt <| ⟨.inl rfl, fnb (.rs ad28 0 class9.length 1) h25 (frb (fb_rs (E := eInt) (l := class9) (q := 0) o32 rfl (fun _ => rfl)))⟩
end
end Go.Proofs.YtmekcfdllhphlaaDoor

namespace Go.Proofs.YtmekcfdllhphlaaDoor
open Go Go.R
open Go.IntKind (i64 u64 u8 u32)
def ann57 : Ann := mkA [0, 1, 4, 5, 6, 7, 8, 9, 10, 11, 12, 13, 14, 15, 16, 17, 18, 19, 20, 21, 22, 32, 45, 59, 84, 94, 120, 133, 147] [4, 10, 18, 20] [536870904, 536870898, 536870882, 536870850, 536870786, 534773634, 536870786, 536870786, 536870722, 532676418, 536870722, 536870466, 536869954, 536868930, 528480322, 536868930, 536868930, 536870466, 536870722, 536868811, 536864715, 520087499, 536864715, 536856523, 503302091, 536856523, 536856523, 536854475, 536821707, 469712843, 536821707, 536821707, 536788939, 536657867, 402440139, 536657867, 536395723, 535871435, 534822859, 266387403, 534822859, 534822859, 536395723, 536657867, 536870907] [(42, [(21, none, 0)]), (44, [(18, some 0, 0)])] [(3, [(7, none, 4)]), (12, [(11, none, 1)]), (32, [(18, some 0, 4)]), (37, [(21, none, 1)])]
def ref01_least.l0 (m : Nat) (x0 : (List Int)) : Nat → (List Int) → Int → Option ((List Int) × Int)
  | 0, _, _ => none
  | k + 1, place0, i0 => if (decide (i0 < (x0.length : Int))) = true then ((ix x0 i0).bind fun v0 => (ix place0 v0).bind fun v1 => ref01_least.l0 m x0 k (place0.set v0.toNat i0) (i64.wrap (i0 + (1 : Int)))) else (some ((place0, i0)))
def ref01_least.l2 (m : Nat) (place1 : List Int) (v3 : VNode) : Nat → (List Int) → Int → Option ((List Int) × Int)
  | 0, _, _ => none
  | k + 1, args0, k0 => if (decide (k0 < (v3.args.length : Int))) = true then ((ix v3.args k0).bind fun v4 => (ix place1 v4).bind fun v5 => (app 8 args0 ([v5])).bind fun x2 => ref01_least.l2 m place1 v3 k x2 (i64.wrap (k0 + (1 : Int)))) else (some ((args0, k0)))
def ref01_least.l1 (m : Nat) (l0 : List VNode) (x0 : (List Int)) (place1 : List Int) : Nat → (List VNode) → Int → Option ((List VNode) × Int)
  | 0, _, _ => none
  | k + 1, part0, i2 => if (decide (i2 < (x0.length : Int))) = true then ((ix x0 i2).bind fun v2 => (ix l0 v2).bind fun v3 => (ref01_least.l2 m place1 v3 m ([] : List Int) (0 : Int)).bind fun out1 => match out1 with | (args1, k1) => (app 56 part0 [VNode.mk v3.kind v3.int v3.label args1]).bind fun x3 => ref01_least.l1 m l0 x0 place1 k x3 (i64.wrap (i2 + (1 : Int)))) else (some ((part0, i2)))
def ref01_least.l4 (m : Nat) (x4 : (List Int)) (i4 : Int) : Nat → (List VNode) → Int → Option ((List VNode) × Int)
  | 0, _, _ => none
  | k + 1, part3, k2 => (ix part3 i4).bind fun v6 => if (decide (k2 < (v6.args.length : Int))) = true then ((ix part3 i4).bind fun v7 => (ix part3 i4).bind fun v8 => (ix v8.args k2).bind fun v9 => (ix x4 v9).bind fun v10 => (ix v7.args k2).bind fun v11 => ref01_least.l4 m x4 i4 k (part3.set i4.toNat (VNode.mk v7.kind v7.int v7.label (v7.args.set k2.toNat v10))) (i64.wrap (k2 + (1 : Int)))) else (some ((part3, k2)))
def ref01_least.l3 (m : Nat) (x4 : (List Int)) : Nat → (List VNode) → Int → Option ((List VNode) × Int)
  | 0, _, _ => none
  | k + 1, part2, i4 => if (decide (i4 < (part2.length : Int))) = true then ((ref01_least.l4 m x4 i4 m part2 (0 : Int)).bind fun out3 => match out3 with | (part4, k3) => ref01_least.l3 m x4 k part4 (i64.wrap (i4 + (1 : Int)))) else (some ((part2, i4)))
def ref01_least.l5 (m : Nat) (x5 : (List Int)) : Nat → (List Int) → Int → Option ((List Int) × Int)
  | 0, _, _ => none
  | k + 1, place2, i6 => if (decide (i6 < (x5.length : Int))) = true then ((ix x5 i6).bind fun v12 => (ix place2 v12).bind fun v13 => ref01_least.l5 m x5 k (place2.set v12.toNat i6) (i64.wrap (i6 + (1 : Int)))) else (some ((place2, i6)))
def ref01_least.l7 (m : Nat) (place3 : List Int) (v15 : VNode) : Nat → (List Int) → Int → Option ((List Int) × Int)
  | 0, _, _ => none
  | k + 1, args2, k4 => if (decide (k4 < (v15.args.length : Int))) = true then ((ix v15.args k4).bind fun v16 => (ix place3 v16).bind fun v17 => (app 8 args2 ([v17])).bind fun x6 => ref01_least.l7 m place3 v15 k x6 (i64.wrap (k4 + (1 : Int)))) else (some ((args2, k4)))
def ref01_least.l6 (m : Nat) (part5 : List VNode) (x5 : (List Int)) (place3 : List Int) : Nat → Int → (List VNode) → Int → Option (Int × (List VNode) × Int)
  | 0, _, _, _ => none
  | k + 1, i8, out6, out7 => if (decide (i8 < (x5.length : Int))) = true then ((ix x5 i8).bind fun v14 => (ix part5 v14).bind fun v15 => (ref01_least.l7 m place3 v15 m ([] : List Int) (0 : Int)).bind fun out8 => match out8 with | (args3, k5) => (app 56 out6 ([(VNode.mk v15.kind v15.int v15.label args3)])).bind fun x7 => ref01_least.l6 m part5 x5 place3 k (i64.wrap (i8 + (1 : Int))) x7 out7) else (some ((i8, out6, out7)))
def ref01_least.f (m : Nat) (l0 : List VNode) (root0 : Int) : Option (VTree) := (ref01_Reached.f m l0 root0).bind fun x0 => (mkl 8 (l0.length : Int) (0 : Int)).bind fun x1 => (ref01_least.l0 m x0 m x1 (0 : Int)).bind fun out0 => match out0 with | (place1, i1) => (ref01_least.l1 m l0 x0 place1 m ([] : List VNode) (0 : Int)).bind fun out2 => match out2 with | (part1, i3) => (ref01_Classes.f m part1).bind fun x4 => (ref01_least.l3 m x4 m part1 (0 : Int)).bind fun out4 => match out4 with | (part5, i5) => (ref01_Reached.f m part5 (0 : Int)).bind fun x5 => (ref01_least.l5 m x5 m place1 (0 : Int)).bind fun out5 => match out5 with | (place3, i7) => (ref01_least.l6 m part5 x5 place3 m (0 : Int) ([] : List VNode) (0 : Int)).bind fun out11 => match out11 with | (i9, out9, out10) => some (VTree.mk out9 out10)
def ref01_least.fin (L : Mem) (r : VTree) (s : St) : Prop := ∃ av, resultA Tryd.prog (s.open ann57) Tryd.f57.results.toList = some av ∧ Frz s.h av (.agg [eNode.fz r.nodes, .int .i64 r.root])
def S57 (cf : CallF) (m : Nat) : Prop := ∀ (l0 : List VNode) (root0 : Int) (r : VTree), ref01_least.f m l0 root0 = some r → ∀ h xs, PureS xs [eNode.fz l0, .int .i64 root0] → cf 57 xs h = some (.agg [eNode.fz r.nodes, .int .i64 r.root], h)
section
variable {cf : CallF} {m : Nat}
theorem ref01_least.l0_ok (L : Mem) (l0 : List VNode) (x0 : (List Int))   : LoopT Tryd.prog cf ann57 m (sub [1, 1, 1, 1, 0, 1, 0, 0] (codeOf Tryd.f57)) (fun k (σ : (List Int) × Int) => ref01_least.l0 m x0 k σ.1 σ.2) (fun σ s => match σ with | (place0, i0) => ∃ ad1 h1, s = ⟨eNode.fz l0 :: .any :: .lp 4 0 :: eInt.fz x0 :: .rs ad1 0 place0.length 1 :: .rs (0) 0 (([] : List VNode).length) 4 :: .int .i64 i0 :: Ay22 [], [some [.nils, .int .i64 (0 : Int)], none, none, none], h1⟩ ∧ Has h1 (((0), .sl (([] : List VNode).length) 4 (eNI.l (zipI ([] : List VNode) ([] : List Nat)))) :: (ad1, .sl place0.length 1 (eInt.l place0)) :: (nst ([] : List VNode) ([] : List Nat) ++ L))) (fun out e s => (e = .exit 0 ∧ ∃ place0 i0, (place0, i0) = out ∧ ∃ x8_ x32_ ad1 h1, s = ⟨eNode.fz l0 :: .any :: .lp 4 0 :: eInt.fz x0 :: .rs ad1 0 place0.length 1 :: .rs (0) 0 (([] : List VNode).length) 4 :: x8_ :: Ay14 (x32_ :: Ay7 []), [some [.nils, .int .i64 (0 : Int)], none, none, none], h1⟩ ∧ Has h1 (((0), .sl (([] : List VNode).length) 4 (eNI.l (zipI ([] : List VNode) ([] : List Nat)))) :: (ad1, .sl place0.length 1 (eInt.l place0)) :: (nst ([] : List VNode) ([] : List Nat) ++ L)))) := by
  refine lpT (fun _ => rfl) ?_
  rintro k ⟨place0, i0⟩ s out ⟨ad1, h1, rfl, o2⟩ H
  have H : ref01_least.l0 m x0 (k + 1) place0 i0 = some out := H
  refine qq <| qq <| q0 <| qc H (fun c0 H => ?_) (fun c0 H => ?_)
  · refine qk <| qq <| qb 1 ?_
    obtain ⟨v0, e3, H⟩ := bsi H
    obtain ⟨v1, e4, H⟩ := bsi H
    obtain ⟨h2, e5, o3⟩ := st_own (P := Tryd.prog) (tf := 3) (E := eInt) (l := place0) (q := 1) (v := i0) (x := .int .i64 i0) o2 rfl Z3 e4 rfl rfl
    exact qr [.v 3 (ia_fz (k := .i64) (E := eInt) (l := x0) T42 e3), .v 4 (ld_fz0  (E := eInt) (l := x0) h1 A3 e3 rfl), .v 6 (ia_ownL (k := .i64) (E := eInt) (l := place0) (q := 1) T42 o2 rfl e4), .w 7 e5] <| q0 <| ⟨(place0.set v0.toNat i0, i64.wrap (i0 + (1 : Int))), ⟨ad1, h2, (Eq.trans (b := ⟨eNode.fz l0 :: .any :: .lp 4 0 :: eInt.fz x0 :: .rs ad1 0 place0.length 1 :: .rs (0) 0 (([] : List VNode).length) 4 :: .int .i64 (i64.wrap (i0 + (1 : Int))) :: Ay22 [], [some [.nils, .int .i64 (0 : Int)], none, none, none], h2⟩) (by kernel_rfl) (by simp only [List.length_set])), (by have o : Has h2 (((0), .sl (([] : List VNode).length) 4 (eNI.l (zipI ([] : List VNode) ([] : List Nat)))) :: (ad1, .sl place0.length 1 (eInt.l (place0.set v0.toNat i0))) :: (nst ([] : List VNode) ([] : List Nat) ++ L)) := o3; simpa only [List.length_set] using o)⟩, H⟩
  · exact qx 0 <| ⟨rfl, place0, i0, oi H, .int .i64 i0, .bool (decide (i0 < (x0.length : Int))), ad1, h1, by kernel_rfl, o2⟩
theorem ref01_least.l2_ok (L : Mem) (l0 : List VNode) (x0 : (List Int)) (ad2 : Nat) (place1 : List Int) (ad2 : Nat) (ad3 : Nat) (part0 : List VNode) (i2 : Int) (ad3 : Nat) (ids0 : List Nat) (v3 : VNode)   : LoopT Tryd.prog cf ann57 m (sub [1, 1, 1, 1, 1, 0, 1, 0, 0, 1, 0, 0, 1, 1, 0, 1, 0, 0] (codeOf Tryd.f57)) (fun k (σ : (List Int) × Int) => ref01_least.l2 m place1 v3 k σ.1 σ.2) (fun σ s => match σ with | (args0, k0) => ∃ ad4 h5, s = ⟨eNode.fz l0 :: .any :: .lp 4 0 :: eInt.fz x0 :: .rs ad2 0 place1.length 1 :: .rs ad3 0 part0.length 4 :: .any :: .int .i64 i2 :: .lp 10 0 :: .rs ad4 0 args0.length 1 :: .int .i64 k0 :: Ay18 [], [some [.nils, .int .i64 (0 : Int)], some [.int .i64 v3.kind, .int .i64 v3.int, .str v3.label, eInt.fz v3.args], none, none], h5⟩ ∧ Has h5 ((ad4, .sl args0.length 1 (eInt.l args0)) :: (ad3, .sl part0.length 4 (eNI.l (zipI part0 ids0))) :: (ad2, .sl place1.length 1 (eInt.l place1)) :: (nst part0 ids0 ++ L))) (fun out e s => (e = .exit 4 ∧ ∃ args0 k0, (args0, k0) = out ∧ ∃ x12_ x59_ ad4 h5, s = ⟨eNode.fz l0 :: .any :: .lp 4 0 :: eInt.fz x0 :: .rs ad2 0 place1.length 1 :: .rs ad3 0 part0.length 4 :: .any :: .int .i64 i2 :: .lp 10 0 :: .rs ad4 0 args0.length 1 :: x12_ :: Ay12 (x59_ :: Ay5 []), [some [.nils, .int .i64 (0 : Int)], some [.int .i64 v3.kind, .int .i64 v3.int, .str v3.label, eInt.fz v3.args], none, none], h5⟩ ∧ Has h5 ((ad4, .sl args0.length 1 (eInt.l args0)) :: (ad3, .sl part0.length 4 (eNI.l (zipI part0 ids0))) :: (ad2, .sl place1.length 1 (eInt.l place1)) :: (nst part0 ids0 ++ L)))) := by
  refine lpT (fun _ => rfl) ?_
  rintro k ⟨args0, k0⟩ s out ⟨ad4, h5, rfl, o7⟩ H
  have H : ref01_least.l2 m place1 v3 (k + 1) args0 k0 = some out := H
  refine qq <| qq <| q0 <| qc H (fun c2 H => ?_) (fun c2 H => ?_)
  · refine qk <| qq <| qb 5 ?_
    obtain ⟨v4, e9, H⟩ := bsi H
    obtain ⟨v5, e10, H⟩ := bsi H
    obtain ⟨x2, e11, H⟩ := bsi H
    obtain ⟨ad5, h6, e12, o8⟩ := ap_own (P := Tryd.prog) (E := eInt) (l := args0) (q := 0) (t2 := 42) (x := .fz [.int .i64 v5] 1 true) (l2 := ([v5])) T42 o7 rfl (by kernel_rfl) rfl e11
    exact qr [.v 5 (ia_fz (k := .i64) (E := eInt) (l := v3.args) T42 e9), .v 6 (ld_fz0  (E := eInt) (l := v3.args) h5 A3 e9 rfl), .v 7 (ia_ownL (k := .i64) (E := eInt) (l := place1) (q := 2) T42 o7 rfl e10), .v 8 (ld_own0  (E := eInt) (l := place1) (q := 2) o7 rfl A3 e10 rfl), .a 10 e12] <| q0 <| ⟨(x2, i64.wrap (k0 + (1 : Int))), ⟨ad5, h6, by kernel_rfl, o8⟩, H⟩
  · exact qx 4 <| ⟨rfl, args0, k0, oi H, .int .i64 k0, .bool (decide (k0 < (v3.args.length : Int))), ad4, h5, by kernel_rfl, o7⟩
theorem ref01_least.l1_ok (L : Mem) (l0 : List VNode) (x0 : (List Int)) (ad2 : Nat) (place1 : List Int) (ad2 : Nat)   : LoopT Tryd.prog cf ann57 m (sub [1, 1, 1, 1, 1, 0, 1, 0, 0] (codeOf Tryd.f57)) (fun k (σ : (List VNode) × Int) => ref01_least.l1 m l0 x0 place1 k σ.1 σ.2) (fun σ s => match σ with | (part0, i2) => ∃ ad3 ids0 h4, s = ⟨eNode.fz l0 :: .any :: .lp 4 0 :: eInt.fz x0 :: .rs ad2 0 place1.length 1 :: .rs ad3 0 part0.length 4 :: .any :: .int .i64 i2 :: Ay21 [], [some [.nils, .int .i64 (0 : Int)], none, none, none], h4⟩ ∧ Has h4 ((ad3, .sl part0.length 4 (eNI.l (zipI part0 ids0))) :: (ad2, .sl place1.length 1 (eInt.l place1)) :: (nst part0 ids0 ++ L))) (fun out e s => (e = .exit 2 ∧ ∃ part0 i2, (part0, i2) = out ∧ ∃ x0_ x5_ x9_ x45_ ad3 ids0 h4, s = ⟨x0_ :: .any :: .lp 4 0 :: x5_ :: .rs ad2 0 place1.length 1 :: .rs ad3 0 part0.length 4 :: .any :: x9_ :: Ay14 (x45_ :: Ay6 []), [some [.nils, .int .i64 (0 : Int)], none, none, none], h4⟩ ∧ Has h4 ((ad3, .sl part0.length 4 (eNI.l (zipI part0 ids0))) :: (ad2, .sl place1.length 1 (eInt.l place1)) :: (nst part0 ids0 ++ L)))) := by
  refine lpT (fun _ => rfl) ?_
  rintro k ⟨part0, i2⟩ s out ⟨ad3, ids0, h4, rfl, o5⟩ H
  have H : ref01_least.l1 m l0 x0 place1 (k + 1) part0 i2 = some out := H
  refine qq <| qq <| q0 <| qc H (fun c1 H => ?_) (fun c1 H => ?_)
  · refine qk <| qq <| qb 3 <| qq ?_
    obtain ⟨v2, e7, H⟩ := bsi H
    obtain ⟨v3, e8, H⟩ := bsi H
    refine qr [.v 3 (ia_fz (k := .i64) (E := eInt) (l := x0) T42 e7), .v 4 (ld_fz0  (E := eInt) (l := x0) h4 A3 e7 rfl), .v 5 (ia_fz (k := .i64) (E := eNode) (l := l0) T29 e8), .v 6 (ld_fzA  (E := eNode) (l := l0) h4 A48 Z48 e8)] <| qq <| q0 ?_
    have o6 : Has h4 ((((0)), .sl (([] : List Int).length) 1 (eInt.l ([] : List Int))) :: (ad3, .sl part0.length 4 (eNI.l (zipI part0 ids0))) :: (ad2, .sl place1.length 1 (eInt.l place1)) :: (nst part0 ids0 ++ L)) := Has.nil o5 1
    refine qq <| qq <| q0 <| qb 4 ?_
    obtain ⟨out1, e13, H⟩ := bsi H
    refine ql (ref01_least.l2_ok L l0 x0 ad2 place1 ad2 ad3 part0 i2 ad3 ids0 v3   (([] : List Int), (0 : Int)) _ _ ⟨((0)), h4, by kernel_rfl, o6⟩ e13) ?_
    rintro e s ⟨rfl, args1, k1, rfl, g2, g3, ad6, h7, rfl, o9⟩
    try dsimp only at H
    refine q1 ?_
    obtain ⟨x3, e14, H⟩ := bsi H
    obtain ⟨ad7, ids1, h8, e15, o10⟩ := ap_nst (P := Tryd.prog) (t2 := 29) (pre := [(ad2, .sl place1.length 1 (eInt.l place1))]) (ns := part0) (ids := ids0) (kind := v3.kind) (int := v3.int) (label := v3.label) (args := args1) (x := .fz [.int .i64 v3.kind, .int .i64 v3.int, .str v3.label, .rs ad6 0 args1.length 1] 1 true) T29 (Has.front (Has.front (Has.front o9 2 rfl) 1 rfl) 2 rfl) (by kernel_rfl) rfl e14
    exact qr [.a 3 e15] <| q0 <| ⟨(x3, i64.wrap (i2 + (1 : Int))), ⟨ad7, ids1, h8, by kernel_rfl, o10⟩, H⟩
  · exact qx 2 <| ⟨rfl, part0, i2, oi H, eNode.fz l0, eInt.fz x0, .int .i64 i2, .bool (decide (i2 < (x0.length : Int))), ad3, ids0, h4, by kernel_rfl, o5⟩
theorem ref01_least.l4_ok (L : Mem) (ad2 : Nat) (place1 : List Int) (ad2 : Nat) (x4 : (List Int)) (i4 : Int)   : LoopT Tryd.prog cf ann57 m (sub [1, 1, 1, 1, 1, 1, 1, 0, 1, 0, 0, 1, 0, 0, 1, 0, 0] (codeOf Tryd.f57)) (fun k (σ : (List VNode) × Int) => ref01_least.l4 m x4 i4 k σ.1 σ.2) (fun σ s => match σ with | (part3, k2) => ∃ ad10 ids4 h11, s = ⟨.any :: .any :: .lp 4 0 :: .any :: .rs ad2 0 place1.length 1 :: .rs ad10 0 part3.length 4 :: Ay5 (eInt.fz x4 :: .int .i64 i4 :: .int .i64 k2 :: Ay15 []), [some [.nils, .int .i64 (0 : Int)], none, none, none], h11⟩ ∧ Has h11 ((ad10, .sl part3.length 4 (eNI.l (zipI part3 ids4))) :: (ad2, .sl place1.length 1 (eInt.l place1)) :: (nst part3 ids4 ++ L))) (fun out e s => (e = .exit 8 ∧ ∃ part3 k2, (part3, k2) = out ∧ ∃ x15_ x94_ ad10 ids4 h11, s = ⟨.any :: .any :: .lp 4 0 :: .any :: .rs ad2 0 place1.length 1 :: .rs ad10 0 part3.length 4 :: Ay5 (eInt.fz x4 :: .int .i64 i4 :: x15_ :: Ay11 (x94_ :: Ay3 [])), [some [.nils, .int .i64 (0 : Int)], none, none, none], h11⟩ ∧ Has h11 ((ad10, .sl part3.length 4 (eNI.l (zipI part3 ids4))) :: (ad2, .sl place1.length 1 (eInt.l place1)) :: (nst part3 ids4 ++ L)))) := by
  refine lpT (fun _ => rfl) ?_
  rintro k ⟨part3, k2⟩ s out ⟨ad10, ids4, h11, rfl, o13⟩ H
  have H : ref01_least.l4 m x4 i4 (k + 1) part3 k2 = some out := H
  refine qq <| qq ?_
  obtain ⟨v6, e18, H⟩ := bsi H
  refine qr [.v 3 (ia_ownL (k := .i64) (E := eNI) (l := (zipI part3 ids4)) (q := 0) T29 o13 rfl (ix_zipI e18)), .v 5 (ld_own1  (E := eNI) (l := (zipI part3 ids4)) (q := 0) (off := 3) o13 rfl A42 (ix_zipI e18) rfl)] <| qc H (fun c4 H => ?_) (fun c4 H => ?_)
  · refine qk <| qq <| qb 9 ?_
    obtain ⟨v7, e19, H⟩ := bsi H
    obtain ⟨v8, e20, H⟩ := bsi H
    obtain ⟨v9, e21, H⟩ := bsi H
    obtain ⟨v10, e22, H⟩ := bsi H
    obtain ⟨v11, e23, H⟩ := bsi H
    obtain ⟨h12, e24, o14⟩ := st_nst (P := Tryd.prog) (tf := 3) (pre := [(ad2, .sl place1.length 1 (eInt.l place1))]) (v := v10) o13 Z3 e19 e23
    refine qr [.v 2 (ia_ownL (k := .i64) (E := eNI) (l := (zipI part3 ids4)) (q := 0) T29 o13 rfl (ix_zipI e19)), .v 4 (ld_own1  (E := eNI) (l := (zipI part3 ids4)) (q := 0) (off := 3) o13 rfl A42 (ix_zipI e19) rfl), .v 9 (ia_ownL (k := .i64) (E := eNI) (l := (zipI part3 ids4)) (q := 0) T29 o13 rfl (ix_zipI e20)), .v 11 (ld_own1  (E := eNI) (l := (zipI part3 ids4)) (q := 0) (off := 3) o13 rfl A42 (ix_zipI e20) rfl), .v 13 (ia_ownL (k := .i64) (E := eInt) (l := v8.args) T42 o13 (nst_at (pre := [(ad10, .sl part3.length 4 (eNI.l (zipI part3 ids4))), (ad2, .sl place1.length 1 (eInt.l place1))]) (ids := ids4) e20) e21), .v 14 (ld_own0  (E := eInt) (l := v8.args) o13 (nst_at (pre := [(ad10, .sl part3.length 4 (eNI.l (zipI part3 ids4))), (ad2, .sl place1.length 1 (eInt.l place1))]) (ids := ids4) e20) A3 e21 rfl), .v 15 (ia_fz (k := .i64) (E := eInt) (l := x4) T42 e22), .v 16 (ld_fz0  (E := eInt) (l := x4) h11 A3 e22 rfl), .v 17 (ia_ownL (k := .i64) (E := eInt) (l := v7.args) T42 o13 (nst_at (pre := [(ad10, .sl part3.length 4 (eNI.l (zipI part3 ids4))), (ad2, .sl place1.length 1 (eInt.l place1))]) (ids := ids4) e19) e23), .w 18 e24] ?_
    exact q0 <| ⟨(part3.set i4.toNat (VNode.mk v7.kind v7.int v7.label (v7.args.set k2.toNat v10)), i64.wrap (k2 + (1 : Int))), ⟨ad10, ids4, h12, (Eq.trans (b := ⟨.any :: .any :: .lp 4 0 :: .any :: .rs ad2 0 place1.length 1 :: .rs ad10 0 part3.length 4 :: Ay5 (eInt.fz x4 :: .int .i64 i4 :: .int .i64 (i64.wrap (k2 + (1 : Int))) :: Ay15 []), [some [.nils, .int .i64 (0 : Int)], none, none, none], h12⟩) (by kernel_rfl) (by simp only [List.length_set])), (by have o : Has h12 ((ad10, .sl part3.length 4 (eNI.l (zipI (part3.set i4.toNat (VNode.mk v7.kind v7.int v7.label (v7.args.set k2.toNat v10))) ids4))) :: (ad2, .sl place1.length 1 (eInt.l place1)) :: (nst (part3.set i4.toNat (VNode.mk v7.kind v7.int v7.label (v7.args.set k2.toNat v10))) ids4 ++ L)) := o14; simpa only [List.length_set] using o)⟩, H⟩
  · exact qx 8 <| ⟨rfl, part3, k2, oi H, .int .i64 k2, .bool (decide (k2 < (v6.args.length : Int))), ad10, ids4, h11, by kernel_rfl, o13⟩
theorem ref01_least.l3_ok (L : Mem) (ad2 : Nat) (place1 : List Int) (ad2 : Nat) (x4 : (List Int))   : LoopT Tryd.prog cf ann57 m (sub [1, 1, 1, 1, 1, 1, 1, 0, 1, 0, 0] (codeOf Tryd.f57)) (fun k (σ : (List VNode) × Int) => ref01_least.l3 m x4 k σ.1 σ.2) (fun σ s => match σ with | (part2, i4) => ∃ ad9 ids3 h10, s = ⟨.any :: .any :: .lp 4 0 :: .any :: .rs ad2 0 place1.length 1 :: .rs ad9 0 part2.length 4 :: Ay5 (eInt.fz x4 :: .int .i64 i4 :: Ay16 []), [some [.nils, .int .i64 (0 : Int)], none, none, none], h10⟩ ∧ Has h10 ((ad9, .sl part2.length 4 (eNI.l (zipI part2 ids3))) :: (ad2, .sl place1.length 1 (eInt.l place1)) :: (nst part2 ids3 ++ L))) (fun out e s => (e = .exit 6 ∧ ∃ part2 i4, (part2, i4) = out ∧ ∃ x13_ x14_ x84_ ad9 ids3 h10, s = ⟨.any :: .any :: .lp 4 0 :: .any :: .rs ad2 0 place1.length 1 :: .rs ad9 0 part2.length 4 :: Ay5 (x13_ :: x14_ :: Ay11 (x84_ :: Ay4 [])), [some [.nils, .int .i64 (0 : Int)], none, none, none], h10⟩ ∧ Has h10 ((ad9, .sl part2.length 4 (eNI.l (zipI part2 ids3))) :: (ad2, .sl place1.length 1 (eInt.l place1)) :: (nst part2 ids3 ++ L)))) := by
  refine lpT (fun _ => rfl) ?_
  rintro k ⟨part2, i4⟩ s out ⟨ad9, ids3, h10, rfl, o12⟩ H
  have H : ref01_least.l3 m x4 (k + 1) part2 i4 = some out := H
  refine qq <| qq <| q0 <| qc H (fun c3 H => ?_) (fun c3 H => ?_)
  · refine qk <| qq <| qb 7 <| qq <| q0 <| qb 8 ?_
    obtain ⟨out3, e25, H⟩ := bsi H
    refine ql (ref01_least.l4_ok L ad2 place1 ad2 x4 i4   (part2, (0 : Int)) _ _ ⟨ad9, ids3, h10, by kernel_rfl, o12⟩ e25) ?_
    rintro e s ⟨rfl, part4, k3, rfl, g8, g9, ad11, ids5, h13, rfl, o15⟩
    try dsimp only at H
    exact q0 <| ⟨(part4, i64.wrap (i4 + (1 : Int))), ⟨ad11, ids5, h13, by kernel_rfl, o15⟩, H⟩
  · exact qx 6 <| ⟨rfl, part2, i4, oi H, eInt.fz x4, .int .i64 i4, .bool (decide (i4 < (part2.length : Int))), ad9, ids3, h10, by kernel_rfl, o12⟩
theorem ref01_least.l5_ok (L : Mem) (ad12 : Nat) (part5 : List VNode) (ad12 : Nat) (ids6 : List Nat) (x5 : (List Int))   : LoopT Tryd.prog cf ann57 m (sub [1, 1, 1, 1, 1, 1, 1, 1, 1, 0, 1, 0, 0] (codeOf Tryd.f57)) (fun k (σ : (List Int) × Int) => ref01_least.l5 m x5 k σ.1 σ.2) (fun σ s => match σ with | (place2, i6) => ∃ ad13 h15, s = ⟨.any :: .any :: .lp 4 0 :: .any :: .rs ad13 0 place2.length 1 :: .rs ad12 0 part5.length 4 :: Ay8 (eInt.fz x5 :: .int .i64 i6 :: Ay13 []), [some [.nils, .int .i64 (0 : Int)], none, none, none], h15⟩ ∧ Has h15 ((ad12, .sl part5.length 4 (eNI.l (zipI part5 ids6))) :: (ad13, .sl place2.length 1 (eInt.l place2)) :: (nst part5 ids6 ++ L))) (fun out e s => (e = .exit 10 ∧ ∃ place2 i6, (place2, i6) = out ∧ ∃ x17_ x120_ ad13 h15, s = ⟨.any :: .any :: .lp 4 0 :: .any :: .rs ad13 0 place2.length 1 :: .rs ad12 0 part5.length 4 :: Ay8 (eInt.fz x5 :: x17_ :: Ay10 [x120_, .any, .any]), [some [.nils, .int .i64 (0 : Int)], none, none, none], h15⟩ ∧ Has h15 ((ad12, .sl part5.length 4 (eNI.l (zipI part5 ids6))) :: (ad13, .sl place2.length 1 (eInt.l place2)) :: (nst part5 ids6 ++ L)))) := by
  refine lpT (fun _ => rfl) ?_
  rintro k ⟨place2, i6⟩ s out ⟨ad13, h15, rfl, o17⟩ H
  have H : ref01_least.l5 m x5 (k + 1) place2 i6 = some out := H
  refine qq <| qq <| q0 <| qc H (fun c5 H => ?_) (fun c5 H => ?_)
  · refine qk <| qq <| qb 11 ?_
    obtain ⟨v12, e28, H⟩ := bsi H
    obtain ⟨v13, e29, H⟩ := bsi H
    obtain ⟨h16, e30, o18⟩ := st_own (P := Tryd.prog) (tf := 3) (E := eInt) (l := place2) (q := 1) (v := i6) (x := .int .i64 i6) o17 rfl Z3 e29 rfl rfl
    exact qr [.v 3 (ia_fz (k := .i64) (E := eInt) (l := x5) T42 e28), .v 4 (ld_fz0  (E := eInt) (l := x5) h15 A3 e28 rfl), .v 6 (ia_ownL (k := .i64) (E := eInt) (l := place2) (q := 1) T42 o17 rfl e29), .w 7 e30] <| q0 <| ⟨(place2.set v12.toNat i6, i64.wrap (i6 + (1 : Int))), ⟨ad13, h16, (Eq.trans (b := ⟨.any :: .any :: .lp 4 0 :: .any :: .rs ad13 0 place2.length 1 :: .rs ad12 0 part5.length 4 :: Ay8 (eInt.fz x5 :: .int .i64 (i64.wrap (i6 + (1 : Int))) :: Ay13 []), [some [.nils, .int .i64 (0 : Int)], none, none, none], h16⟩) (by kernel_rfl) (by simp only [List.length_set])), (by have o : Has h16 ((ad12, .sl part5.length 4 (eNI.l (zipI part5 ids6))) :: (ad13, .sl place2.length 1 (eInt.l (place2.set v12.toNat i6))) :: (nst part5 ids6 ++ L)) := o18; simpa only [List.length_set] using o)⟩, H⟩
  · exact qx 10 <| ⟨rfl, place2, i6, oi H, .int .i64 i6, .bool (decide (i6 < (x5.length : Int))), ad13, h15, by kernel_rfl, o17⟩
theorem ref01_least.l7_ok (L : Mem) (ad12 : Nat) (part5 : List VNode) (ad12 : Nat) (ids6 : List Nat) (x5 : (List Int)) (ad14 : Nat) (place3 : List Int) (ad14 : Nat) (ad15 : Nat) (i8 : Int) (out6 : List VNode) (out7 : Int) (ad15 : Nat) (v14 : Int) (v15 : VNode) (e33 : ix part5 v14 = some v15)   : LoopT Tryd.prog cf ann57 m (sub [1, 1, 1, 1, 1, 1, 1, 1, 1, 1, 1, 0, 1, 0, 0, 1, 0, 0, 1, 1, 0, 1, 0, 0] (codeOf Tryd.f57)) (fun k (σ : (List Int) × Int) => ref01_least.l7 m place3 v15 k σ.1 σ.2) (fun σ s => match σ with | (args2, k4) => ∃ ad16 h19, s = ⟨.any :: .any :: .lp 4 0 :: .any :: .rs ad14 0 place3.length 1 :: .rs ad12 0 part5.length 4 :: Ay8 (eInt.fz x5 :: .any :: .lp 18 0 :: .int .i64 i8 :: .lp 20 0 :: .rs ad16 0 args2.length 1 :: .int .i64 k4 :: Ay8 []), [some [.nils, .int .i64 (0 : Int)], none, some [.rs ad15 0 out6.length 4, .int .i64 out7], some [.int .i64 v15.kind, .int .i64 v15.int, .str v15.label, .rs (idA ids6 v14) 0 v15.args.length 1]], h19⟩ ∧ Has h19 ((ad16, .sl args2.length 1 (eInt.l args2)) :: (ad15, .sl out6.length 4 (eNode.l out6)) :: (ad12, .sl part5.length 4 (eNI.l (zipI part5 ids6))) :: (ad14, .sl place3.length 1 (eInt.l place3)) :: (nst part5 ids6 ++ L))) (fun out e s => (e = .exit 14 ∧ ∃ args2 k4, (args2, k4) = out ∧ ∃ x22_ x147_ ad16 h19, s = ⟨.any :: .any :: .lp 4 0 :: .any :: .rs ad14 0 place3.length 1 :: .rs ad12 0 part5.length 4 :: Ay8 (eInt.fz x5 :: .any :: .lp 18 0 :: .int .i64 i8 :: .lp 20 0 :: .rs ad16 0 args2.length 1 :: x22_ :: Ay7 [x147_]), [some [.nils, .int .i64 (0 : Int)], none, some [.rs ad15 0 out6.length 4, .int .i64 out7], some [.int .i64 v15.kind, .int .i64 v15.int, .str v15.label, .rs (idA ids6 v14) 0 v15.args.length 1]], h19⟩ ∧ Has h19 ((ad16, .sl args2.length 1 (eInt.l args2)) :: (ad15, .sl out6.length 4 (eNode.l out6)) :: (ad12, .sl part5.length 4 (eNI.l (zipI part5 ids6))) :: (ad14, .sl place3.length 1 (eInt.l place3)) :: (nst part5 ids6 ++ L)))) := by
  refine lpT (fun _ => rfl) ?_
  rintro k ⟨args2, k4⟩ s out ⟨ad16, h19, rfl, o23⟩ H
  have H : ref01_least.l7 m place3 v15 (k + 1) args2 k4 = some out := H
  refine qq <| qq <| q0 <| qc H (fun c7 H => ?_) (fun c7 H => ?_)
  · refine qk <| qq <| qb 15 ?_
    obtain ⟨v16, e34, H⟩ := bsi H
    obtain ⟨v17, e35, H⟩ := bsi H
    obtain ⟨x6, e36, H⟩ := bsi H
    obtain ⟨ad17, h20, e37, o24⟩ := ap_own (P := Tryd.prog) (E := eInt) (l := args2) (q := 0) (t2 := 42) (x := .fz [.int .i64 v17] 1 true) (l2 := ([v17])) T42 o23 rfl (by kernel_rfl) rfl e36
    exact qr [.v 5 (ia_ownL (k := .i64) (E := eInt) (l := v15.args) T42 o23 (nst_at (pre := [(ad16, .sl args2.length 1 (eInt.l args2)), (ad15, .sl out6.length 4 (eNode.l out6)), (ad12, .sl part5.length 4 (eNI.l (zipI part5 ids6))), (ad14, .sl place3.length 1 (eInt.l place3))]) (ids := ids6) e33) e34), .v 6 (ld_own0  (E := eInt) (l := v15.args) o23 (nst_at (pre := [(ad16, .sl args2.length 1 (eInt.l args2)), (ad15, .sl out6.length 4 (eNode.l out6)), (ad12, .sl part5.length 4 (eNI.l (zipI part5 ids6))), (ad14, .sl place3.length 1 (eInt.l place3))]) (ids := ids6) e33) A3 e34 rfl), .v 7 (ia_ownL (k := .i64) (E := eInt) (l := place3) (q := 3) T42 o23 rfl e35), .v 8 (ld_own0  (E := eInt) (l := place3) (q := 3) o23 rfl A3 e35 rfl), .a 10 e37] <| q0 <| ⟨(x6, i64.wrap (k4 + (1 : Int))), ⟨ad17, h20, by kernel_rfl, o24⟩, H⟩
  · exact qx 14 <| ⟨rfl, args2, k4, oi H, .int .i64 k4, .bool (decide (k4 < (v15.args.length : Int))), ad16, h19, by kernel_rfl, o23⟩
theorem ref01_least.l6_ok (L : Mem) (ad12 : Nat) (part5 : List VNode) (ad12 : Nat) (ids6 : List Nat) (x5 : (List Int)) (ad14 : Nat) (place3 : List Int) (ad14 : Nat)   : LoopT Tryd.prog cf ann57 m (sub [1, 1, 1, 1, 1, 1, 1, 1, 1, 1, 1, 0, 1, 0, 0] (codeOf Tryd.f57)) (fun k (σ : Int × (List VNode) × Int) => ref01_least.l6 m part5 x5 place3 k σ.1 σ.2.1 σ.2.2) (fun σ s => match σ with | (i8, out6, out7) => ∃ ad15 h18, s = ⟨.any :: .any :: .lp 4 0 :: .any :: .rs ad14 0 place3.length 1 :: .rs ad12 0 part5.length 4 :: Ay8 (eInt.fz x5 :: .any :: .lp 18 0 :: .int .i64 i8 :: Ay11 []), [some [.nils, .int .i64 (0 : Int)], none, some [.rs ad15 0 out6.length 4, .int .i64 out7], none], h18⟩ ∧ Has h18 ((ad15, .sl out6.length 4 (eNode.l out6)) :: (ad12, .sl part5.length 4 (eNI.l (zipI part5 ids6))) :: (ad14, .sl place3.length 1 (eInt.l place3)) :: (nst part5 ids6 ++ L))) (fun out e s => (e = .exit 12 ∧ ∃ i8 out6 out7, (i8, out6, out7) = out ∧ ∃ x6_ x7_ x16_ x19_ x133_ ad15 h18, s = ⟨.any :: .any :: .lp 4 0 :: .any :: x6_ :: x7_ :: Ay8 (x16_ :: .any :: .lp 18 0 :: x19_ :: Ay9 [x133_, .any]), [some [.nils, .int .i64 (0 : Int)], none, some [.rs ad15 0 out6.length 4, .int .i64 out7], none], h18⟩ ∧ Has h18 ((ad15, .sl out6.length 4 (eNode.l out6)) :: (ad12, .sl part5.length 4 (eNI.l (zipI part5 ids6))) :: (ad14, .sl place3.length 1 (eInt.l place3)) :: (nst part5 ids6 ++ L)))) := by
  refine lpT (fun _ => rfl) ?_
  rintro k ⟨i8, out6, out7⟩ s out ⟨ad15, h18, rfl, o21⟩ H
  have H : ref01_least.l6 m part5 x5 place3 (k + 1) i8 out6 out7 = some out := H
  refine qq <| qq <| q0 <| qc H (fun c6 H => ?_) (fun c6 H => ?_)
  · refine qk <| qq <| qb 13 <| qq ?_
    obtain ⟨v14, e32, H⟩ := bsi H
    obtain ⟨v15, e33, H⟩ := bsi H
    refine qr [.v 3 (ia_fz (k := .i64) (E := eInt) (l := x5) T42 e32), .v 4 (ld_fz0  (E := eInt) (l := x5) h18 A3 e32 rfl), .v 5 (ia_ownL (k := .i64) (E := eNI) (l := (zipI part5 ids6)) (q := 1) T29 o21 rfl (ix_zipI e33)), .v 6 (ld_ownA  (E := eNI) (l := (zipI part5 ids6)) (q := 1) o21 rfl A48 Z48 (ix_zipI e33))] <| qq <| q0 ?_
    have o22 : Has h18 ((((((0)))), .sl (([] : List Int).length) 1 (eInt.l ([] : List Int))) :: (ad15, .sl out6.length 4 (eNode.l out6)) :: (ad12, .sl part5.length 4 (eNI.l (zipI part5 ids6))) :: (ad14, .sl place3.length 1 (eInt.l place3)) :: (nst part5 ids6 ++ L)) := Has.nil o21 1
    refine qq <| qq <| q0 <| qb 14 ?_
    obtain ⟨out8, e38, H⟩ := bsi H
    refine ql (ref01_least.l7_ok L ad12 part5 ad12 ids6 x5 ad14 place3 ad14 ad15 i8 out6 out7 ad15 v14 v15 e33   (([] : List Int), (0 : Int)) _ _ ⟨((((0)))), h18, by kernel_rfl, o22⟩ e38) ?_
    rintro e s ⟨rfl, args3, k5, rfl, g15, g16, ad18, h21, rfl, o25⟩
    try dsimp only at H
    refine qq ?_
    obtain ⟨h22, e39, o26⟩ := fr_own (E := eInt) (l := args3) (q := 0) o25 rfl
    refine qrf [.a 0 e39] [] ?_
    obtain ⟨x7, e40, H⟩ := bsi H
    obtain ⟨ad19, h23, e41, o27⟩ := ap_own (P := Tryd.prog) (E := eNode) (l := out6) (q := 0) (t2 := 29) (x := .fz [.int .i64 v15.kind, .int .i64 v15.int, .str v15.label, eInt.fz args3] 1 true) (l2 := ([(VNode.mk v15.kind v15.int v15.label args3)])) T29 o26 rfl (by kernel_rfl) rfl e40
    exact qr [.a 4 e41] <| q0 <| ⟨(i64.wrap (i8 + (1 : Int)), x7, out7), ⟨ad19, h23, by kernel_rfl, o27⟩, H⟩
  · exact qx 12 <| ⟨rfl, i8, out6, out7, oi H, .rs ad14 0 place3.length 1, .rs ad12 0 part5.length 4, eInt.fz x5, .int .i64 i8, .bool (decide (i8 < (x5.length : Int))), ad15, h18, by kernel_rfl, o21⟩
theorem ref01_least_body {ann : FuncId → Ann} (ha : ann 57 = ann57) (S75_ : S75 cf m) (S76_ : S76 cf m) (l0 : List VNode) (root0 : Int) (h : AHeap) (L : Mem)  (o : Has h (L)) {out : VTree} (H : ref01_least.f m l0 root0 = some out) :
    ∃ r h', bodyA Tryd.prog ann cf m 57 [eNode.fz l0, .int .i64 root0] h = some (r, h') ∧ Frz h' r (.agg [eNode.fz out.nodes, .int .i64 out.root]) := by
  refine body_of_ends2 (fn := Tryd.f57) ha Tryd.func57 (by kernel_rfl) (by kernel_rfl) ?_
  refine ends_fin (Q := fun s => ref01_least.fin L out s) (fun _ _ h => h) ?_
  have H : _ = some out := H
  unfold ref01_least.f at H
  show Enz _ cf ann57 m _ ⟨eNode.fz l0 :: .int .i64 root0 :: Ay27 [], [none, none, none, none], h⟩ _
  refine q1 <| qq ?_
  obtain ⟨x0, e0, H⟩ := bsi H
  refine qr [.a 2 (S75_ _ _ _ e0 h _ (frs (fr_cons (fr_fz (E := eNode)) (fr_cons (fr_int) (fr_nil)))))] <| qq ?_
  obtain ⟨x1, e1, H⟩ := bsi H
  obtain ⟨ad0, h0, e2, o0⟩ := mk_own (P := Tryd.prog) (E := eInt) (z := (0 : Int)) (zv := .int .i64 (0 : Int)) T42 o 3 rfl rfl rfl rfl e1
  refine qr [.a 2 e2] <| qq <| q0 ?_
  have o1 : Has h0 (((0), .sl (([] : List VNode).length) 4 (eNI.l (zipI ([] : List VNode) ([] : List Nat)))) :: (ad0, .sl x1.length 1 (eInt.l x1)) :: (nst ([] : List VNode) ([] : List Nat) ++ L)) := Has.nil o0 4
  refine qq <| qq <| q0 <| qb 0 ?_
  obtain ⟨out0, e6, H⟩ := bsi H
  refine ql (ref01_least.l0_ok L l0 x0   (x1, (0 : Int)) _ _ ⟨ad0, h0, by kernel_rfl, o1⟩ e6) ?_
  rintro e s ⟨rfl, place1, i1, rfl, g0, g1, ad2, h3, rfl, o4⟩
  try dsimp only at H
  refine qq <| qq <| q0 <| qb 2 ?_
  obtain ⟨out2, e16, H⟩ := bsi H
  refine ql (ref01_least.l1_ok L l0 x0 ad2 place1 ad2   (([] : List VNode), (0 : Int)) _ _ ⟨(0), ([] : List Nat), h3, by kernel_rfl, o4⟩ e16) ?_
  rintro e s ⟨rfl, part1, i3, rfl, g4, g5, g6, g7, ad8, ids2, h9, rfl, o11⟩
  try dsimp only at H
  refine qq ?_
  obtain ⟨x4, e17, H⟩ := bsi H
  refine qr [.a 1 (S76_ _ _ e17 h9 _ (frs (fr_cons (fr_nst (pre := [(ad8, .sl part1.length 4 (eNI.l (zipI part1 ids2))), (ad2, .sl place1.length 1 (eInt.l place1))]) (ns := part1) (ids := ids2) (q := 0) o11 rfl) (fr_nil))))] <| qq <| qq <| q0 <| qb 6 ?_
  obtain ⟨out4, e26, H⟩ := bsi H
  refine ql (ref01_least.l3_ok L ad2 place1 ad2 x4   (part1, (0 : Int)) _ _ ⟨ad8, ids2, h9, by kernel_rfl, o11⟩ e26) ?_
  rintro e s ⟨rfl, part5, i5, rfl, g10, g11, g12, ad12, ids6, h14, rfl, o16⟩
  try dsimp only at H
  refine qq ?_
  obtain ⟨x5, e27, H⟩ := bsi H
  refine qr [.a 1 (S75_ _ _ _ e27 h14 _ (frs (fr_cons (fr_nst (pre := [(ad12, .sl part5.length 4 (eNI.l (zipI part5 ids6))), (ad2, .sl place1.length 1 (eInt.l place1))]) (ns := part5) (ids := ids6) (q := 0) o16 rfl) (fr_cons (fr_int) (fr_nil)))))] <| qq <| qq <| q0 <| qb 10 ?_
  obtain ⟨out5, e31, H⟩ := bsi H
  refine ql (ref01_least.l5_ok L ad12 part5 ad12 ids6 x5   (place1, (0 : Int)) _ _ ⟨ad2, h14, by kernel_rfl, o16⟩ e31) ?_
  rintro e s ⟨rfl, place3, i7, rfl, g13, g14, ad14, h17, rfl, o19⟩
  try dsimp only at H
  refine q1 ?_
  have o20 : Has h17 (((((0))), .sl (([] : List VNode).length) 4 (eNode.l ([] : List VNode))) :: (ad12, .sl part5.length 4 (eNI.l (zipI part5 ids6))) :: (ad14, .sl place3.length 1 (eInt.l place3)) :: (nst part5 ids6 ++ L)) := Has.nil o19 4
  refine qq <| qq <| q0 <| qb 12 ?_
  obtain ⟨out11, e42, H⟩ := bsi H
  refine ql (ref01_least.l6_ok L ad12 part5 ad12 ids6 x5 ad14 place3 ad14   ((0 : Int), ([] : List VNode), (0 : Int)) _ _ ⟨(((0))), h17, by kernel_rfl, o20⟩ e42) ?_
  rintro e s ⟨rfl, i9, out9, out10, rfl, g17, g18, g19, g20, g21, ad20, h24, rfl, o28⟩
  try dsimp only at H
  refine qq ?_
  obtain ⟨h25, e43, o29⟩ := fr_own (E := eNode) (l := out9) (q := 0) o28 rfl
  refine qrf [.a 0 e43] [] ?_
  have o30 : Has h25 ((ad12, .sl part5.length 4 (eNI.l (zipI part5 ids6))) :: (nst part5 ids6 ++ L)) := Has.del o29 1
  have o31 : Has h25 (L) := Has.gone (pre := []) (Has.del o30 0)
  obtain rfl := oi H
  exact qt <| ⟨.inl rfl, fnz (.agg [eNode.fz out9, .int .i64 out10]) h25 (frz (fr_agg (fr_cons (fr_fz) (fr_cons (fr_int) (fr_nil)))))⟩
end
end Go.Proofs.YtmekcfdllhphlaaDoor

