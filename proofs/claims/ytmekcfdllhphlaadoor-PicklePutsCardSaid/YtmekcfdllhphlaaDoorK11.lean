/- Part of the proof: Q37, Q38, Q39, Q58, Q40, Q15, PU1, PU2, PB3, PB1, PB2, PB4. -/
import Derived.Test.YtmekcfdllhphlaaDoorK10
set_option linter.unusedVariables false
set_option linter.unusedSimpArgs false
set_option maxRecDepth 100000
namespace Go.Proofs.YtmekcfdllhphlaaDoor
open Go Go.R
open Go.IntKind (i64 u64 u8 u32)
def ann37 : Ann := mkA [0, 1, 2, 3, 6] [1, 2] [25, 9, 19, 19] [] []
def ref01_Least.f (m : Nat) (t0 : VTree) : Option (VTree × Int) := (ref01_Valid.f m t0).bind fun x0 => if (!x0) = true then (some ((VTree.mk ([]) (0 : Int)), (2 : Int))) else ((ref01_least.f m t0.nodes t0.root).bind fun x1 => some (x1, (0 : Int)))
def ref01_Least.fin (L : Mem) (r : VTree × Int) (s : St) : Prop := ∃ av, resultA Tryd.prog (s.open ann37) Tryd.f37.results.toList = some av ∧ Frz s.h av (.tup [.agg [eNode.fz r.1.nodes, .int .i64 r.1.root], .int .i64 r.2])
def S37 (cf : CallF) (m : Nat) : Prop := ∀ (t0 : VTree) (r : VTree × Int), ref01_Least.f m t0 = some r → ∀ h xs, PureS xs [.agg [eNode.fz t0.nodes, .int .i64 t0.root]] → cf 37 xs h = some (.tup [.agg [eNode.fz r.1.nodes, .int .i64 r.1.root], .int .i64 r.2], h)
section
variable {cf : CallF} {m : Nat}
theorem ref01_Least_body {ann : FuncId → Ann} (ha : ann 37 = ann37) (S25_ : S25 cf m) (S57_ : S57 cf m) (t0 : VTree) (h : AHeap) (L : Mem)  (o : Has h (L)) {out : VTree × Int} (H : ref01_Least.f m t0 = some out) :
    ∃ r h', bodyA Tryd.prog ann cf m 37 [.agg [eNode.fz t0.nodes, .int .i64 t0.root]] h = some (r, h') ∧ Frz h' r (.tup [.agg [eNode.fz out.1.nodes, .int .i64 out.1.root], .int .i64 out.2]) := by
  refine body_of_ends2 (fn := Tryd.f37) ha Tryd.func37 (by kernel_rfl) (by kernel_rfl) ?_
  refine ends_fin (Q := fun s => ref01_Least.fin L out s) (fun _ _ h => h) ?_
  have H : _ = some out := H
  unfold ref01_Least.f at H
  show Enz _ cf ann37 m _ ⟨.agg [eNode.fz t0.nodes, .int .i64 t0.root] :: Ay4 [], [none, none], h⟩ _
  refine q1 <| qq <| qq ?_
  obtain ⟨x0, e0, H⟩ := bsi H
  refine qr [.a 1 (S25_ _ _ e0 h _ (frs (fr_cons (fr_agg (fr_cons (fr_fz (E := eNode)) (fr_cons (fr_int) (fr_nil)))) (fr_nil))))] <| qc H (fun c0 H => ?_) (fun c0 H => ?_)
  · obtain rfl := oi H
    exact q1 <| qt <| ⟨.inl rfl, fnz (.tup [.agg [.nils, .int .i64 (0 : Int)], .int .i64 (2 : Int)]) h (frz (fr_tup (fr_cons (fr_agg (fr_cons (fr_nils) (fr_cons (fr_int) (fr_nil)))) (fr_cons (fr_int) (fr_nil)))))⟩
  · refine qk <| qq ?_
    obtain ⟨x1, e1, H⟩ := bsi H
    obtain rfl := oi H
    exact qr [.a 4 (S57_ _ _ _ e1 h _ (pu_cons (pu_fz (E := eNode)) (pu_cons (pu_int) (pu_nil))))] <| qt <| ⟨.inl rfl, fnz (.tup [.agg [eNode.fz x1.nodes, .int .i64 x1.root], .int .i64 (0 : Int)]) h (frz (fr_tup (fr_cons (fr_agg (fr_cons (fr_fz) (fr_cons (fr_int) (fr_nil)))) (fr_cons (fr_int) (fr_nil)))))⟩
end
end Go.Proofs.YtmekcfdllhphlaaDoor

namespace Go.Proofs.YtmekcfdllhphlaaDoor
open Go Go.R
open Go.IntKind (i64 u64 u8 u32)
def ann38 : Ann := mkA [0, 2, 3, 5] [] [14, 10, 2, 10, 10, 13] [] [(1, [(3, none, 1)])]
def ref20_number.l0 (m : Nat)  : Nat → Int → (List Int) → Option (Int × (List Int))
  | 0, _, _ => none
  | k + 1, n1, out0 => if (decide (n1 ≥ (128 : Int))) = true then ((app 1 out0 ([u8.wrap (u64.wrap (Int.tmod n1 (128 : Int) + (128 : Int)))])).bind fun x0 => ref20_number.l0 m k (u64.wrap (Int.tdiv n1 (128 : Int))) x0) else (some ((n1, out0)))
def ref20_number.f (m : Nat) (n0 : Int) : Option ((List Int)) := (ref20_number.l0 m m n0 ([] : List Int)).bind fun out2 => match out2 with | (n2, out1) => (app 1 out1 ([u8.wrap n2])).bind fun x1 => some x1
def ref20_number.fin (L : Mem) (n0 : Int) (r : (List Int)) (s : St) : Prop := ∃ ir0 : Nat, resultA Tryd.prog (s.open ann38) Tryd.f38.results.toList = some (.rs ir0 0 r.length 1) ∧ Has s.h ((ir0, .sl r.length 1 (eByte.l r)) :: L)
def S38 (cf : CallF) (m : Nat) : Prop := ∀ (n0 : Int) (r : (List Int)), ref20_number.f m n0 = some r → ∀ h L, Has h (L) → ∀ xs, xs.map canonArg = [.int .u64 n0] → ∃ ir0 h', cf 38 xs h = some (.rs ir0 0 r.length 1, h') ∧ Has h' ((ir0, .sl r.length 1 (eByte.l r)) :: L)
section
variable {cf : CallF} {m : Nat}
theorem ref20_number.l0_ok (L : Mem) (n0 : Int)   : LoopT Tryd.prog cf ann38 m (sub [1, 1, 0, 0, 0] (codeOf Tryd.f38)) (fun k (σ : Int × (List Int)) => ref20_number.l0 m k σ.1 σ.2) (fun σ s => match σ with | (n1, out0) => ∃ ad0 h0, s = ⟨[.int .u64 n1, .any, .rs ad0 0 out0.length 1, .any], [], h0⟩ ∧ Has h0 ((ad0, .sl out0.length 1 (eByte.l out0)) :: L)) (fun out e s => (e = .exit 0 ∧ ∃ n1 out0, (n1, out0) = out ∧ ∃ x5_ ad0 h0, s = ⟨[.int .u64 n1, .any, .rs ad0 0 out0.length 1, x5_], [], h0⟩ ∧ Has h0 ((ad0, .sl out0.length 1 (eByte.l out0)) :: L))) := by
  refine lpT (fun _ => rfl) ?_
  rintro k ⟨n1, out0⟩ s out ⟨ad0, h0, rfl, o1⟩ H
  have H : ref20_number.l0 m (k + 1) n1 out0 = some out := H
  refine qq <| qq <| q0 <| qc H (fun c0 H => ?_) (fun c0 H => ?_)
  · refine qk <| qb 1 <| qq ?_
    obtain ⟨x0, e0, H⟩ := bsi H
    obtain ⟨ad1, h1, e1, o2⟩ := ap_own (P := Tryd.prog) (E := eByte) (l := out0) (q := 0) (t2 := 25) (x := .fz [.int .u8 (u8.wrap (u64.wrap (Int.tmod n1 (128 : Int) + (128 : Int))))] 1 true) (l2 := ([u8.wrap (u64.wrap (Int.tmod n1 (128 : Int) + (128 : Int)))])) T25 o1 rfl (by kernel_rfl) rfl e0
    exact qr [.a 6 e1] <| q0 <| ⟨(u64.wrap (Int.tdiv n1 (128 : Int)), x0), ⟨ad1, h1, by kernel_rfl, o2⟩, H⟩
  · exact qx 0 <| ⟨rfl, n1, out0, oi H, .bool (decide (n1 ≥ (128 : Int))), ad0, h0, by kernel_rfl, o1⟩
theorem ref20_number_body {ann : FuncId → Ann} (ha : ann 38 = ann38)  (n0 : Int) (h : AHeap) (L : Mem)  (o : Has h (L)) {out : (List Int)} (H : ref20_number.f m n0 = some out) :
    ∃ r h', bodyA Tryd.prog ann cf m 38 [.int .u64 n0] h = some (r, h') ∧ ∃ ir0 : Nat, r = .rs ir0 0 out.length 1 ∧ Has h' ((ir0, .sl out.length 1 (eByte.l out)) :: L) := by
  refine body_of_ends2 (fn := Tryd.f38) ha Tryd.func38 (by kernel_rfl) (by kernel_rfl) ?_
  refine ends_fin (Q := fun s => ref20_number.fin L n0 out s) (fun _ _ ⟨h1, ir0, h2, h3⟩ => ⟨h1, _, h2, ir0, rfl, h3⟩) ?_
  have H : _ = some out := H
  unfold ref20_number.f at H
  show Enz _ cf ann38 m _ ⟨.int .u64 n0 :: Ay3 [], [], h⟩ _
  refine q1 <| qq <| q0 ?_
  have o0 : Has h (((0), .sl (([] : List Int).length) 1 (eByte.l ([] : List Int))) :: L) := Has.nil o 1
  refine qq <| qb 0 ?_
  obtain ⟨out2, e2, H⟩ := bsi H
  refine ql (ref20_number.l0_ok L n0   (n0, ([] : List Int)) _ _ ⟨(0), h, by kernel_rfl, o0⟩ e2) ?_
  rintro e s ⟨rfl, n2, out1, rfl, g0, ad2, h2, rfl, o3⟩
  try dsimp only at H
  refine qq ?_
  obtain ⟨x1, e3, H⟩ := bsi H
  obtain ⟨ad3, h3, e4, o4⟩ := ap_own (P := Tryd.prog) (E := eByte) (l := out1) (q := 0) (t2 := 25) (x := .fz [.int .u8 (u8.wrap n2)] 1 true) (l2 := ([u8.wrap n2])) T25 o3 rfl (by kernel_rfl) rfl e3
  obtain rfl := oi H
  exact qr [.a 4 e4] <| qt <| ⟨.inl rfl, ⟨ad3, by kernel_rfl, he o4⟩⟩
end
end Go.Proofs.YtmekcfdllhphlaaDoor

namespace Go.Proofs.YtmekcfdllhphlaaDoor
open Go Go.R
open Go.IntKind (i64 u64 u8 u32)
def ann39 : Ann := mkA [0, 1, 2, 3, 8, 17] [1] [61, 53, 37, 53, 21, 59, 59] [] []
def ref20_named.l0 (m : Nat) (t0 : VTree) : Nat → Int → Option (Sum Bool (Int))
  | 0, _ => none
  | k + 1, i0 => if (decide (i0 < (t0.nodes.length : Int))) = true then ((ix t0.nodes i0).bind fun v0 => if (v0.kind == (4 : Int)) = true then (some (.inl true)) else (ref20_named.l0 m t0 k (i64.wrap (i0 + (1 : Int))))) else (some (.inr i0))
def ref20_named.f (m : Nat) (t0 : VTree) : Option (Bool) := (ref20_named.l0 m t0 m (0 : Int)).bind fun out0 => match out0 with | .inl r0 => some r0 | .inr i1 => some false
def ref20_named.fin (L : Mem) (r : Bool) (s : St) : Prop := ∃ av, resultA Tryd.prog (s.open ann39) Tryd.f39.results.toList = some av ∧ Frb s.h av (.bool r)
def S39 (cf : CallF) (m : Nat) : Prop := ∀ (t0 : VTree) (r : Bool), ref20_named.f m t0 = some r → ∀ h xs, FrzS bigK h xs [.agg [eNode.fz t0.nodes, .int .i64 t0.root]] → cf 39 xs h = some (.bool r, h)
section
variable {cf : CallF} {m : Nat}
theorem ref20_named.l0_ok (L : Mem) (t0 : VTree)   : LoopT Tryd.prog cf ann39 m (sub [1, 0, 1, 0, 0] (codeOf Tryd.f39)) (fun k (σ : Int) => ref20_named.l0 m t0 k σ) (fun σ s => match σ with | i0 => ∃ h0, s = ⟨[.any, .lp 1 0, .any, .int .i64 i0, .any, .any], [some [eNode.fz t0.nodes, .int .i64 t0.root]], h0⟩ ∧ Has h0 (L)) (fun out e s => (e = .exit 0 ∧ ∃ i0, .inr i0 = out ∧ ∃ x1_ x3_ x8_ b1_ h0, s = ⟨[.any, x1_, .any, x3_, x8_, .any], [b1_], h0⟩ ∧ Has h0 (L)) ∨ (e = .ret ∧ ∃ r, .inl r = out ∧ ref20_named.fin L r s)) := by
  refine lpT (fun _ => rfl) ?_
  rintro k i0 s out ⟨h0, rfl, o0⟩ H
  have H : ref20_named.l0 m t0 (k + 1) i0 = some out := H
  refine qq <| qq <| q0 <| qc H (fun c0 H => ?_) (fun c0 H => ?_)
  · refine qk <| qq <| qb 1 <| qq ?_
    obtain ⟨v0, e0, H⟩ := bsi H
    refine qr [.v 3 (ia_fz (k := .i64) (E := eNode) (l := t0.nodes) T29 e0), .v 5 (ld_fz1  (E := eNode) (l := t0.nodes) (off := 0) h0 A3 e0 rfl)] <| qc H (fun c1 H => ?_) (fun c1 H => ?_)
    · exact q1 <| qt <| Or.inr (⟨rfl, _, oi H, fnb (.bool true) h0 (frb (fb_bool))⟩)
    · exact qk <| q0 <| ⟨i64.wrap (i0 + (1 : Int)), ⟨h0, by kernel_rfl, o0⟩, H⟩
  · exact qx 0 <| Or.inl (⟨rfl, i0, oi H, .lp 1 0, .int .i64 i0, .bool (decide (i0 < (t0.nodes.length : Int))), some [eNode.fz t0.nodes, .int .i64 t0.root], h0, by kernel_rfl, o0⟩)
theorem ref20_named_body {ann : FuncId → Ann} (ha : ann 39 = ann39)  (t0 : VTree) (h : AHeap) (L : Mem)  (o : Has h (L)) {out : Bool} (H : ref20_named.f m t0 = some out) :
    ∃ r h', bodyA Tryd.prog ann cf m 39 [.agg [eNode.fz t0.nodes, .int .i64 t0.root]] h = some (r, h') ∧ Frb h' r (.bool out) := by
  refine body_of_ends2 (fn := Tryd.f39) ha Tryd.func39 (by kernel_rfl) (by kernel_rfl) ?_
  refine ends_fin (Q := fun s => ref20_named.fin L out s) (fun _ _ h => h) ?_
  have H : _ = some out := H
  unfold ref20_named.f at H
  show Enz _ cf ann39 m _ ⟨.agg [eNode.fz t0.nodes, .int .i64 t0.root] :: Ay5 [], [none], h⟩ _
  refine q1 <| qq <| qq <| q0 <| qb 0 ?_
  obtain ⟨out0, e1, H⟩ := bsi H
  refine ql (ref20_named.l0_ok L t0   (0 : Int) _ _ ⟨h, by kernel_rfl, o⟩ e1) ?_
  rintro e s (⟨rfl, i1, rfl, g0, g1, g2, g3, h1, rfl, o1⟩ | ⟨rfl, r0, rfl, hf0⟩)
  · try dsimp only at H
    obtain rfl := oi H
    exact q1 <| qt <| ⟨.inl rfl, fnb (.bool false) h1 (frb (fb_bool))⟩
  · try dsimp only at H
    obtain rfl := oi H
    exact ⟨.inl rfl, hf0⟩
end
end Go.Proofs.YtmekcfdllhphlaaDoor

namespace Go.Proofs.YtmekcfdllhphlaaDoor
open Go Go.R
open Go.IntKind (i64 u64 u8 u32)
def ann58 : Ann := mkA [0, 2] [] [2, 1] [] []
def ref20_text.f (m : Nat) (s0 : ByteArray) : Option ((List Int)) := (ref20_number.f m (u64.wrap (s0.size : Int))).bind fun x0 => (app 1 x0 (strBytes s0)).bind fun x1 => some x1
def ref20_text.fin (L : Mem) (s0 : ByteArray) (r : (List Int)) (s : St) : Prop := ∃ ir0 : Nat, resultA Tryd.prog (s.open ann58) Tryd.f58.results.toList = some (.rs ir0 0 r.length 1) ∧ Has s.h ((ir0, .sl r.length 1 (eByte.l r)) :: L)
def S58 (cf : CallF) (m : Nat) : Prop := ∀ (s0 : ByteArray) (r : (List Int)), ref20_text.f m s0 = some r → ∀ h L, Has h (L) → ∀ xs, xs.map canonArg = [.str s0] → ∃ ir0 h', cf 58 xs h = some (.rs ir0 0 r.length 1, h') ∧ Has h' ((ir0, .sl r.length 1 (eByte.l r)) :: L)
section
variable {cf : CallF} {m : Nat}
theorem ref20_text_body {ann : FuncId → Ann} (ha : ann 58 = ann58) (S38_ : S38 cf m) (s0 : ByteArray) (h : AHeap) (L : Mem)  (o : Has h (L)) {out : (List Int)} (H : ref20_text.f m s0 = some out) :
    ∃ r h', bodyA Tryd.prog ann cf m 58 [.str s0] h = some (r, h') ∧ ∃ ir0 : Nat, r = .rs ir0 0 out.length 1 ∧ Has h' ((ir0, .sl out.length 1 (eByte.l out)) :: L) := by
  refine body_of_ends2 (fn := Tryd.f58) ha Tryd.func58 (by kernel_rfl) (by kernel_rfl) ?_
  refine ends_fin (Q := fun s => ref20_text.fin L s0 out s) (fun _ _ ⟨h1, ir0, h2, h3⟩ => ⟨h1, _, h2, ir0, rfl, h3⟩) ?_
  have H : _ = some out := H
  unfold ref20_text.f at H
  show Enz _ cf ann58 m _ ⟨[.str s0, .any], [], h⟩ _
  refine q1 <| qq ?_
  obtain ⟨x0, e0, H⟩ := bsi H
  obtain ⟨ad0, h0, e1, o0⟩ := S38_ _ _ e0 h _  (o)  [.int .u64 (u64.wrap (s0.size : Int))] (can_cons (can_pure (pu_int)) (can_nil))
  obtain ⟨x1, e2, H⟩ := bsi H
  obtain ⟨ad1, h1, e3, o1⟩ := ap_own (P := Tryd.prog) (E := eByte) (l := x0) (q := 0) (t2 := 25) (x := eByte.fz (strBytes s0)) (l2 := (strBytes s0)) T25 o0 rfl (cells_fz (E := eByte) (l2 := (strBytes s0)) _) rfl e2
  obtain rfl := oi H
  exact qr [.a 3 e1, .v 5 (show convertA Tryd.prog h0 9 25 (.str s0) = some (eByte.fz (strBytes s0)) from cv_bytes (e := 5) rfl rfl rfl), .a 6 e3] <| qt <| ⟨.inl rfl, ⟨ad1, by kernel_rfl, he o1⟩⟩
end
end Go.Proofs.YtmekcfdllhphlaaDoor

namespace Go.Proofs.YtmekcfdllhphlaaDoor
open Go Go.R
open Go.IntKind (i64 u64 u8 u32)
def ann40 : Ann := mkA [0, 1, 2, 3, 4, 10, 11, 19, 23, 39, 46, 64] [1, 8] [4093, 4085, 4053, 3989, 4087, 3925, 3829, 4087, 4087, 3541, 4087, 3061, 4085, 4085, 4069, 2021, 4069, 4069, 4091] [] []
def ref20_node.l0 (m : Nat) (x0 : VNode) : Nat → (List Int) → Int → Option ((List Int) × Int)
  | 0, _, _ => none
  | k + 1, out0, i0 => if (decide (i0 < (x0.args.length : Int))) = true then ((ix x0.args i0).bind fun v0 => (ref20_number.f m (u64.wrap v0)).bind fun x13 => (app 1 out0 x13).bind fun x14 => ref20_node.l0 m x0 k x14 (i64.wrap (i0 + (1 : Int)))) else (some ((out0, i0)))
def ref20_node.f (m : Nat) (x0 : VNode) : Option ((List Int)) := if (x0.kind == (0 : Int)) = true then ((ref20_number.f m (u64.wrap x0.int)).bind fun x1 => (app 1 ([u8.wrap x0.kind]) x1).bind fun x2 => some x2) else (if (x0.kind == (1 : Int)) = true then (if (decide (x0.int < (0 : Int))) = true then ((ref20_number.f m (u64.wrap (i64.wrap (i64.wrap ((-2 : Int) * x0.int) - (1 : Int))))).bind fun x3 => (app 1 ([u8.wrap x0.kind]) x3).bind fun x4 => some x4) else ((ref20_number.f m (u64.wrap (i64.wrap ((2 : Int) * x0.int)))).bind fun x5 => (app 1 ([u8.wrap x0.kind]) x5).bind fun x6 => some x6)) else (if (x0.kind == (2 : Int)) = true then ((ref20_text.f m x0.label).bind fun x7 => (app 1 ([u8.wrap x0.kind]) x7).bind fun x8 => some x8) else (if (x0.kind == (3 : Int)) = true then ((ref20_text.f m x0.label).bind fun x9 => (app 1 ([u8.wrap x0.kind]) x9).bind fun x10 => (ref20_number.f m (u64.wrap (x0.args.length : Int))).bind fun x11 => (app 1 x10 x11).bind fun x12 => (ref20_node.l0 m x0 m x12 (0 : Int)).bind fun out2 => match out2 with | (out1, i1) => some out1) else (some ([u8.wrap x0.kind])))))
def ref20_node.fin (L : Mem) (x0 : VNode) (r : (List Int)) (s : St) : Prop := ∃ ir0 : Nat, resultA Tryd.prog (s.open ann40) Tryd.f40.results.toList = some (.rs ir0 0 r.length 1) ∧ Has s.h ((ir0, .sl r.length 1 (eByte.l r)) :: L)
def S40 (cf : CallF) (m : Nat) : Prop := ∀ (x0 : VNode) (r : (List Int)), ref20_node.f m x0 = some r → ∀ h L, Has h (L) → ∀ xs, xs.map canonArg = [.agg [.int .i64 x0.kind, .int .i64 x0.int, .str x0.label, eInt.fz x0.args]] → ∃ ir0 h', cf 40 xs h = some (.rs ir0 0 r.length 1, h') ∧ Has h' ((ir0, .sl r.length 1 (eByte.l r)) :: L)
section
variable {cf : CallF} {m : Nat}
theorem ref20_node.l0_ok (L : Mem) (x0 : VNode)  (S38_ : S38 cf m) : LoopT Tryd.prog cf ann40 m (sub [1, 1, 0, 1, 0, 1, 1, 1, 1, 1, 1, 1, 0, 1, 1, 1, 0, 0] (codeOf Tryd.f40)) (fun k (σ : (List Int) × Int) => ref20_node.l0 m x0 k σ.1 σ.2) (fun σ s => match σ with | (out0, i0) => ∃ ad13 h13, s = ⟨.any :: .lp 1 0 :: .any :: .rs ad13 0 out0.length 1 :: .int .i64 i0 :: Ay7 [], [some [.int .i64 x0.kind, .int .i64 x0.int, .str x0.label, eInt.fz x0.args], none], h13⟩ ∧ Has h13 ((ad13, .sl out0.length 1 (eByte.l out0)) :: L)) (fun out e s => (e = .exit 1 ∧ ∃ out0 i0, (out0, i0) = out ∧ ∃ x1_ x4_ x64_ b1_ ad13 h13, s = ⟨.any :: x1_ :: .any :: .rs ad13 0 out0.length 1 :: x4_ :: Ay6 [x64_], [b1_, none], h13⟩ ∧ Has h13 ((ad13, .sl out0.length 1 (eByte.l out0)) :: L))) := by
  refine lpT (fun _ => rfl) ?_
  rintro k ⟨out0, i0⟩ s out ⟨ad13, h13, rfl, o19⟩ H
  have H : ref20_node.l0 m x0 (k + 1) out0 i0 = some out := H
  refine qq <| qq <| q0 <| qc H (fun c5 H => ?_) (fun c5 H => ?_)
  · refine qk <| qq <| qb 2 ?_
    obtain ⟨v0, e25, H⟩ := bsi H
    obtain ⟨x13, e26, H⟩ := bsi H
    obtain ⟨ad14, h14, e27, o20⟩ := S38_ _ _ e26 h13 _  (o19)  [.int .u64 (u64.wrap v0)] (can_cons (can_pure (pu_int)) (can_nil))
    obtain ⟨x14, e28, H⟩ := bsi H
    obtain ⟨ad15, h15, e29, o21⟩ := ap_own (P := Tryd.prog) (E := eByte) (l := out0) (q := 1) (t2 := 25) (x := .rs ad14 0 x13.length 1) (l2 := x13) T25 o20 rfl (cells_own (E := eByte) (l := x13) (q := 0) o20 rfl) rfl e28
    refine qr [.v 4 (ia_fz (k := .i64) (E := eInt) (l := x0.args) T42 e25), .v 5 (ld_fz0  (E := eInt) (l := x0.args) h13 A3 e25 rfl), .a 7 e27, .a 8 e29] ?_
    have o22 : Has h15 ((ad15, .sl x14.length 1 (eByte.l x14)) :: L) := Has.del o21 0
    exact q0 <| ⟨(x14, i64.wrap (i0 + (1 : Int))), ⟨ad15, h15, by kernel_rfl, o22⟩, H⟩
  · exact qx 1 <| ⟨rfl, out0, i0, oi H, .lp 1 0, .int .i64 i0, .bool (decide (i0 < (x0.args.length : Int))), some [.int .i64 x0.kind, .int .i64 x0.int, .str x0.label, eInt.fz x0.args], ad13, h13, by kernel_rfl, o19⟩
theorem ref20_node_body {ann : FuncId → Ann} (ha : ann 40 = ann40) (S38_ : S38 cf m) (S58_ : S58 cf m) (x0 : VNode) (h : AHeap) (L : Mem)  (o : Has h (L)) {out : (List Int)} (H : ref20_node.f m x0 = some out) :
    ∃ r h', bodyA Tryd.prog ann cf m 40 [.agg [.int .i64 x0.kind, .int .i64 x0.int, .str x0.label, eInt.fz x0.args]] h = some (r, h') ∧ ∃ ir0 : Nat, r = .rs ir0 0 out.length 1 ∧ Has h' ((ir0, .sl out.length 1 (eByte.l out)) :: L) := by
  refine body_of_ends2 (fn := Tryd.f40) ha Tryd.func40 (by kernel_rfl) (by kernel_rfl) ?_
  refine ends_fin (Q := fun s => ref20_node.fin L x0 out s) (fun _ _ ⟨h1, ir0, h2, h3⟩ => ⟨h1, _, h2, ir0, rfl, h3⟩) ?_
  have H : _ = some out := H
  unfold ref20_node.f at H
  show Enz _ cf ann40 m _ ⟨.agg [.int .i64 x0.kind, .int .i64 x0.int, .str x0.label, eInt.fz x0.args] :: Ay11 [], [none, none], h⟩ _
  refine q1 <| qq ?_
  obtain ⟨ad0, h0, e0, o0⟩ := lit_new (E := eByte) (l := [u8.wrap x0.kind]) (cs := [.int .u8 (u8.wrap x0.kind)]) o (by kernel_rfl)
  refine qr [.a 3 e0] <| qq <| qq <| q0 <| qb 0 <| qq <| q0 <| qc H (fun c0 H => ?_) (fun c0 H => ?_)
  · obtain ⟨x1, e1, H⟩ := bsi H
    obtain ⟨ad1, h1, e2, o1⟩ := S38_ _ _ e1 h0 _  (o0)  [.int .u64 (u64.wrap x0.int)] (can_cons (can_pure (pu_int)) (can_nil))
    obtain ⟨x2, e3, H⟩ := bsi H
    obtain ⟨ad2, h2, e4, o2⟩ := ap_own (P := Tryd.prog) (E := eByte) (l := ([u8.wrap x0.kind])) (q := 1) (t2 := 25) (x := .rs ad1 0 x1.length 1) (l2 := x1) T25 o1 rfl (cells_own (E := eByte) (l := x1) (q := 0) o1 rfl) rfl e3
    refine qr [.a 4 e2, .a 5 e4] ?_
    have o3 : Has h2 ((ad2, .sl x2.length 1 (eByte.l x2)) :: L) := Has.del o2 0
    obtain rfl := oi H
    exact q1 <| qt <| ⟨.inl rfl, ⟨ad2, by kernel_rfl, he o3⟩⟩
  · refine q1 <| qc H (fun c1 H => ?_) (fun c1 H => ?_)
    · refine q1 <| qc H (fun c2 H => ?_) (fun c2 H => ?_)
      · obtain ⟨x3, e5, H⟩ := bsi H
        obtain ⟨ad3, h3, e6, o4⟩ := S38_ _ _ e5 h0 _  (o0)  [.int .u64 (u64.wrap (i64.wrap (i64.wrap ((-2 : Int) * x0.int) - (1 : Int))))] (can_cons (can_pure (pu_int)) (can_nil))
        obtain ⟨x4, e7, H⟩ := bsi H
        obtain ⟨ad4, h4, e8, o5⟩ := ap_own (P := Tryd.prog) (E := eByte) (l := ([u8.wrap x0.kind])) (q := 1) (t2 := 25) (x := .rs ad3 0 x3.length 1) (l2 := x3) T25 o4 rfl (cells_own (E := eByte) (l := x3) (q := 0) o4 rfl) rfl e7
        refine qr [.a 6 e6, .a 7 e8] ?_
        have o6 : Has h4 ((ad4, .sl x4.length 1 (eByte.l x4)) :: L) := Has.del o5 0
        obtain rfl := oi H
        exact q1 <| qt <| ⟨.inl rfl, ⟨ad4, by kernel_rfl, he o6⟩⟩
      · obtain ⟨x5, e9, H⟩ := bsi H
        obtain ⟨ad5, h5, e10, o7⟩ := S38_ _ _ e9 h0 _  (o0)  [.int .u64 (u64.wrap (i64.wrap ((2 : Int) * x0.int)))] (can_cons (can_pure (pu_int)) (can_nil))
        obtain ⟨x6, e11, H⟩ := bsi H
        obtain ⟨ad6, h6, e12, o8⟩ := ap_own (P := Tryd.prog) (E := eByte) (l := ([u8.wrap x0.kind])) (q := 1) (t2 := 25) (x := .rs ad5 0 x5.length 1) (l2 := x5) T25 o7 rfl (cells_own (E := eByte) (l := x5) (q := 0) o7 rfl) rfl e11
        refine qr [.a 5 e10, .a 6 e12] ?_
        have o9 : Has h6 ((ad6, .sl x6.length 1 (eByte.l x6)) :: L) := Has.del o8 0
        obtain rfl := oi H
        exact q1 <| qt <| ⟨.inl rfl, ⟨ad6, by kernel_rfl, he o9⟩⟩
    · refine q1 <| qc H (fun c3 H => ?_) (fun c3 H => ?_)
      · obtain ⟨x7, e13, H⟩ := bsi H
        obtain ⟨ad7, h7, e14, o10⟩ := S58_ _ _ e13 h0 _  (o0)  [.str x0.label] (can_cons (can_pure (pu_str)) (can_nil))
        obtain ⟨x8, e15, H⟩ := bsi H
        obtain ⟨ad8, h8, e16, o11⟩ := ap_own (P := Tryd.prog) (E := eByte) (l := ([u8.wrap x0.kind])) (q := 1) (t2 := 25) (x := .rs ad7 0 x7.length 1) (l2 := x7) T25 o10 rfl (cells_own (E := eByte) (l := x7) (q := 0) o10 rfl) rfl e15
        refine qr [.a 3 e14, .a 4 e16] ?_
        have o12 : Has h8 ((ad8, .sl x8.length 1 (eByte.l x8)) :: L) := Has.del o11 0
        obtain rfl := oi H
        exact q1 <| qt <| ⟨.inl rfl, ⟨ad8, by kernel_rfl, he o12⟩⟩
      · refine q1 <| qc H (fun c4 H => ?_) (fun c4 H => ?_)
        · refine qq ?_
          obtain ⟨x9, e17, H⟩ := bsi H
          obtain ⟨ad9, h9, e18, o13⟩ := S58_ _ _ e17 h0 _  (o0)  [.str x0.label] (can_cons (can_pure (pu_str)) (can_nil))
          obtain ⟨x10, e19, H⟩ := bsi H
          obtain ⟨ad10, h10, e20, o14⟩ := ap_own (P := Tryd.prog) (E := eByte) (l := ([u8.wrap x0.kind])) (q := 1) (t2 := 25) (x := .rs ad9 0 x9.length 1) (l2 := x9) T25 o13 rfl (cells_own (E := eByte) (l := x9) (q := 0) o13 rfl) rfl e19
          refine qr [.a 3 e18, .a 4 e20] ?_
          have o15 : Has h10 ((ad10, .sl x10.length 1 (eByte.l x10)) :: L) := Has.del o14 0
          refine qq ?_
          obtain ⟨x11, e21, H⟩ := bsi H
          obtain ⟨ad11, h11, e22, o16⟩ := S38_ _ _ e21 h10 _  (o15)  [.int .u64 (u64.wrap (x0.args.length : Int))] (can_cons (can_pure (pu_int)) (can_nil))
          obtain ⟨x12, e23, H⟩ := bsi H
          obtain ⟨ad12, h12, e24, o17⟩ := ap_own (P := Tryd.prog) (E := eByte) (l := x10) (q := 1) (t2 := 25) (x := .rs ad11 0 x11.length 1) (l2 := x11) T25 o16 rfl (cells_own (E := eByte) (l := x11) (q := 0) o16 rfl) rfl e23
          refine qr [.a 5 e22, .a 6 e24] ?_
          have o18 : Has h12 ((ad12, .sl x12.length 1 (eByte.l x12)) :: L) := Has.del o17 0
          refine q1 <| qb 1 ?_
          obtain ⟨out2, e30, H⟩ := bsi H
          refine ql (ref20_node.l0_ok L x0  S38_ (x12, (0 : Int)) _ _ ⟨ad12, h12, by kernel_rfl, o18⟩ e30) ?_
          rintro e s ⟨rfl, out1, i1, rfl, g0, g1, g2, g3, ad16, h16, rfl, o23⟩
          try dsimp only at H
          obtain rfl := oi H
          exact q1 <| qt <| ⟨.inl rfl, ⟨ad16, by kernel_rfl, he o23⟩⟩
        · obtain rfl := oi H
          exact qk <| qq <| q0 <| qt <| ⟨.inl rfl, ⟨ad0, by kernel_rfl, he o0⟩⟩
end
end Go.Proofs.YtmekcfdllhphlaaDoor

namespace Go.Proofs.YtmekcfdllhphlaaDoor
open Go Go.R
open Go.IntKind (i64 u64 u8 u32)
def ann15 : Ann := mkA [0, 2, 3, 4, 5, 6, 7, 8, 9, 10, 11, 12, 15, 19, 31, 46, 53, 71, 88, 101] [6, 36] [1048574, 1044478, 1048569, 1048566, 1048550, 1040358, 1048550, 1048454, 1032134, 1048569, 1048550, 1048439, 1048439, 1048183, 1015415, 1048183, 982647, 1048569, 1048183, 1047671, 916599, 1047671, 1047671, 1047423, 1045375, 783231, 1045375, 1045375, 1045375, 524159, 1048569, 1048569] [] [(3, [(4, none, 2)])]
def ref20_Put.l0 (m : Nat) (list0 : List VTree) : Nat → (List VTree) → Int → Option (Sum ((List Int) × Int) ((List VTree) × Int))
  | 0, _, _ => none
  | k + 1, least0, i0 => if (decide (i0 < (list0.length : Int))) = true then ((ix list0 i0).bind fun v0 => (ref01_Least.f m v0).bind fun x0 => if (!(x0.2 == (0 : Int))) = true then (some (.inl ([], (2 : Int)))) else ((app 32 least0 ([x0.1])).bind fun x1 => ref20_Put.l0 m list0 k x1 (i64.wrap (i0 + (1 : Int))))) else (some (.inr (least0, i0)))
def ref20_Put.l2 (m : Nat) (least1 : List VTree) (i2 : Int) : Nat → (List Int) → Int → Option ((List Int) × Int)
  | 0, _, _ => none
  | k + 1, out2, k0 => (ix least1 i2).bind fun v3 => if (decide (k0 < (v3.nodes.length : Int))) = true then ((ix least1 i2).bind fun v4 => (ix v4.nodes k0).bind fun v5 => (ref20_node.f m v5).bind fun x7 => (app 1 out2 x7).bind fun x8 => ref20_Put.l2 m least1 i2 k x8 (i64.wrap (k0 + (1 : Int)))) else (some ((out2, k0)))
def ref20_Put.l1 (m : Nat) (least1 : List VTree) : Nat → (List Int) → Int → Option (Sum ((List Int) × Int) ((List Int) × Int))
  | 0, _, _ => none
  | k + 1, out1, i2 => if (decide (i2 < (least1.length : Int))) = true then ((ix least1 i2).bind fun v1 => (ref20_named.f m v1).bind fun x4 => if x4 = true then (some (.inl ([], (4 : Int)))) else ((ix least1 i2).bind fun v2 => (ref20_number.f m (u64.wrap (v2.nodes.length : Int))).bind fun x5 => (app 1 out1 x5).bind fun x6 => (ref20_Put.l2 m least1 i2 m x6 (0 : Int)).bind fun out4 => match out4 with | (out3, k1) => ref20_Put.l1 m least1 k out3 (i64.wrap (i2 + (1 : Int))))) else (some (.inr (out1, i2)))
def ref20_Put.l3 (m : Nat)  : Nat → (List Int) → Int → Int → Option ((List Int) × Int × Int)
  | 0, _, _, _ => none
  | k + 1, out7, c6, i4 => if (decide (i4 < (4 : Int))) = true then ((app 1 out7 ([u8.wrap (Int.tmod c6 (256 : Int))])).bind fun x10 => ref20_Put.l3 m k x10 (i64.wrap (Int.tdiv c6 (256 : Int))) (i64.wrap (i4 + (1 : Int)))) else (some ((out7, c6, i4)))
def ref20_Put.f (m : Nat) (list0 : List VTree) : Option ((List Int) × Int) := if (decide ((list0.length : Int) > (8 : Int))) = true then (some ([], (3 : Int))) else ((ref20_Put.l0 m list0 m ([] : List VTree) (0 : Int)).bind fun out0 => match out0 with | .inl r1 => some r1 | .inr (least1, i1) => (ref20_number.f m (u64.wrap (least1.length : Int))).bind fun x2 => (app 1 ([(76 : Int), (1 : Int)]) x2).bind fun x3 => (ref20_Put.l1 m least1 m x3 (0 : Int)).bind fun out6 => match out6 with | .inl r0 => some r0 | .inr (out5, i3) => (ref20_Sum.f m out5).bind fun x9 => (ref20_Put.l3 m m out5 x9 (0 : Int)).bind fun out9 => match out9 with | (out8, c8, i5) => if (decide ((out8.length : Int) > (200000 : Int))) = true then (some ([], (3 : Int))) else (some (out8, (0 : Int))))
def ref20_Put.fin (L : Mem) (r : (List Int) × Int) (s : St) : Prop := ∃ av, resultA Tryd.prog (s.open ann15) Tryd.f15.results.toList = some av ∧ Frb s.h av (.tup [eByte.fz r.1, .int .i64 r.2])
def S15 (cf : CallF) (m : Nat) : Prop := ∀ (list0 : List VTree) (r : (List Int) × Int), ref20_Put.f m list0 = some r → ∀ h xs, FrzS bigK h xs [eTree.fz list0] → cf 15 xs h = some (.tup [eByte.fz r.1, .int .i64 r.2], h)
section
variable {cf : CallF} {m : Nat}
theorem ref20_Put.l0_ok (L : Mem) (list0 : List VTree)  (S37_ : S37 cf m) : LoopT Tryd.prog cf ann15 m (sub [1, 1, 1, 0, 1, 0, 0] (codeOf Tryd.f15)) (fun k (σ : (List VTree) × Int) => ref20_Put.l0 m list0 k σ.1 σ.2) (fun σ s => match σ with | (least0, i0) => ∃ ad0 h0, s = ⟨eTree.fz list0 :: .any :: .any :: .rs ad0 0 least0.length 2 :: .int .i64 i0 :: Ay15 [], [none, none], h0⟩ ∧ Has h0 ((ad0, .sl least0.length 2 (eTree.l least0)) :: L)) (fun out e s => (e = .exit 0 ∧ ∃ least0 i0, .inr (least0, i0) = out ∧ ∃ x0_ x5_ x19_ ad0 h0, s = ⟨x0_ :: .any :: .any :: .rs ad0 0 least0.length 2 :: x5_ :: Ay8 (x19_ :: Ay6 []), [none, none], h0⟩ ∧ Has h0 ((ad0, .sl least0.length 2 (eTree.l least0)) :: L)) ∨ (e = .ret ∧ ∃ r, .inl r = out ∧ ref20_Put.fin L r s)) := by
  refine lpT (fun _ => rfl) ?_
  rintro k ⟨least0, i0⟩ s out ⟨ad0, h0, rfl, o1⟩ H
  have H : ref20_Put.l0 m list0 (k + 1) least0 i0 = some out := H
  refine qq <| qq <| q0 <| qc H (fun c1 H => ?_) (fun c1 H => ?_)
  · refine qk <| qq <| qb 1 <| qq ?_
    obtain ⟨v0, e0, H⟩ := bsi H
    obtain ⟨x0, e1, H⟩ := bsi H
    refine qr [.v 2 (ia_fz (k := .i64) (E := eTree) (l := list0) T22 e0), .v 3 (ld_fzA  (E := eTree) (l := list0) h0 A31 Z31 e0), .a 4 (S37_ _ _ e1 h0 _ (pu_cons (pu_agg (pu_cons (pu_fz (E := eNode)) (pu_cons (pu_int) (pu_nil)))) (pu_nil)))] <| qq <| qq <| q0 <| qc H (fun c2 H => ?_) (fun c2 H => ?_)
    · refine q1 ?_
      have o2 : Has h0 (L) := Has.del o1 0
      exact qt <| Or.inr (⟨rfl, _, oi H, fnb (.tup [.nils, .int .i64 (2 : Int)]) h0 (frb (fb_tup (fb_cons (fb_nils) (fb_cons (fb_int) (fb_nil)))))⟩)
    · refine qk ?_
      obtain ⟨x1, e2, H⟩ := bsi H
      obtain ⟨ad1, h1, e3, o3⟩ := ap_own (P := Tryd.prog) (E := eTree) (l := least0) (q := 0) (t2 := 22) (x := .fz [eNode.fz x0.1.nodes, .int .i64 x0.1.root] 1 true) (l2 := ([x0.1])) T22 o1 rfl (by kernel_rfl) rfl e2
      exact qr [.a 3 e3] <| q0 <| ⟨(x1, i64.wrap (i0 + (1 : Int))), ⟨ad1, h1, by kernel_rfl, o3⟩, H⟩
  · exact qx 0 <| Or.inl (⟨rfl, least0, i0, oi H, eTree.fz list0, .int .i64 i0, .bool (decide (i0 < (list0.length : Int))), ad0, h0, by kernel_rfl, o1⟩)
theorem ref20_Put.l2_ok (L : Mem) (ad2 : Nat) (least1 : List VTree) (ad2 : Nat) (i2 : Int)  (S40_ : S40 cf m) : LoopT Tryd.prog cf ann15 m (sub [1, 1, 1, 1, 1, 1, 0, 1, 0, 0, 1, 0, 0, 1, 1, 1, 0, 0] (codeOf Tryd.f15)) (fun k (σ : (List Int) × Int) => ref20_Put.l2 m least1 i2 k σ.1 σ.2) (fun σ s => match σ with | (out2, k0) => ∃ ad9 h9, s = ⟨Ay3 (.rs ad2 0 least1.length 2 :: Ay3 (.rs ad9 0 out2.length 1 :: .int .i64 i2 :: .int .i64 k0 :: Ay10 [])), [none, none], h9⟩ ∧ Has h9 ((ad9, .sl out2.length 1 (eByte.l out2)) :: (ad2, .sl least1.length 2 (eTree.l least1)) :: L)) (fun out e s => (e = .exit 4 ∧ ∃ out2 k0, (out2, k0) = out ∧ ∃ x10_ x71_ ad9 h9, s = ⟨Ay3 (.rs ad2 0 least1.length 2 :: Ay3 (.rs ad9 0 out2.length 1 :: .int .i64 i2 :: x10_ :: Ay7 [x71_, .any, .any])), [none, none], h9⟩ ∧ Has h9 ((ad9, .sl out2.length 1 (eByte.l out2)) :: (ad2, .sl least1.length 2 (eTree.l least1)) :: L))) := by
  refine lpT (fun _ => rfl) ?_
  rintro k ⟨out2, k0⟩ s out ⟨ad9, h9, rfl, o15⟩ H
  have H : ref20_Put.l2 m least1 i2 (k + 1) out2 k0 = some out := H
  refine qq <| qq ?_
  obtain ⟨v3, e17, H⟩ := bsi H
  refine qr [.v 3 (ia_ownL (k := .i64) (E := eTree) (l := least1) (q := 1) T22 o15 rfl e17), .v 5 (ld_own1  (E := eTree) (l := least1) (q := 1) (off := 0) o15 rfl A29 e17 rfl)] <| qc H (fun c5 H => ?_) (fun c5 H => ?_)
  · refine qk <| qq <| qb 5 ?_
    obtain ⟨v4, e18, H⟩ := bsi H
    obtain ⟨v5, e19, H⟩ := bsi H
    obtain ⟨x7, e20, H⟩ := bsi H
    obtain ⟨ad10, h10, e21, o16⟩ := S40_ _ _ e20 h9 _  (o15)  [.agg [.int .i64 v5.kind, .int .i64 v5.int, .str v5.label, eInt.fz v5.args]] (can_cons (can_pure (pu_agg (pu_cons (pu_int) (pu_cons (pu_int) (pu_cons (pu_str) (pu_cons (pu_fz (E := eInt)) (pu_nil))))))) (can_nil))
    obtain ⟨x8, e22, H⟩ := bsi H
    obtain ⟨ad11, h11, e23, o17⟩ := ap_own (P := Tryd.prog) (E := eByte) (l := out2) (q := 1) (t2 := 25) (x := .rs ad10 0 x7.length 1) (l2 := x7) T25 o16 rfl (cells_own (E := eByte) (l := x7) (q := 0) o16 rfl) rfl e22
    refine qr [.v 3 (ia_ownL (k := .i64) (E := eTree) (l := least1) (q := 1) T22 o15 rfl e18), .v 5 (ld_own1  (E := eTree) (l := least1) (q := 1) (off := 0) o15 rfl A29 e18 rfl), .v 7 (ia_fz (k := .i64) (E := eNode) (l := v4.nodes) T29 e19), .v 8 (ld_fzA  (E := eNode) (l := v4.nodes) h9 A48 Z48 e19), .a 9 e21, .a 10 e23] ?_
    have o18 : Has h11 ((ad11, .sl x8.length 1 (eByte.l x8)) :: (ad2, .sl least1.length 2 (eTree.l least1)) :: L) := Has.del o17 0
    exact q0 <| ⟨(x8, i64.wrap (k0 + (1 : Int))), ⟨ad11, h11, by kernel_rfl, o18⟩, H⟩
  · exact qx 4 <| ⟨rfl, out2, k0, oi H, .int .i64 k0, .bool (decide (k0 < (v3.nodes.length : Int))), ad9, h9, by kernel_rfl, o15⟩
theorem ref20_Put.l1_ok (L : Mem) (ad2 : Nat) (least1 : List VTree) (ad2 : Nat)  (S38_ : S38 cf m) (S39_ : S39 cf m) (S40_ : S40 cf m) : LoopT Tryd.prog cf ann15 m (sub [1, 1, 1, 1, 1, 1, 0, 1, 0, 0] (codeOf Tryd.f15)) (fun k (σ : (List Int) × Int) => ref20_Put.l1 m least1 k σ.1 σ.2) (fun σ s => match σ with | (out1, i2) => ∃ ad6 h6, s = ⟨Ay3 (.rs ad2 0 least1.length 2 :: Ay3 (.rs ad6 0 out1.length 1 :: .int .i64 i2 :: Ay11 [])), [none, none], h6⟩ ∧ Has h6 ((ad6, .sl out1.length 1 (eByte.l out1)) :: (ad2, .sl least1.length 2 (eTree.l least1)) :: L)) (fun out e s => (e = .exit 2 ∧ ∃ out1 i2, .inr (out1, i2) = out ∧ ∃ x4_ x9_ x46_ ad6 h6, s = ⟨Ay3 (x4_ :: Ay3 (.rs ad6 0 out1.length 1 :: x9_ :: Ay6 (x46_ :: Ay4 []))), [none, none], h6⟩ ∧ Has h6 ((ad6, .sl out1.length 1 (eByte.l out1)) :: (ad2, .sl least1.length 2 (eTree.l least1)) :: L)) ∨ (e = .ret ∧ ∃ r, .inl r = out ∧ ref20_Put.fin L r s)) := by
  refine lpT (fun _ => rfl) ?_
  rintro k ⟨out1, i2⟩ s out ⟨ad6, h6, rfl, o9⟩ H
  have H : ref20_Put.l1 m least1 (k + 1) out1 i2 = some out := H
  refine qq <| qq <| q0 <| qc H (fun c3 H => ?_) (fun c3 H => ?_)
  · refine qk <| qq <| qb 3 <| qq <| qq ?_
    obtain ⟨v1, e10, H⟩ := bsi H
    obtain ⟨x4, e11, H⟩ := bsi H
    refine qr [.v 2 (ia_ownL (k := .i64) (E := eTree) (l := least1) (q := 1) T22 o9 rfl e10), .v 3 (ld_ownA  (E := eTree) (l := least1) (q := 1) o9 rfl A31 Z31 e10), .a 4 (S39_ _ _ e11 h6 _ (frs (fr_cons (fr_agg (fr_cons (fr_fz (E := eNode)) (fr_cons (fr_int) (fr_nil)))) (fr_nil))))] <| qc H (fun c4 H => ?_) (fun c4 H => ?_)
    · refine q1 ?_
      have o10 : Has h6 ((ad6, .sl out1.length 1 (eByte.l out1)) :: L) := Has.del o9 1
      have o11 : Has h6 (L) := Has.del o10 0
      exact qt <| Or.inr (⟨rfl, _, oi H, fnb (.tup [.nils, .int .i64 (4 : Int)]) h6 (frb (fb_tup (fb_cons (fb_nils) (fb_cons (fb_int) (fb_nil)))))⟩)
    · refine qk <| qq ?_
      obtain ⟨v2, e12, H⟩ := bsi H
      obtain ⟨x5, e13, H⟩ := bsi H
      obtain ⟨ad7, h7, e14, o12⟩ := S38_ _ _ e13 h6 _  (o9)  [.int .u64 (u64.wrap (v2.nodes.length : Int))] (can_cons (can_pure (pu_int)) (can_nil))
      obtain ⟨x6, e15, H⟩ := bsi H
      obtain ⟨ad8, h8, e16, o13⟩ := ap_own (P := Tryd.prog) (E := eByte) (l := out1) (q := 1) (t2 := 25) (x := .rs ad7 0 x5.length 1) (l2 := x5) T25 o12 rfl (cells_own (E := eByte) (l := x5) (q := 0) o12 rfl) rfl e15
      refine qr [.v 3 (ia_ownL (k := .i64) (E := eTree) (l := least1) (q := 1) T22 o9 rfl e12), .v 5 (ld_own1  (E := eTree) (l := least1) (q := 1) (off := 0) o9 rfl A29 e12 rfl), .a 8 e14, .a 9 e16] ?_
      have o14 : Has h8 ((ad8, .sl x6.length 1 (eByte.l x6)) :: (ad2, .sl least1.length 2 (eTree.l least1)) :: L) := Has.del o13 0
      refine q1 <| qb 4 ?_
      obtain ⟨out4, e24, H⟩ := bsi H
      refine ql (ref20_Put.l2_ok L ad2 least1 ad2 i2  S40_ (x6, (0 : Int)) _ _ ⟨ad8, h8, by kernel_rfl, o14⟩ e24) ?_
      rintro e s ⟨rfl, out3, k1, rfl, g3, g4, ad12, h12, rfl, o19⟩
      try dsimp only at H
      exact q0 <| ⟨(out3, i64.wrap (i2 + (1 : Int))), ⟨ad12, h12, by kernel_rfl, o19⟩, H⟩
  · exact qx 2 <| Or.inl (⟨rfl, out1, i2, oi H, .rs ad2 0 least1.length 2, .int .i64 i2, .bool (decide (i2 < (least1.length : Int))), ad6, h6, by kernel_rfl, o9⟩)
theorem ref20_Put.l3_ok (L : Mem)    : LoopT Tryd.prog cf ann15 m (sub [1, 1, 1, 1, 1, 1, 1, 1, 0, 1, 0, 0] (codeOf Tryd.f15)) (fun k (σ : (List Int) × Int × Int) => ref20_Put.l3 m k σ.1 σ.2.1 σ.2.2) (fun σ s => match σ with | (out7, c6, i4) => ∃ ad14 h14, s = ⟨Ay7 (.rs ad14 0 out7.length 1 :: .any :: .any :: .int .i64 c6 :: .int .i64 i4 :: Ay8 []), [none, none], h14⟩ ∧ Has h14 ((ad14, .sl out7.length 1 (eByte.l out7)) :: L)) (fun out e s => (e = .exit 6 ∧ ∃ out7 c6 i4, (out7, c6, i4) = out ∧ ∃ x11_ x12_ x88_ ad14 h14, s = ⟨Ay7 (.rs ad14 0 out7.length 1 :: .any :: .any :: x11_ :: x12_ :: Ay6 [x88_, .any]), [none, none], h14⟩ ∧ Has h14 ((ad14, .sl out7.length 1 (eByte.l out7)) :: L))) := by
  refine lpT (fun _ => rfl) ?_
  rintro k ⟨out7, c6, i4⟩ s out ⟨ad14, h14, rfl, o22⟩ H
  have H : ref20_Put.l3 m (k + 1) out7 c6 i4 = some out := H
  refine qq <| qq <| q0 <| qc H (fun c7 H => ?_) (fun c7 H => ?_)
  · refine qk <| qq <| qb 7 <| qq ?_
    obtain ⟨x10, e27, H⟩ := bsi H
    obtain ⟨ad15, h15, e28, o23⟩ := ap_own (P := Tryd.prog) (E := eByte) (l := out7) (q := 0) (t2 := 25) (x := .fz [.int .u8 (u8.wrap (Int.tmod c6 (256 : Int)))] 1 true) (l2 := ([u8.wrap (Int.tmod c6 (256 : Int))])) T25 o22 rfl (by kernel_rfl) rfl e27
    exact qr [.a 5 e28] <| q0 <| q0 <| ⟨(x10, i64.wrap (Int.tdiv c6 (256 : Int)), i64.wrap (i4 + (1 : Int))), ⟨ad15, h15, by kernel_rfl, o23⟩, H⟩
  · exact qx 6 <| ⟨rfl, out7, c6, i4, oi H, .int .i64 c6, .int .i64 i4, .bool (decide (i4 < (4 : Int))), ad14, h14, by kernel_rfl, o22⟩
theorem ref20_Put_body {ann : FuncId → Ann} (ha : ann 15 = ann15) (S23_ : S23 cf m) (S37_ : S37 cf m) (S38_ : S38 cf m) (S39_ : S39 cf m) (S40_ : S40 cf m) (list0 : List VTree) (h : AHeap) (L : Mem)  (o : Has h (L)) {out : (List Int) × Int} (H : ref20_Put.f m list0 = some out) :
    ∃ r h', bodyA Tryd.prog ann cf m 15 [eTree.fz list0] h = some (r, h') ∧ Frb h' r (.tup [eByte.fz out.1, .int .i64 out.2]) := by
  refine body_of_ends2 (fn := Tryd.f15) ha Tryd.func15 (by kernel_rfl) (by kernel_rfl) ?_
  refine ends_fin (Q := fun s => ref20_Put.fin L out s) (fun _ _ h => h) ?_
  have H : _ = some out := H
  unfold ref20_Put.f at H
  show Enz _ cf ann15 m _ ⟨eTree.fz list0 :: Ay19 [], [none, none], h⟩ _
  refine q1 <| qq <| qq <| q0 <| qc H (fun c0 H => ?_) (fun c0 H => ?_)
  · obtain rfl := oi H
    exact q1 <| qt <| ⟨.inl rfl, fnb (.tup [.nils, .int .i64 (3 : Int)]) h (frb (fb_tup (fb_cons (fb_nils) (fb_cons (fb_int) (fb_nil)))))⟩
  · refine qk <| qq <| q0 ?_
    have o0 : Has h (((0), .sl (([] : List VTree).length) 2 (eTree.l ([] : List VTree))) :: L) := Has.nil o 2
    refine qq <| qq <| q0 <| qb 0 ?_
    obtain ⟨out0, e4, H⟩ := bsi H
    refine ql (ref20_Put.l0_ok L list0  S37_ (([] : List VTree), (0 : Int)) _ _ ⟨(0), h, by kernel_rfl, o0⟩ e4) ?_
    rintro e s (⟨rfl, least1, i1, rfl, g0, g1, g2, ad2, h2, rfl, o4⟩ | ⟨rfl, r1, rfl, hf1⟩)
    · try dsimp only at H
      refine qq ?_
      obtain ⟨ad3, h3, e5, o5⟩ := lit_new (E := eByte) (l := [(76 : Int), (1 : Int)]) (cs := [.int .u8 (76 : Int), .int .u8 (1 : Int)]) o4 (by kernel_rfl)
      refine qr [.a 0 e5] <| qq ?_
      obtain ⟨x2, e6, H⟩ := bsi H
      obtain ⟨ad4, h4, e7, o6⟩ := S38_ _ _ e6 h3 _  (o5)  [.int .u64 (u64.wrap (least1.length : Int))] (can_cons (can_pure (pu_int)) (can_nil))
      obtain ⟨x3, e8, H⟩ := bsi H
      obtain ⟨ad5, h5, e9, o7⟩ := ap_own (P := Tryd.prog) (E := eByte) (l := ([(76 : Int), (1 : Int)])) (q := 1) (t2 := 25) (x := .rs ad4 0 x2.length 1) (l2 := x2) T25 o6 rfl (cells_own (E := eByte) (l := x2) (q := 0) o6 rfl) rfl e8
      refine qr [.a 4 e7, .a 5 e9] ?_
      have o8 : Has h5 ((ad5, .sl x3.length 1 (eByte.l x3)) :: (ad2, .sl least1.length 2 (eTree.l least1)) :: L) := Has.del o7 0
      refine qq <| qq <| q0 <| qb 2 ?_
      obtain ⟨out6, e25, H⟩ := bsi H
      refine ql (ref20_Put.l1_ok L ad2 least1 ad2  S38_ S39_ S40_ (x3, (0 : Int)) _ _ ⟨ad5, h5, by kernel_rfl, o8⟩ e25) ?_
      rintro e s (⟨rfl, out5, i3, rfl, g5, g6, g7, ad13, h13, rfl, o20⟩ | ⟨rfl, r0, rfl, hf0⟩)
      · try dsimp only at H
        refine qq ?_
        obtain ⟨x9, e26, H⟩ := bsi H
        refine qr [.a 1 (S23_ _ _ e26 h13 _ (frs (fr_cons (fr_rs (E := eByte) (l := out5) (q := 0) o20 rfl (fun _ => rfl)) (fr_nil))))] ?_
        have o21 : Has h13 ((ad13, .sl out5.length 1 (eByte.l out5)) :: L) := Has.del o20 1
        refine qq <| qq <| q0 <| qb 6 ?_
        obtain ⟨out9, e29, H⟩ := bsi H
        refine ql (ref20_Put.l3_ok L    (out5, x9, (0 : Int)) _ _ ⟨ad13, h13, by kernel_rfl, o21⟩ e29) ?_
        rintro e s ⟨rfl, out8, c8, i5, rfl, g8, g9, g10, ad16, h16, rfl, o24⟩
        try dsimp only at H
        refine qq <| qq <| q0 <| qc H (fun c9 H => ?_) (fun c9 H => ?_)
        · refine q1 ?_
          have o25 : Has h16 (L) := Has.del o24 0
          obtain rfl := oi H
          exact qt <| ⟨.inl rfl, fnb (.tup [.nils, .int .i64 (3 : Int)]) h16 (frb (fb_tup (fb_cons (fb_nils) (fb_cons (fb_int) (fb_nil)))))⟩
        · obtain rfl := oi H
          exact qk <| qq <| q0 <| qt <| ⟨.inl rfl, fnb (.tup [.rs ad16 0 out8.length 1, .int .i64 (0 : Int)]) h16 (frb (fb_tup (fb_cons (fb_rs (E := eByte) (l := out8) (q := 0) o24 rfl (fun _ => rfl)) (fb_cons (fb_int) (fb_nil)))))⟩
      · try dsimp only at H
        obtain rfl := oi H
        exact ⟨.inl rfl, hf0⟩
    · try dsimp only at H
      obtain rfl := oi H
      exact ⟨.inl rfl, hf1⟩
end
end Go.Proofs.YtmekcfdllhphlaaDoor

namespace Go.Proofs.YtmekcfdllhphlaaDoor
open Go Go.R
open Go.IntKind (i64 u64 u8 u32)
theorem app1 {a b : List Int} (h : a.length + b.length ≤ 500000000000) : app 1 a b = some (a ++ b) := by unfold app; rw [if_pos (by omega)]
theorem rn_l0 {m : Nat} : ∀ (k f n : Nat) (out : List Int), k < f → n < 128 ^ (k + 1) → n < 2 ^ 64 → out.length + k ≤ 400000000000 →
    ∃ (n' : Nat) (out' : List Int), ref20_number.l0 m f (n : Int) out = some ((n' : Int), out') ∧ n' < 128 ∧ out' ++ [(n' : Int)] = out ++ encN n
  | k, 0, n, out, hf, _, _, _ => absurd hf (by omega)
  | k, f + 1, n, out, hf, hn, h64, hl => by
    have p64 : (2 : Nat) ^ 64 = 18446744073709551616 := by decide
    unfold ref20_number.l0
    by_cases h : n < 128
    · rw [if_neg (by simp only [ge_iff_le, decide_eq_true_eq]; omega)]
      exact ⟨n, out, rfl, h, by rw [encN_small h]⟩
    · cases k with
      | zero => simp at hn; omega
      | succ k =>
        have hd : n / 128 < 128 ^ (k + 1) := Nat.div_lt_of_lt_mul (by rw [Nat.mul_comm, ← Nat.pow_succ]; exact hn)
        have e1 : Int.tmod (n : Int) 128 = ((n % 128 : Nat) : Int) := by rw [Int.tmod_eq_emod_of_nonneg (by omega)]; omega
        have e2 : Int.tdiv (n : Int) 128 = ((n / 128 : Nat) : Int) := by rw [Int.tdiv_eq_ediv_of_nonneg (by omega)]; omega
        obtain ⟨n', out', k1, k2, k3⟩ := rn_l0 (m := m) k f (n / 128) (out ++ [((n % 128 + 128 : Nat) : Int)]) (by omega) hd (by omega) (by simp; omega)
        refine ⟨n', out', ?_, k2, ?_⟩
        · rw [if_pos (by simp only [ge_iff_le, decide_eq_true_eq]; omega), e1, e2, u64_id (x := ((n % 128 : Nat) : Int) + 128) (by omega) (by omega), u64_id (x := ((n / 128 : Nat) : Int)) (by omega) (by omega), u8_wrap,
            show (((n % 128 : Nat) : Int) + 128) % 256 = ((n % 128 + 128 : Nat) : Int) by omega, app1 (by simp; omega), Option.bind_some, k1]
        · rw [k3, encN_big h]; simp
theorem rn {m n : Nat} (hm : 11 ≤ m) (hn : n < 2 ^ 64) : ref20_number.f m (n : Int) = some (encN n) := by
  have p64 : (2 : Nat) ^ 64 = 18446744073709551616 := by decide
  obtain ⟨n', out', k1, k2, k3⟩ := rn_l0 (m := m) 9 m n [] (by omega) (by omega) hn (by simp)
  unfold ref20_number.f
  rw [k1, Option.bind_some]
  dsimp only
  have hlen := congrArg List.length k3
  simp only [List.length_append, List.length_cons, List.length_nil, Nat.zero_add] at hlen
  have := encN_len64 hn
  rw [u8_wrap, show (n' : Int) % 256 = (n' : Int) by omega, app1 (by simp; omega), k3]
  rfl
theorem rtx {m : Nat} (hm : 11 ≤ m) {s : ByteArray} (h : s.size ≤ 16) : ref20_text.f m s = some (encS s) := by
  unfold ref20_text.f encS
  have := encN_len64 (n := s.size) (by have : (2 : Nat) ^ 64 = 18446744073709551616 := by decide
                                       omega)
  have h2 := strBytes_len s
  rw [u64_id (by omega) (by omega), rn hm (by have : (2 : Nat) ^ 64 = 18446744073709551616 := by decide
                                              omega), Option.bind_some, app1 (by omega)]
  rfl
theorem rargsW {m : Nat} (hm : 11 ≤ m) {n : VNode} (h8 : n.args.length ≤ 8) (ha : ∀ a ∈ n.args, 0 ≤ a ∧ a < 2 ^ 63) : ∀ (f i : Nat) (out : List Int), n.args.length - i < f → i ≤ n.args.length → out.length + 10 * (n.args.length - i) ≤ 400000000000 →
    ∃ x, ref20_node.l0 m n f out (i : Int) = some (out ++ ((n.args.drop i).map fun a => encN a.toNat).flatten, x)
  | 0, i, out, hf, _, _ => absurd hf (by omega)
  | f + 1, i, out, hf, hi, hl => by
    have p64 : (2 : Nat) ^ 64 = 18446744073709551616 := by decide
    have i63 : (2 : Int) ^ 63 = 9223372036854775808 := by decide
    unfold ref20_node.l0
    by_cases h : i < n.args.length
    · obtain ⟨a0, a1⟩ := ha _ (gt_mem h)
      have hD : n.args.drop i = gt n.args i :: n.args.drop (i + 1) := by
        obtain ⟨h4, h5⟩ := List.getElem?_eq_some_iff.1 (gt_some h)
        rw [← h5]; exact List.drop_eq_getElem_cons h4
      have e1 : u64.wrap (gt n.args i) = ((gt n.args i).toNat : Int) := by rw [u64_id (by omega) (by omega)]; omega
      have hen := encN_len64 (n := (gt n.args i).toNat) (by omega)
      obtain ⟨x, ih⟩ := rargsW hm h8 ha f (i + 1) (out ++ encN (gt n.args i).toNat) (by omega) (by omega) (by simp; omega)
      refine ⟨x, ?_⟩
      rw [if_pos (by simp only [decide_eq_true_eq]; omega), ix_gt h, Option.bind_some, e1, rn hm (by omega), Option.bind_some, app1 (by omega), Option.bind_some, i64_id (by omega) (by omega), show (i : Int) + 1 = ((i + 1 : Nat) : Int) by omega, ih, hD]
      simp
    · refine ⟨(i : Int), ?_⟩
      rw [if_neg (by simp only [decide_eq_true_eq]; omega), List.drop_eq_nil_of_le (by omega)]; simp
theorem rnodeW {m : Nat} (hm : 11 ≤ m) {n : VNode} (W : WNode n) (T : Top n) : ref20_node.f m n = some (encNode n) := by
  have p64 : (2 : Nat) ^ 64 = 18446744073709551616 := by decide
  have i63 : (2 : Int) ^ 63 = 9223372036854775808 := by decide
  have i62 : (2 : Int) ^ 62 = 4611686018427387904 := by decide
  have hlen := encNode_len W T
  have hk : u8.wrap n.kind = n.kind := by rw [u8_wrap]; rcases W.kind with h | h | h | h <;> (have := h.1; omega)
  unfold ref20_node.f encNode
  unfold encNode at hlen
  rw [hk]
  rcases W.kind with ⟨a, ⟨b, b'⟩, _, _⟩ | ⟨a, ⟨b, b'⟩, _, _⟩ | ⟨a, _⟩ | ⟨a, _⟩
  · rw [if_pos (by simpa using a), if_pos a]
    rw [if_pos a] at hlen
    have e1 : u64.wrap n.int = (n.int.toNat : Int) := by rw [u64_id (by omega) (by omega)]; omega
    simp only [List.length_cons] at hlen
    rw [e1, rn hm (by omega), Option.bind_some, app1 (by simp; omega)]
    rfl
  · rw [if_neg (by simp; omega), if_pos (by simpa using a), if_neg (show ¬ n.kind = 0 by omega), if_pos a]
    rw [if_neg (show ¬ n.kind = 0 by omega), if_pos a] at hlen
    simp only [List.length_cons] at hlen
    have hz := zig_lt b b'
    have hb : -1099511627776 ≤ n.int ∧ n.int ≤ 1099511627776 := by
      rcases T.kind with h | h | h | h | h
      · have := h.1; omega
      · exact h.2.1
      · have := h.1; omega
      · have := h.1; omega
      · have := h.1; omega
    have p63 : (2 : Nat) ^ 63 = 9223372036854775808 := by decide
    by_cases hneg : n.int < 0
    · have e1 : u64.wrap (i64.wrap (i64.wrap ((-2 : Int) * n.int) - 1)) = (zig n.int : Int) := by
        rw [i64_id (x := (-2 : Int) * n.int) (by omega) (by omega), i64_id (x := (-2 : Int) * n.int - 1) (by omega) (by omega), u64_id (x := (-2 : Int) * n.int - 1) (by omega) (by omega)]
        unfold zig; rw [if_pos hneg]; omega
      rw [if_pos (by simpa using hneg), e1, rn hm (by omega), Option.bind_some, app1 (by simp; omega)]
      rfl
    · have e1 : u64.wrap (i64.wrap ((2 : Int) * n.int)) = (zig n.int : Int) := by
        rw [i64_id (x := (2 : Int) * n.int) (by omega) (by omega), u64_id (x := (2 : Int) * n.int) (by omega) (by omega)]
        unfold zig; rw [if_neg hneg]; omega
      rw [if_neg (by simpa using hneg), e1, rn hm (by omega), Option.bind_some, app1 (by simp; omega)]
      rfl
  · have hs := T.label (.inl a)
    rw [if_neg (by simp; omega), if_neg (by simp; omega), if_pos (by simpa using a), if_neg (show ¬ n.kind = 0 by omega), if_neg (show ¬ n.kind = 1 by omega), if_pos a]
    rw [if_neg (show ¬ n.kind = 0 by omega), if_neg (show ¬ n.kind = 1 by omega), if_pos a] at hlen
    simp only [List.length_cons] at hlen
    rw [rtx hm hs.2, Option.bind_some, app1 (by simp; omega)]
    rfl
  · have hs := T.label (.inr a)
    rw [if_neg (by simp; omega), if_neg (by simp; omega), if_neg (by simp; omega), if_pos (by simpa using a), if_neg (show ¬ n.kind = 0 by omega), if_neg (show ¬ n.kind = 1 by omega), if_neg (show ¬ n.kind = 2 by omega)]
    rw [if_neg (show ¬ n.kind = 0 by omega), if_neg (show ¬ n.kind = 1 by omega), if_neg (show ¬ n.kind = 2 by omega)] at hlen
    simp only [List.length_cons, List.length_append] at hlen
    have h8 := W.args.1
    obtain ⟨x, q1⟩ := rargsW (m := m) hm h8 W.args.2 m 0 ([n.kind] ++ encS n.label ++ encN n.args.length) (by omega) (by omega) (by simp; omega)
    have q1 : ref20_node.l0 m n m ([n.kind] ++ encS n.label ++ encN n.args.length) 0 = _ := q1
    rw [List.drop_zero] at q1
    rw [rtx hm hs.2, Option.bind_some, app1 (by simp; omega), Option.bind_some, u64_id (x := (n.args.length : Int)) (by omega) (by omega), rn hm (by omega), Option.bind_some, app1 (by simp; omega), Option.bind_some, q1]
    simp
end Go.Proofs.YtmekcfdllhphlaaDoor

namespace Go.Proofs.YtmekcfdllhphlaaDoor
open Go Go.R
open Go.IntKind (i64 u64 u8 u32)
theorem u32_wrap (x : Int) : u32.wrap x = x % 4294967296 := by
  unfold IntKind.wrap; simp [IntKind.signed, IntKind.bits]
theorem xor_rng (x y : Int) : 0 ≤ bitsXor .u32 x y ∧ bitsXor .u32 x y < 4294967296 := by
  unfold bitsXor; rw [u32_wrap]; omega
theorem bv_nat (n : Nat) : BitVec.ofInt 32 (n : Int) = BitVec.ofNat 32 n := by
  apply BitVec.eq_of_toNat_eq; simp
theorem and1 {n : Nat} (h : n < 4294967296) : bitsAnd .u32 (n : Int) 1 = ((n % 2 : Nat) : Int) := by
  show u32.wrap (((BitVec.ofInt 32 (n : Int) &&& BitVec.ofInt 32 ((1 : Nat) : Int)).toNat : Nat) : Int) = _
  rw [bv_nat, bv_nat, u32_wrap, BitVec.toNat_and, BitVec.toNat_ofNat, BitVec.toNat_ofNat]
  have : n % 2 ^ 32 = n := Nat.mod_eq_of_lt h
  rw [this, show (1 : Nat) % 2 ^ 32 = 2 ^ 1 - 1 by decide, Nat.and_two_pow_sub_one_eq_mod]
  omega
theorem step_eq {n : Nat} (h : n < 4294967296) : bitsXor .u32 (shR .u32 (n : Int) 1) (bitsAnd .u32 (3988292384 : Int) (u32.wrap (0 - (bitsAnd .u32 (n : Int) (1 : Int))))) =
    if (Int.tmod (n : Int) (2 : Int) == (1 : Int)) = true then bitsXor .u32 (u32.wrap (Int.tdiv (n : Int) (2 : Int))) (3988292384 : Int) else u32.wrap (Int.tdiv (n : Int) (2 : Int)) := by
  have e1 : Int.tmod (n : Int) 2 = ((n % 2 : Nat) : Int) := by rw [Int.tmod_eq_emod_of_nonneg (by omega)]; omega
  have e2 : Int.tdiv (n : Int) 2 = ((n / 2 : Nat) : Int) := by rw [Int.tdiv_eq_ediv_of_nonneg (by omega)]; omega
  have e3 : shR .u32 (n : Int) 1 = ((n / 2 : Nat) : Int) := by
    unfold shR; rw [Int.fdiv_eq_ediv_of_nonneg _ (by decide)]; show (n : Int) / 2 = _; omega
  have e4 : u32.wrap ((n / 2 : Nat) : Int) = ((n / 2 : Nat) : Int) := by rw [u32_wrap]; omega
  rw [and1 h, e1, e2, e3, e4]
  rcases Nat.mod_two_eq_zero_or_one n with h2 | h2
  · rw [h2, if_neg (by simp)]
    have e5 : bitsAnd .u32 (3988292384 : Int) (u32.wrap (0 - ((0 : Nat) : Int))) = 0 := by decide
    rw [e5]
    show u32.wrap (((BitVec.ofInt 32 ((n / 2 : Nat) : Int) ^^^ BitVec.ofInt 32 ((0 : Nat) : Int)).toNat : Nat) : Int) = _
    rw [bv_nat, bv_nat, u32_wrap, BitVec.toNat_xor, BitVec.toNat_ofNat, BitVec.toNat_ofNat]
    have : n / 2 % 2 ^ 32 = n / 2 := Nat.mod_eq_of_lt (by omega)
    rw [this]
    simp
    omega
  · rw [h2, if_pos (by simp)]
    have e5 : bitsAnd .u32 (3988292384 : Int) (u32.wrap (0 - ((1 : Nat) : Int))) = 3988292384 := by decide
    rw [e5]
theorem sum_l1_eq {m : Nat} : ∀ (f i n : Nat), n < 4294967296 → 8 - i < f → i ≤ 8 → ∃ c x, pickle_Sum.l1 m f (n : Int) (i : Int) = some (c, x) ∧ ref20_Sum.l1 m f (n : Int) (i : Int) = some (c, x) ∧ 0 ≤ c ∧ c < 4294967296
  | 0, i, n, _, hf, _ => absurd hf (by omega)
  | f + 1, i, n, hn, hf, hi => by
    unfold pickle_Sum.l1 ref20_Sum.l1
    by_cases h : i < 8
    · have hs := step_eq hn
      have e3 : i64.wrap ((i : Int) + 1) = ((i + 1 : Nat) : Int) := by rw [i64_id (by omega) (by omega)]; omega
      rw [if_pos (by simp only [decide_eq_true_eq]; omega), if_pos (by simp only [decide_eq_true_eq]; omega), e3, hs]
      by_cases hc : (Int.tmod (n : Int) (2 : Int) == (1 : Int)) = true
      · rw [if_pos hc, if_pos hc]
        have hr := xor_rng (u32.wrap (Int.tdiv (n : Int) (2 : Int))) 3988292384
        obtain ⟨q, hq⟩ : ∃ q : Nat, bitsXor .u32 (u32.wrap (Int.tdiv (n : Int) (2 : Int))) 3988292384 = (q : Int) := ⟨(bitsXor .u32 (u32.wrap (Int.tdiv (n : Int) (2 : Int))) 3988292384).toNat, by omega⟩
        rw [hq] at hr ⊢
        exact sum_l1_eq f (i + 1) q (by omega) (by omega) (by omega)
      · rw [if_neg hc, if_neg hc]
        have hw : 0 ≤ u32.wrap (Int.tdiv (n : Int) (2 : Int)) ∧ u32.wrap (Int.tdiv (n : Int) (2 : Int)) < 4294967296 := by rw [u32_wrap]; omega
        obtain ⟨q, hq⟩ : ∃ q : Nat, u32.wrap (Int.tdiv (n : Int) (2 : Int)) = (q : Int) := ⟨(u32.wrap (Int.tdiv (n : Int) (2 : Int))).toNat, by omega⟩
        rw [hq] at hw ⊢
        exact sum_l1_eq f (i + 1) q (by omega) (by omega) (by omega)
    · refine ⟨n, i, ?_, ?_, by omega, by omega⟩
      · rw [if_neg (by simp only [decide_eq_true_eq]; omega)]
      · rw [if_neg (by simp only [decide_eq_true_eq]; omega)]
theorem sum_l0_eq {m : Nat} (hm : 10 ≤ m) {b : List Int} (hb : b.length < 2 ^ 40) : ∀ (f i n : Nat), n < 4294967296 → b.length - i < f → i ≤ b.length → ∃ c x, pickle_Sum.l0 m b f (n : Int) (i : Int) = some (c, x) ∧ ref20_Sum.l0 m b f (n : Int) (i : Int) = some (c, x) ∧ 0 ≤ c ∧ c < 4294967296
  | 0, i, n, _, hf, _ => absurd hf (by omega)
  | f + 1, i, n, hn, hf, hi => by
    have p40 : (2 : Nat) ^ 40 = 1099511627776 := by decide
    unfold pickle_Sum.l0 ref20_Sum.l0
    by_cases h : i < b.length
    · have hr := xor_rng (n : Int) (u32.wrap (gt b i))
      obtain ⟨q, hq⟩ : ∃ q : Nat, bitsXor .u32 (n : Int) (u32.wrap (gt b i)) = (q : Int) := ⟨(bitsXor .u32 (n : Int) (u32.wrap (gt b i))).toNat, by omega⟩
      rw [hq] at hr
      obtain ⟨c, x, k1, k2, k3⟩ := sum_l1_eq (m := m) m 0 q (by omega) (by omega) (by omega)
      have k1 : pickle_Sum.l1 m m (q : Int) 0 = _ := k1
      have k2 : ref20_Sum.l1 m m (q : Int) 0 = _ := k2
      obtain ⟨q2, rfl⟩ : ∃ q2 : Nat, c = (q2 : Int) := ⟨c.toNat, by omega⟩
      have e3 : i64.wrap ((i : Int) + 1) = ((i + 1 : Nat) : Int) := by rw [i64_id (by omega) (by omega)]; omega
      rw [if_pos (by simp only [decide_eq_true_eq]; omega), if_pos (by simp only [decide_eq_true_eq]; omega), ix_gt h, Option.bind_some, Option.bind_some, hq, k1, k2, Option.bind_some, Option.bind_some]
      dsimp only
      rw [e3]
      exact sum_l0_eq hm hb f (i + 1) q2 (by omega) (by omega) (by omega)
    · refine ⟨n, i, ?_, ?_, by omega, by omega⟩
      · rw [if_neg (by simp only [decide_eq_true_eq]; omega)]
      · rw [if_neg (by simp only [decide_eq_true_eq]; omega)]
theorem sum_eq {m : Nat} (hm : 10 ≤ m) {b : List Int} (hb : b.length < 2 ^ 40) (hbm : b.length < m) : ∃ s : Nat, pickle_Sum.f m b = some (s : Int) ∧ ref20_Sum.f m b = some (s : Int) ∧ s < 4294967296 := by
  obtain ⟨c, x, k1, k2, k3⟩ := sum_l0_eq (m := m) hm hb m 0 4294967295 (by omega) (by omega) (by omega)
  have k1 : pickle_Sum.l0 m b m 4294967295 0 = _ := k1
  have k2 : ref20_Sum.l0 m b m 4294967295 0 = _ := k2
  have hx : compl .u32 c = bitsXor .u32 c 4294967295 := by
    show bitsXor .u32 4294967295 c = _
    unfold bitsXor
    rw [BitVec.xor_comm]
  have hr := xor_rng c 4294967295
  refine ⟨(bitsXor .u32 c 4294967295).toNat, ?_, ?_, by omega⟩
  · unfold pickle_Sum.f
    rw [k1, Option.bind_some]
    dsimp only
    rw [hx, i64_id (by omega) (by omega)]
    congr 1
  · unfold ref20_Sum.f
    rw [k2, Option.bind_some]
    dsimp only
    rw [i64_id (by omega) (by omega)]
    congr 1
end Go.Proofs.YtmekcfdllhphlaaDoor

namespace Go.Proofs.YtmekcfdllhphlaaDoor
open Go Go.R
open Go.IntKind (i64 u64 u8 u32)
theorem rletter_spec {m : Nat} (c : Int) : ref01_Letter.f m c = some (letterB c) := by
  unfold ref01_Letter.f
  by_cases h1 : 97 ≤ c <;> by_cases h2 : c ≤ 122 <;> by_cases h3 : 65 ≤ c <;> by_cases h4 : c ≤ 90 <;> by_cases h5 : 48 ≤ c <;> by_cases h6 : c ≤ 57 <;> simp [letterB, h1, h2, h3, h4, h5, h6] <;> omega
theorem rword_l0 {m : Nat} {s : ByteArray} (hs : s.size ≤ 16) : ∀ (f i : Nat), s.size - i < f → i ≤ s.size →
    ∃ o, ref01_word.l0 m s f (i : Int) = some o ∧ ((∃ x, o = .inr x) ∧ ((s.data.toList.drop i).all fun c => letterB (c.toNat : Int)) = true ∨ o = .inl false ∧ ((s.data.toList.drop i).all fun c => letterB (c.toNat : Int)) = false)
  | 0, i, hf, _ => absurd hf (by omega)
  | f + 1, i, hf, hi => by
    unfold ref01_word.l0
    by_cases h : i < s.size
    · obtain ⟨c, hc, hb⟩ := bt_some h
      obtain ⟨h4, h5⟩ := List.getElem?_eq_some_iff.1 hc
      have hd : s.data.toList.drop i = c :: s.data.toList.drop (i + 1) := by rw [← h5]; exact List.drop_eq_getElem_cons h4
      rw [if_pos (by simp only [decide_eq_true_eq]; omega), hb, Option.bind_some, rletter_spec, Option.bind_some, hd, List.all_cons]
      cases hl : letterB (c.toNat : Int) with
      | false => exact ⟨_, rfl, .inr ⟨rfl, rfl⟩⟩
      | true =>
        obtain ⟨o, h1, h2⟩ := rword_l0 (m := m) hs f (i + 1) (by omega) (by omega)
        rw [if_neg (by simp), i64_id (by omega) (by omega), show (i : Int) + 1 = ((i + 1 : Nat) : Int) by omega, h1]
        exact ⟨o, rfl, by simpa using h2⟩
    · refine ⟨_, by rw [if_neg (by simp only [decide_eq_true_eq]; omega)], .inl ⟨⟨_, rfl⟩, ?_⟩⟩
      rw [List.drop_eq_nil_of_le (by simp; omega)]; rfl
def wordA (s : ByteArray) : Bool := decide (1 ≤ s.data.toList.length) && decide (s.data.toList.length ≤ 16) && s.data.toList.all fun c => letterB (c.toNat : Int)
theorem rword_spec {m : Nat} (hm : 20 ≤ m) (s : ByteArray) : ref01_word.f m s = some (wordA s) := by
  have hsz : s.size = s.data.toList.length := by simp
  unfold ref01_word.f wordA
  by_cases h1 : 1 ≤ s.data.toList.length
  · by_cases h2 : s.data.toList.length ≤ 16
    · obtain ⟨o, k1, k2⟩ := rword_l0 (m := m) (s := s) (by omega) m 0 (by omega) (by omega)
      have k1 : ref01_word.l0 m s m 0 = _ := k1
      rw [List.drop_zero] at k2
      rw [if_neg (by simp only [decide_eq_true_eq]; omega), if_neg (by simp only [decide_eq_true_eq]; omega), k1, Option.bind_some, decide_eq_true h1, decide_eq_true h2]
      simp only [Bool.true_and]
      rcases k2 with ⟨⟨x, rfl⟩, k⟩ | ⟨rfl, k⟩
      · rw [k]
      · rw [k]
    · rw [if_neg (by simp only [decide_eq_true_eq]; omega), if_pos (by simp only [decide_eq_true_eq]; omega), decide_eq_false h2, Bool.and_false]; rfl
  · rw [if_pos (by simp only [decide_eq_true_eq]; omega), decide_eq_false h1]; rfl
theorem isatom_spec {m : Nat} (hm : 20 ≤ m) (s : ByteArray) : ref01_IsAtom.f m s = some (atomB s) := by
  have hsz : s.size = s.data.toList.length := by simp
  unfold ref01_IsAtom.f atomB
  show (if (s.data.toList == [124]) = true then _ else if (s.data.toList == [35]) = true then _ else _) = _
  cases h1 : s.data.toList == [124] with
  | true => rfl
  | false =>
    cases h2 : s.data.toList == [35] with
    | true => rfl
    | false =>
      simp only [Bool.false_eq_true, if_false, Bool.false_or]
      rw [rword_spec hm, Option.bind_some]
      unfold wordA wordB
      cases hl : s.data.toList with
      | nil => rfl
      | cons c cs =>
        obtain ⟨c', g1, g2⟩ := bt_some (s := s) (i := 0) (by rw [hsz, hl]; simp)
        rw [hl] at g1
        simp only [List.getElem?_cons_zero, Option.some.injEq] at g1
        subst g1
        have g2 : bt s 0 = _ := g2
        rw [g2]
        simp only [Option.bind_some, List.length_cons]
        cases ha : (c :: cs).all fun c => letterB (c.toNat : Int) with
        | false => simp
        | true =>
          by_cases h3 : cs.length ≤ 15
          · rw [decide_eq_true (show 1 ≤ cs.length + 1 by omega), decide_eq_true (show cs.length + 1 ≤ 16 by omega), decide_eq_true h3]
            simp only [Bool.and_self, if_true, Bool.and_true, Bool.true_and]
            by_cases h4 : (97 : Int) ≤ (c.toNat : Int)
            · rw [if_pos (by simpa using h4), decide_eq_true h4]; rfl
            · rw [if_neg (by simpa using h4), decide_eq_false h4]; rfl
          · rw [decide_eq_false (show ¬ cs.length + 1 ≤ 16 by omega), decide_eq_false h3]; simp
theorem right_l0 {m : Nat} {n : VNode} {size : Int} (h8 : n.args.length ≤ 8) : ∀ (f i : Nat), n.args.length - i < f → i ≤ n.args.length →
    ∃ o, ref01_Right.l0 m n size f (i : Int) = some o ∧ ((∃ x, o = .inr x) ∧ ((n.args.drop i).all fun a => decide (0 ≤ a) && decide (a < size)) = true ∨ o = .inl false ∧ ((n.args.drop i).all fun a => decide (0 ≤ a) && decide (a < size)) = false)
  | 0, i, hf, _ => absurd hf (by omega)
  | f + 1, i, hf, hi => by
    unfold ref01_Right.l0
    by_cases h : i < n.args.length
    · have hd : n.args.drop i = gt n.args i :: n.args.drop (i + 1) := by
        obtain ⟨h4, h5⟩ := List.getElem?_eq_some_iff.1 (gt_some h)
        rw [← h5]; exact List.drop_eq_getElem_cons h4
      rw [if_pos (by simp only [decide_eq_true_eq]; omega), ix_gt h, Option.bind_some, hd, List.all_cons, Option.bind_some]
      by_cases h1 : gt n.args i < 0
      · rw [if_pos (by simpa using h1), decide_eq_false (show ¬ 0 ≤ gt n.args i by omega)]
        exact ⟨_, rfl, .inr ⟨rfl, rfl⟩⟩
      · rw [if_neg (by simpa using h1), decide_eq_true (show 0 ≤ gt n.args i by omega)]
        by_cases h2 : gt n.args i < size
        · obtain ⟨o, k1, k2⟩ := right_l0 (m := m) (size := size) h8 f (i + 1) (by omega) (by omega)
          rw [if_neg (by simp only [decide_eq_true_eq]; omega), decide_eq_true h2, i64_id (by omega) (by omega), show (i : Int) + 1 = ((i + 1 : Nat) : Int) by omega, k1]
          exact ⟨o, rfl, by simpa using k2⟩
        · rw [if_pos (by simp only [decide_eq_true_eq]; omega), decide_eq_false h2]
          exact ⟨_, rfl, .inr ⟨rfl, rfl⟩⟩
    · refine ⟨_, by rw [if_neg (by simp only [decide_eq_true_eq]; omega)], .inl ⟨⟨_, rfl⟩, ?_⟩⟩
      rw [List.drop_eq_nil_of_le (by omega)]; rfl
theorem right_spec {m : Nat} (hm : 20 ≤ m) (n : VNode) (size : Int) : ref01_Right.f m n size = some (nodeB n size) := by
  unfold ref01_Right.f nodeB
  by_cases k0 : n.kind = 0
  · rw [if_pos (by simpa using k0), if_pos k0]
    by_cases h1 : 0 ≤ n.int
    · rw [if_pos (by simpa using h1), show decide (0 ≤ n.int) = true by simpa using h1]
      show (if (n.label.data.toList == []) = true then _ else _) = _
      cases n.label.data.toList == [] with
      | true => rw [if_pos rfl, len0]; rfl
      | false => rfl
    · rw [if_neg (by simpa using h1), show decide (0 ≤ n.int) = false by simp; omega]; rfl
  rw [if_neg (by simpa using k0), if_neg k0]
  by_cases k1 : n.kind = 1
  · rw [if_pos (by simpa using k1), if_pos k1]
    by_cases h1 : -1099511627776 ≤ n.int
    · rw [if_pos (by simpa using h1), show decide (-1099511627776 ≤ n.int) = true by simpa using h1]
      by_cases h3 : n.int ≤ 1099511627776
      · rw [if_pos (by simpa using h3), show decide (n.int ≤ 1099511627776) = true by simpa using h3]
        show (if (n.label.data.toList == []) = true then _ else _) = _
        cases n.label.data.toList == [] with
        | true => rw [if_pos rfl, len0]; rfl
        | false => rfl
      · rw [if_neg (by simpa using h3), show decide (n.int ≤ 1099511627776) = false by simp; omega]; rfl
    · rw [if_neg (by simpa using h1), show decide (-1099511627776 ≤ n.int) = false by simp; omega]; rfl
  rw [if_neg (by simpa using k1), if_neg k1]
  by_cases k2 : n.kind = 2
  · rw [if_pos (by simpa using k2), if_pos k2, isatom_spec hm, Option.bind_some]
    cases atomB n.label with
    | false => simp
    | true =>
      rw [if_pos rfl]
      cases h1 : n.int == 0 with
      | false => rfl
      | true => rw [if_pos rfl, len0]; rfl
  rw [if_neg (by simpa using k2), if_neg k2]
  by_cases k4 : n.kind = 4
  · rw [if_pos (by simpa using k4), if_neg (show ¬ n.kind = 3 by omega), if_pos k4]
    unfold nameB
    show (if (n.label.data.toList == [112, 114, 111, 99]) = true then _ else if (n.label.data.toList == [99, 101, 108, 108]) = true then _ else if (n.label.data.toList == [112, 111, 114, 116]) = true then _ else _) = _
    by_cases h1 : 0 ≤ n.int
    · have d1 : decide (n.int ≥ 0) = true := decide_eq_true h1
      rw [d1]
      cases n.label.data.toList == [112, 114, 111, 99] <;> cases n.label.data.toList == [99, 101, 108, 108] <;> cases n.label.data.toList == [112, 111, 114, 116] <;> first | rfl | (show some ((n.args.length : Int) == (0 : Int)) = _; rw [len0]; rfl)
    · have d1 : decide (n.int ≥ 0) = false := decide_eq_false h1
      rw [d1]
      cases n.label.data.toList == [112, 114, 111, 99] <;> cases n.label.data.toList == [99, 101, 108, 108] <;> cases n.label.data.toList == [112, 111, 114, 116] <;> rfl
  rw [if_neg (by simpa using k4)]
  by_cases k3 : n.kind = 3
  · rw [if_pos (by simpa using k3), if_pos k3, isatom_spec hm, Option.bind_some]
    cases atomB n.label with
    | false => simp
    | true =>
      cases h1 : n.int == 0 with
      | false => rfl
      | true =>
        simp only [Bool.not_true, Bool.false_eq_true, if_false, Bool.and_self, Bool.true_and]
        by_cases g1 : 1 ≤ n.args.length
        · rw [if_neg (by simp only [decide_eq_true_eq]; omega), decide_eq_true g1]
          by_cases g2 : n.args.length ≤ 8
          · obtain ⟨o, k1, k2⟩ := right_l0 (m := m) (size := size) g2 m 0 (by omega) (by omega)
            have k1 : ref01_Right.l0 m n size m 0 = _ := k1
            rw [List.drop_zero] at k2
            rw [if_neg (by simp only [decide_eq_true_eq]; omega), decide_eq_true g2, k1, Option.bind_some]
            simp only [Bool.true_and]
            rcases k2 with ⟨⟨x, rfl⟩, k⟩ | ⟨rfl, k⟩
            · rw [k]
            · rw [k]
          · rw [if_pos (by simp only [decide_eq_true_eq]; omega), decide_eq_false g2]; simp
        · rw [if_pos (by simp only [decide_eq_true_eq]; omega), decide_eq_false g1]; simp
  rw [if_neg (by simpa using k3), if_neg k3, if_neg k4]
theorem rvalid_l0 {m : Nat} (hm : 20 ≤ m) {t : VTree} (hl : t.nodes.length ≤ 8000) : ∀ (f i : Nat), t.nodes.length - i < f → i ≤ t.nodes.length →
    ∃ o, ref01_Valid.l0 m t f (i : Int) = some o ∧ ((∃ x, o = .inr x) ∧ ((t.nodes.drop i).all fun n => nodeB n t.nodes.length) = true ∨ o = .inl false ∧ ((t.nodes.drop i).all fun n => nodeB n t.nodes.length) = false)
  | 0, i, hf, _ => absurd hf (by omega)
  | f + 1, i, hf, hi => by
    unfold ref01_Valid.l0
    by_cases h : i < t.nodes.length
    · have hx : ix t.nodes (i : Int) = some t.nodes[i] := by unfold ix; rw [if_pos (by omega)]; simp [h]
      rw [if_pos (by simp only [decide_eq_true_eq]; omega), hx, Option.bind_some, right_spec hm, Option.bind_some, List.drop_eq_getElem_cons h, List.all_cons]
      cases hb : nodeB t.nodes[i] t.nodes.length with
      | false => exact ⟨_, rfl, .inr ⟨rfl, rfl⟩⟩
      | true =>
        obtain ⟨o, k1, k2⟩ := rvalid_l0 (m := m) hm hl f (i + 1) (by omega) (by omega)
        rw [if_neg (by simp), i64_id (by omega) (by omega), show (i : Int) + 1 = ((i + 1 : Nat) : Int) by omega, k1]
        exact ⟨o, rfl, by simpa using k2⟩
    · refine ⟨_, by rw [if_neg (by simp only [decide_eq_true_eq]; omega)], .inl ⟨⟨_, rfl⟩, ?_⟩⟩
      rw [List.drop_eq_nil_of_le (by omega)]; rfl
theorem rvalid_spec {m : Nat} (hm : 2 ^ 30 ≤ m) (t : VTree) : ref01_Valid.f m t = some (validB t) := by
  have p30 : (2 : Nat) ^ 30 = 1073741824 := by decide
  unfold ref01_Valid.f validB
  by_cases h1 : 1 ≤ t.nodes.length
  · rw [if_neg (by simp only [decide_eq_true_eq]; omega), decide_eq_true h1]
    by_cases h2 : t.nodes.length ≤ 8000
    · rw [if_neg (by simp only [decide_eq_true_eq]; omega), decide_eq_true h2]
      by_cases h3 : 0 ≤ t.root
      · rw [if_neg (by simp only [decide_eq_true_eq]; omega), decide_eq_true h3]
        by_cases h4 : t.root < t.nodes.length
        · rw [if_neg (by simp only [decide_eq_true_eq]; omega), decide_eq_true h4]
          obtain ⟨o, k1, k2⟩ := rvalid_l0 (m := m) (t := t) (by omega) h2 m 0 (by omega) (by omega)
          have k1 : ref01_Valid.l0 m t m 0 = _ := k1
          rw [List.drop_zero] at k2
          rw [k1, Option.bind_some]
          simp only [Bool.true_and]
          rcases k2 with ⟨⟨x, rfl⟩, k⟩ | ⟨rfl, k⟩
          · rw [k]
          · rw [k]
        · rw [if_pos (by simp only [decide_eq_true_eq]; omega), decide_eq_false h4]; rfl
      · rw [if_pos (by simp only [decide_eq_true_eq]; omega), decide_eq_false h3]; rfl
    · rw [if_pos (by simp only [decide_eq_true_eq]; omega), decide_eq_false h2]; rfl
  · rw [if_pos (by simp only [decide_eq_true_eq]; omega), decide_eq_false h1]; rfl
end Go.Proofs.YtmekcfdllhphlaaDoor

namespace Go.Proofs.YtmekcfdllhphlaaDoor
open Go Go.R
open Go.IntKind (i64 u64 u8 u32)
theorem bl_irr : ∀ (x : List UInt8), Op.bytesLess x x = false
  | [] => rfl
  | a :: x => by simp [Op.bytesLess, bl_irr x]
theorem bl_asym : ∀ (x y : List UInt8), Op.bytesLess x y = true → Op.bytesLess y x = false
  | _, [], h => by cases ‹List UInt8› <;> simp [Op.bytesLess] at h
  | [], b :: y, _ => rfl
  | a :: x, b :: y, h => by
    simp only [Op.bytesLess, Bool.or_eq_true, Bool.and_eq_true, decide_eq_true_eq, beq_iff_eq] at h
    simp only [Op.bytesLess, Bool.or_eq_false_iff, Bool.and_eq_false_iff, decide_eq_false_iff_not, beq_eq_false_iff_ne]
    rcases h with h | ⟨rfl, h⟩
    · refine ⟨fun h2 => ?_, .inl fun e => ?_⟩
      · rw [UInt8.lt_iff_toNat_lt] at h h2; omega
      · subst e; rw [UInt8.lt_iff_toNat_lt] at h; omega
    · exact ⟨by rw [UInt8.lt_iff_toNat_lt]; omega, .inr (bl_asym x y h)⟩
theorem bl_tri : ∀ (x y : List UInt8), Op.bytesLess x y = true ∨ x = y ∨ Op.bytesLess y x = true
  | [], [] => .inr (.inl rfl)
  | [], b :: y => .inl rfl
  | a :: x, [] => .inr (.inr rfl)
  | a :: x, b :: y => by
    simp only [Op.bytesLess, Bool.or_eq_true, Bool.and_eq_true, decide_eq_true_eq, beq_iff_eq, List.cons.injEq]
    rcases Nat.lt_trichotomy a.toNat b.toNat with h | h | h
    · exact .inl (.inl (UInt8.lt_iff_toNat_lt.2 h))
    · have : a = b := UInt8.toNat_inj.1 h
      subst this
      rcases bl_tri x y with h1 | h1 | h1
      · exact .inl (.inr ⟨rfl, h1⟩)
      · exact .inr (.inl ⟨rfl, h1⟩)
      · exact .inr (.inr (.inr ⟨rfl, h1⟩))
    · exact .inr (.inr (.inl (UInt8.lt_iff_toNat_lt.2 h)))
theorem bl_trans : ∀ (x y z : List UInt8), Op.bytesLess x y = true → Op.bytesLess y z = true → Op.bytesLess x z = true
  | _, _, [], _, h => by cases ‹List UInt8› <;> simp [Op.bytesLess] at h
  | _, [], c :: z, h, _ => by cases ‹List UInt8› <;> simp [Op.bytesLess] at h
  | [], b :: y, c :: z, _, _ => rfl
  | a :: x, b :: y, c :: z, h1, h2 => by
    simp only [Op.bytesLess, Bool.or_eq_true, Bool.and_eq_true, decide_eq_true_eq, beq_iff_eq] at h1 h2 ⊢
    rcases h1 with h1 | ⟨rfl, h1⟩
    · rcases h2 with h2 | ⟨rfl, h2⟩
      · left; rw [UInt8.lt_iff_toNat_lt] at *; omega
      · exact .inl h1
    · rcases h2 with h2 | ⟨rfl, h2⟩
      · exact .inl h2
      · exact .inr ⟨rfl, bl_trans x y z h1 h2⟩
theorem ba_ext {x y : ByteArray} (h : x.data.toList = y.data.toList) : x = y := by
  cases x with | mk a => cases y with | mk b => cases a; cases b; simp only at h; subst h; rfl
structure Lin {α : Type} (c : α → α → Int) : Prop where
  zero : ∀ x y, c x y = 0 → x = y
  refl : ∀ x, c x x = 0
  neg : ∀ x y, c y x = - c x y
  tr : ∀ x y z, c x y ≤ 0 → c y z ≤ 0 → c x z ≤ 0
theorem lin_cI : Lin cI := by
  refine ⟨fun x y h => ?_, fun x => ?_, fun x y => ?_, fun x y z h1 h2 => ?_⟩
  · unfold cI at h; split at h
    · omega
    · split at h <;> omega
  · unfold cI; simp
  · unfold cI; split <;> split <;> (try split) <;> omega
  · unfold cI at *
    split at h1 <;> split at h2 <;> (try split at h1) <;> (try split at h2) <;> (try omega) <;> split <;> (try split) <;> omega
theorem cS_eq (x y : ByteArray) : cS x y = if Op.bytesLess x.data.toList y.data.toList = true then -1 else if x = y then 0 else 1 := by
  unfold cS strLe
  cases h : Op.bytesLess x.data.toList y.data.toList with
  | true => rfl
  | false =>
    simp only [Bool.false_or, Bool.false_eq_true, if_false]
    by_cases e : x = y
    · subst e; simp
    · rw [if_neg e]
      have : (x.data.toList == y.data.toList) = false := by
        rw [beq_eq_false_iff_ne]; exact fun h => e (ba_ext h)
      rw [this]; rfl
theorem lin_cS : Lin cS := by
  refine ⟨fun x y h => ?_, fun x => ?_, fun x y => ?_, fun x y z h1 h2 => ?_⟩
  · rw [cS_eq] at h
    split at h
    · omega
    · split at h
      · assumption
      · omega
  · rw [cS_eq, bl_irr]; simp
  · rw [cS_eq, cS_eq]
    rcases bl_tri x.data.toList y.data.toList with h | h | h
    · have h2 := bl_asym _ _ h
      have hne : ¬ y = x := fun e => by subst e; rw [bl_irr] at h; cases h
      rw [if_pos h, h2]; simp [hne]
    · have := ba_ext h
      subst this
      rw [bl_irr]; simp
    · have h2 := bl_asym _ _ h
      have hne : ¬ x = y := fun e => by subst e; rw [bl_irr] at h; cases h
      rw [if_pos h, h2]; simp [hne]
  · rw [cS_eq] at h1 h2 ⊢
    split at h1
    · rename_i g1
      split at h2
      · rename_i g2
        rw [if_pos (bl_trans _ _ _ g1 g2)]; omega
      · split at h2
        · rename_i e; subst e; rw [if_pos g1]; omega
        · omega
    · split at h1
      · rename_i e; subst e
        split at h2
        · rename_i g2; rw [if_pos g2]; omega
        · split at h2
          · rename_i g e; rw [if_neg g, if_pos e]; omega
          · omega
      · omega
theorem lin_or {α β : Type} {c : α → α → Int} {d : β → β → Int} (C : Lin c) (D : Lin d) : Lin fun (p q : α × β) => cOr (c p.1 q.1) (d p.2 q.2) := by
  refine ⟨fun x y h => ?_, fun x => ?_, fun x y => ?_, fun x y z h1 h2 => ?_⟩
  · unfold cOr at h
    split at h
    · rename_i h1; exact Prod.ext (C.zero _ _ h1) (D.zero _ _ h)
    · exact absurd h ‹_›
  · unfold cOr; rw [C.refl, if_pos rfl, D.refl]
  · skip
    unfold cOr
    have := C.neg x.1 y.1
    by_cases h : c x.1 y.1 = 0
    · rw [if_pos h, if_pos (by omega), D.neg]
    · rw [if_neg h, if_neg (by omega), C.neg]
  · skip
    unfold cOr at *
    by_cases a : c x.1 y.1 = 0
    · rw [if_pos a] at h1
      have e := C.zero _ _ a
      rw [← e] at h2
      by_cases b : c x.1 z.1 = 0
      · rw [if_pos b] at h2 ⊢; exact D.tr _ _ _ h1 h2
      · rw [if_neg b] at h2 ⊢; exact h2
    · rw [if_neg a] at h1
      have hz : c x.1 z.1 ≤ 0 := by
        by_cases b : c y.1 z.1 = 0
        · rw [← C.zero _ _ b]; exact h1
        · rw [if_neg b] at h2; exact C.tr _ _ _ h1 h2
      have hne : c x.1 z.1 ≠ 0 := fun e => by
        have e1 := C.zero _ _ e
        by_cases b : c y.1 z.1 = 0
        · have e2 := C.zero _ _ b; rw [e1, ← e2] at a; exact a (C.refl _)
        · rw [if_neg b, ← e1] at h2
          have := C.neg x.1 y.1; omega
      rw [if_neg hne]; exact hz
theorem lin_t : Lin fun (p q : Int × ByteArray) => cOr (cI p.1 q.1) (cS p.2 q.2) := lin_or lin_cI lin_cS
theorem lin_o : Lin fun (p q : ByteArray × Int) => cOr (cS p.1 q.1) (cI p.2 q.2) := lin_or lin_cS lin_cI
theorem cT_same {a b : VNode} (h : a.kind = b.kind) : cT a b = if a.kind = 3 then cOr (cI a.args.length b.args.length) (cS a.label b.label) else cOr (cS a.label b.label) (cI a.int b.int) := by unfold cT; rw [if_pos h]
theorem cT_diff {a b : VNode} (h : a.kind ≠ b.kind) : cT a b = cI a.kind b.kind := by unfold cT; rw [if_neg h]
theorem cT_neg (a b : VNode) : cT b a = - cT a b := by
  by_cases h : a.kind = b.kind
  · rw [cT_same h, cT_same h.symm, ← h]
    split
    · exact lin_t.neg ((a.args.length : Int), a.label) ((b.args.length : Int), b.label)
    · exact lin_o.neg (a.label, a.int) (b.label, b.int)
  · rw [cT_diff h, cT_diff (Ne.symm h)]; exact lin_cI.neg _ _
theorem cT_tr (a b c : VNode) (h1 : cT a b ≤ 0) (h2 : cT b c ≤ 0) : cT a c ≤ 0 := by
  by_cases e1 : a.kind = b.kind
  · by_cases e2 : b.kind = c.kind
    · rw [cT_same e1] at h1
      rw [cT_same e2, ← e1] at h2
      rw [cT_same (e1.trans e2)]
      split
      · rename_i h3; rw [if_pos h3] at h1 h2
        exact lin_t.tr ((a.args.length : Int), a.label) ((b.args.length : Int), b.label) ((c.args.length : Int), c.label) h1 h2
      · rename_i h3; rw [if_neg h3] at h1 h2
        exact lin_o.tr (a.label, a.int) (b.label, b.int) (c.label, c.int) h1 h2
    · rw [cT_diff e2] at h2
      rw [cT_diff (by rw [e1]; exact e2), e1]; exact h2
  · rw [cT_diff e1] at h1
    by_cases e2 : b.kind = c.kind
    · rw [cT_diff (by rw [← e2]; exact e1), ← e2]; exact h1
    · rw [cT_diff e2] at h2
      have n1 : cI a.kind b.kind ≠ 0 := fun h => e1 (lin_cI.zero _ _ h)
      have n2 : cI b.kind c.kind ≠ 0 := fun h => e2 (lin_cI.zero _ _ h)
      by_cases e3 : a.kind = c.kind
      · rw [← e3] at h2
        have := lin_cI.neg a.kind b.kind
        omega
      · rw [cT_diff e3]; exact lin_cI.tr _ _ _ h1 h2
structure Alike (a b : VNode) : Prop where
  kind : a.kind = b.kind
  int : a.int = b.int
  label : a.label = b.label
  len : a.args.length = b.args.length
theorem Alike.refl (a : VNode) : Alike a a := ⟨rfl, rfl, rfl, rfl⟩
theorem Alike.symm {a b : VNode} (h : Alike a b) : Alike b a := ⟨h.1.symm, h.2.symm, h.3.symm, h.4.symm⟩
theorem Alike.trans {a b c : VNode} (h : Alike a b) (k : Alike b c) : Alike a c := ⟨h.1.trans k.1, h.2.trans k.2, h.3.trans k.3, h.4.trans k.4⟩
theorem Alike.cT {a b : VNode} (h : Alike a b) : cT a b = 0 := by
  rw [cT_same h.kind]
  split
  · rw [h.len, h.label]; exact lin_t.refl ((b.args.length : Int), b.label)
  · rw [h.label, h.int]; exact lin_o.refl (b.label, b.int)
theorem alike_of {a b : VNode} (h : cT a b = 0) (ha : a.kind = 3 → a.int = 0) (hb : b.kind = 3 → b.int = 0) (ha2 : a.kind ≠ 3 → a.args = []) (hb2 : b.kind ≠ 3 → b.args = []) : Alike a b := by
  by_cases e : a.kind = b.kind
  · rw [cT_same e] at h
    split at h
    · rename_i h3
      have := lin_t.zero ((a.args.length : Int), a.label) ((b.args.length : Int), b.label) h
      simp only [Prod.mk.injEq] at this
      exact ⟨e, by rw [ha h3, hb (by rw [← e]; exact h3)], this.2, by omega⟩
    · rename_i h3
      have := lin_o.zero (a.label, a.int) (b.label, b.int) h
      simp only [Prod.mk.injEq] at this
      exact ⟨e, this.2, this.1, by rw [ha2 h3, hb2 (by rw [← e]; exact h3)]⟩
  · rw [cT_diff e] at h
    exact absurd (lin_cI.zero _ _ h) e
theorem cT_ord (l : List VNode) (s : List Int) : Ord (fun x y => cT (nd l x) (nd l y)) s := by
  refine ⟨fun x _ y _ z _ h1 h2 => ?_, fun x _ y _ h => ?_⟩
  · skip
    have a1 := cT_neg (nd l x) (nd l y)
    have a2 := cT_neg (nd l y) (nd l z)
    have a3 := cT_neg (nd l x) (nd l z)
    have := cT_tr (nd l x) (nd l y) (nd l z) (by omega) (by omega)
    omega
  · skip
    have a1 := cT_neg (nd l x) (nd l y)
    omega
end Go.Proofs.YtmekcfdllhphlaaDoor

namespace Go.Proofs.YtmekcfdllhphlaaDoor
open Go Go.R
open Go.IntKind (i64 u64 u8 u32)
structure Bis (l : List VNode) (R : Nat → Nat → Prop) : Prop where
  rng : ∀ i j, R i j → i < l.length ∧ j < l.length
  top : ∀ i j, R i j → Alike (nd l i) (nd l j)
  arg : ∀ i j, R i j → ∀ k, k < (nd l i).args.length → R (gt (nd l i).args k).toNat (gt (nd l j).args k).toNat
structure Min (l : List VNode) (r : List Int) : Prop where
  len : r.length = l.length
  top : ∀ i j, i < l.length → j < l.length → gt r i = gt r j → Alike (nd l i) (nd l j)
  arg : ∀ i j, i < l.length → j < l.length → gt r i = gt r j → ∀ k, k < (nd l i).args.length → gt r (gt (nd l i).args k).toNat = gt r (gt (nd l j).args k).toNat
  max : ∀ R, Bis l R → ∀ i j, R i j → gt r i = gt r j
theorem cT_refl (a : VNode) : cT a a = 0 := (Alike.refl a).cT
theorem cT_zero_trans {a b c : VNode} (h1 : cT a b = 0) (h2 : cT b c = 0) : cT a c = 0 := by
  have n1 := cT_neg a b
  have n2 := cT_neg b c
  have n3 := cT_neg a c
  have t1 := cT_tr a b c (by omega) (by omega)
  have t2 := cT_tr c b a (by omega) (by omega)
  omega
theorem rk_zero {l : List VNode} {d : List Int} {k : Nat} : ∀ j, k ≤ j → rk l d k = rk l d j → cT (nd l (gt d k)) (nd l (gt d j)) = 0
  | 0, h, _ => by have : k = 0 := by omega
                  subst this; exact cT_refl _
  | j + 1, h, e => by
    by_cases hk : k = j + 1
    · subst hk; exact cT_refl _
    · have m1 := rk_mono l d k j (by omega)
      have e2 : rk l d (j + 1) = rk l d j + if cT (nd l (gt d j)) (nd l (gt d (j + 1))) = 0 then 0 else 1 := rfl
      by_cases hc : cT (nd l (gt d j)) (nd l (gt d (j + 1))) = 0
      · rw [if_pos hc] at e2
        exact cT_zero_trans (rk_zero j (by omega) (by omega)) hc
      · rw [if_neg hc] at e2; omega
theorem zero_rk {l : List VNode} {d : List Int} {n : Nat} (S : Sg (fun x y => cT (nd l x) (nd l y)) d 0 n) {k q : Nat} (hq : q < n) (h0 : cT (nd l (gt d k)) (nd l (gt d q)) = 0) : ∀ j, k ≤ j → j ≤ q → rk l d j = rk l d k
  | 0, h, _ => by have : k = 0 := by omega
                  subst this; rfl
  | j + 1, h, hj => by
    by_cases hk : k = j + 1
    · subst hk; rfl
    · have ih := zero_rk S hq h0 j (by omega) (by omega)
      have le1 : cT (nd l (gt d k)) (nd l (gt d j)) ≤ 0 := by
        by_cases e : k = j
        · subst e; rw [cT_refl]; omega
        · have : 0 ≤ cT (nd l (gt d j)) (nd l (gt d k)) := S k j (by omega) (by omega) (by omega)
          have n := cT_neg (nd l (gt d k)) (nd l (gt d j))
          omega
      have le2 : cT (nd l (gt d (j + 1))) (nd l (gt d q)) ≤ 0 := by
        by_cases e : j + 1 = q
        · subst e; rw [cT_refl]; omega
        · have : 0 ≤ cT (nd l (gt d q)) (nd l (gt d (j + 1))) := S (j + 1) q (by omega) (by omega) hq
          have n := cT_neg (nd l (gt d (j + 1))) (nd l (gt d q))
          omega
      have le3 : cT (nd l (gt d q)) (nd l (gt d k)) ≤ 0 := by have n := cT_neg (nd l (gt d k)) (nd l (gt d q)); omega
      have le4 := cT_tr _ _ _ (cT_tr _ _ _ le2 le3) le1
      have s1 := S j (j + 1) (by omega) (by omega) (by omega)
      have n := cT_neg (nd l (gt d j)) (nd l (gt d (j + 1)))
      have hz : cT (nd l (gt d j)) (nd l (gt d (j + 1))) = 0 := by
        have s1 : 0 ≤ cT (nd l (gt d (j + 1))) (nd l (gt d j)) := s1
        omega
      show rk l d j + (if cT (nd l (gt d j)) (nd l (gt d (j + 1))) = 0 then 0 else 1) = _
      rw [if_pos hz, ih]; rfl
def InvC (l : List VNode) (out : List Int) : Prop := (∀ i j, i < l.length → j < l.length → gt out i = gt out j → cT (nd l i) (nd l j) = 0) ∧ ∀ R, Bis l R → ∀ i j, R i j → gt out i = gt out j
theorem inv_start {l : List VNode} {d out : List Int} (hp : d.Perm (ints l.length)) (hs : Ord (fun x y => cT (nd l x) (nd l y)) (ints l.length) → Sg (fun x y => cT (nd l x) (nd l y)) d 0 l.length) (hg : ∀ k, k < l.length → gt out (gt d k).toNat = rk l d k) : InvC l out := by
  have S := hs (cT_ord _ _)
  have hdl : d.length = l.length := by rw [hp.length_eq, ints_length]
  have pos : ∀ i, i < l.length → ∃ k, k < l.length ∧ gt d k = i ∧ gt out i = rk l d k := fun i hi => by
    obtain ⟨k, hk, e⟩ := gt_of_mem (hp.mem_iff.2 (mem_ints.2 (show 0 ≤ (i : Int) ∧ (i : Int) < l.length by omega)))
    have := hg k (by omega)
    rw [e, Int.toNat_natCast] at this
    exact ⟨k, by omega, e, this⟩
  refine ⟨fun i j hi hj e => ?_, fun R B i j hR => ?_⟩
  · obtain ⟨k, hk, ek, rk1⟩ := pos i hi
    obtain ⟨q, hq, eq, rk2⟩ := pos j hj
    rw [rk1, rk2] at e
    rw [← ek, ← eq]
    rcases Nat.le_total k q with h | h
    · exact rk_zero q h (by omega)
    · have := rk_zero (l := l) (d := d) k h (by omega)
      have n := cT_neg (nd l (gt d k)) (nd l (gt d q))
      omega
  · obtain ⟨hi, hj⟩ := B.rng i j hR
    obtain ⟨k, hk, ek, rk1⟩ := pos i hi
    obtain ⟨q, hq, eq, rk2⟩ := pos j hj
    have h0 := (B.top i j hR).cT
    rw [← ek, ← eq] at h0
    rw [rk1, rk2]
    rcases Nat.le_total k q with h | h
    · rw [zero_rk S hq h0 q h (Nat.le_refl _)]
    · have n := cT_neg (nd l (gt d k)) (nd l (gt d q))
      rw [zero_rk S hk (by omega) k h (Nat.le_refl _)]
theorem key_args {l : List VNode} (ok : Okl l) {out : List Int} {i j : Nat} (h1 : (nd l i).args.length = (nd l j).args.length) (e : key out (nd l i) i = key out (nd l j) j) : gt out i = gt out j ∧ ∀ k, k < (nd l i).args.length → gt out (gt (nd l i).args k).toNat = gt out (gt (nd l j).args k).toNat := by
  unfold key at e
  have e1 := List.cons.inj e
  refine ⟨by omega, fun k hk => ?_⟩
  have e2 := e1.2
  rw [h1] at e2
  have e3 := List.append_cancel_right e2
  have e4 := congrArg (fun z => z[k]?) e3
  simp only [List.getElem?_map] at e4
  rw [gt_some hk, gt_some (by omega)] at e4
  simp only [Option.map_some, Option.some.injEq] at e4
  omega
theorem inv_next {l : List VNode} (ok : Okl l) (out : List Int) (many : Nat) (ks : List (List Int)) (next : List Int) (P : Part l.length out many) (I : InvC l out) (K : Keys l out l.length ks) (hn : next.length = l.length)
    (hg : ∀ i, i < l.length → gt next i = (ks.idxOf (key out (nd l i) i) : Int)) : InvC l next := by
  refine ⟨fun i j hi hj e => ?_, fun R B i j hR => ?_⟩
  · rw [hg i hi, hg j hj] at e
    have e : ks.idxOf (key out (nd l i) i) = ks.idxOf (key out (nd l j) j) := by omega
    have m1 := List.idxOf_lt_length_of_mem ((K.mem _).2 ⟨i, hi, rfl⟩)
    have m2 := List.idxOf_lt_length_of_mem ((K.mem _).2 ⟨j, hj, rfl⟩)
    have g1 := List.getElem_idxOf m1
    have g2 := List.getElem_idxOf m2
    have g3 : key out (nd l i) i = key out (nd l j) j := by rw [← g1, ← g2]; congr 1
    exact I.1 i j hi hj (by have := (List.cons.inj g3).1; omega)
  · obtain ⟨hi, hj⟩ := B.rng i j hR
    rw [hg i hi, hg j hj]
    have hk : key out (nd l i) i = key out (nd l j) j := by
      have hl := (B.top i j hR).len
      unfold key
      rw [I.2 R B i j hR, hl]
      congr 2
      apply List.ext_getElem? fun k => ?_
      simp only [List.getElem?_map]
      by_cases h : k < (nd l i).args.length
      · rw [gt_some h, gt_some (by omega)]
        simp only [Option.map_some, Option.some.injEq]
        rw [I.2 R B _ _ (B.arg i j hR k h)]
      · rw [List.getElem?_eq_none (by omega), List.getElem?_eq_none (by omega)]
    rw [hk]
theorem stable {l : List VNode} {r : List Int} {many : Nat} {ks : List (List Int)} (P : Part l.length r many) (K : Keys l r l.length ks) (hks : ks.length = many + 1) {i j : Nat} (hi : i < l.length) (hj : j < l.length) (e : gt r i = gt r j) : key r (nd l i) i = key r (nd l j) j := by
  by_cases hne : key r (nd l i) i = key r (nd l j) j
  · exact hne
  · exfalso
    have hmi := (K.mem _).2 ⟨i, hi, rfl⟩
    have hmj := (K.mem _).2 ⟨j, hj, rfl⟩
    have hn : ((List.range (many + 1)).map fun v : Nat => ((v : Int) + 1)).Nodup := by
      unfold List.Nodup
      rw [List.pairwise_map]
      exact List.Pairwise.imp (fun h => by omega) List.nodup_range
    have := hn.length_le_of_subset (l₂ := (ks.erase (key r (nd l j) j)).map fun k => k.headD 0) (fun x hx => by
      obtain ⟨v, hv, rfl⟩ := List.mem_map.1 hx
      obtain ⟨q, hq, h⟩ := P.sur v (by have := List.mem_range.1 hv; omega)
      by_cases hqj : key r (nd l q) q = key r (nd l j) j
      · refine List.mem_map.2 ⟨key r (nd l i) i, (List.mem_erase_of_ne hne).2 hmi, ?_⟩
        have h1 := (List.cons.inj hqj).1
        simp [key, e]
        omega
      · exact List.mem_map.2 ⟨_, (List.mem_erase_of_ne hqj).2 ((K.mem _).2 ⟨q, hq, rfl⟩), by simp [key, h]⟩)
    rw [List.length_map, List.length_map, List.length_range, List.length_erase_of_mem hmj] at this
    omega
theorem top_alike {l : List VNode} (hT : ∀ n ∈ l, Top n) {i j : Nat} (hi : i < l.length) (hj : j < l.length) (h : cT (nd l i) (nd l j) = 0) : Alike (nd l i) (nd l j) := by
  have Ti := hT _ (nd_mem (i := (i : Int)) (by omega) (by omega))
  have Tj := hT _ (nd_mem (i := (j : Int)) (by omega) (by omega))
  have a3 : ∀ {n : VNode}, Top n → n.kind = 3 → n.int = 0 := fun T h => by rcases T.kind with z | z | z | z | z <;> (have := z.1; first | omega | exact z.2)
  have a0 : ∀ {n : VNode}, Top n → n.kind ≠ 3 → n.args = [] := fun T h => by
    rcases T.kind with z | z | z | z | z
    · exact z.2.2.2
    · exact z.2.2.2
    · exact z.2.2
    · exact absurd z.1 h
    · exact z.2
  exact alike_of h (a3 Ti) (a3 Tj) (a0 Ti) (a0 Tj)
theorem prog_least {m : Nat} (hm : 2 ^ 41 ≤ m) {t : VTree} (h : validB t = true) :
    ∃ cls ns, tree_least.f m t = some ⟨ns, 0⟩ ∧ Min t.nodes cls ∧ Ps cls t.nodes [] (dfs cls t.nodes m t.root []) [] ns ∧ cla cls t.root ∈ (dfs cls t.nodes m t.root []).map (cla cls) := by
  obtain ⟨ok, h1, r0, r1, hT⟩ := validB_ok h
  obtain ⟨cls, many, ks, ns, e, P, I, K, hks, Q, hr⟩ := least_spec hm ok h1 r0 r1 (InvC t.nodes) (fun d out hp hs hg => inv_start hp hs hg) (fun out many ks next P I K hn hg => inv_next ok out many ks next P I K hn hg)
  refine ⟨cls, ns, e, ⟨P.len, fun i j hi hj e => top_alike hT hi hj (I.1 i j hi hj e), fun i j hi hj e k hk => ?_, I.2⟩, Q, hr⟩
  have hA := top_alike hT hi hj (I.1 i j hi hj e)
  exact (key_args ok hA.len (stable P K hks hi hj e)).2 k hk
end Go.Proofs.YtmekcfdllhphlaaDoor

namespace Go.Proofs.YtmekcfdllhphlaaDoor
open Go Go.R
open Go.IntKind (i64 u64 u8 u32)
def gb (l : List Bool) (k : Nat) : Bool := l.getD k false
theorem gb_some {l : List Bool} {k : Nat} (h : k < l.length) : l[k]? = some (gb l k) := by
  unfold gb; rw [List.getD_eq_getElem?_getD, List.getElem?_eq_getElem h]; rfl
theorem ix_gb {l : List Bool} {i : Int} (h0 : 0 ≤ i) (h : i.toNat < l.length) : ix l i = some (gb l i.toNat) := by
  unfold ix; rw [if_pos h0, gb_some h]
theorem gb_set {l : List Bool} {i k : Nat} {x : Bool} (hi : i < l.length) : gb (l.set i x) k = if k = i then x else gb l k := by
  unfold gb
  simp only [List.getD_eq_getElem?_getD, List.getElem?_set]
  by_cases h : i = k
  · subst h; simp [hi]
  · rw [if_neg h, if_neg (by omega)]
def ar (l : List VNode) (i k : Nat) : Nat := (gt (nd l i).args k).toNat
def na (l : List VNode) (i : Nat) : Nat := (nd l i).args.length
theorem ar_lt {l : List VNode} (ok : Okl l) {i k : Nat} (hi : i < l.length) (hk : k < na l i) : ar l i k < l.length ∧ gt (nd l i).args k = (ar l i k : Int) := by
  obtain ⟨h0, h1⟩ := (nd_ok ok hi).2 _ (gt_mem (l := (nd l i).args) (k := k) hk)
  unfold ar; omega
theorem na_le {l : List VNode} (ok : Okl l) {i : Nat} (hi : i < l.length) : na l i ≤ 8 := (nd_ok ok hi).1
theorem alike_spec {m : Nat} (a b : VNode) : ∃ x, ref01_alike.f m a b = some x ∧ (x = true ↔ Alike a b) := by
  unfold ref01_alike.f
  by_cases h1 : a.kind = b.kind
  · rw [if_pos (by simpa using h1)]
    by_cases h2 : a.int = b.int
    · rw [if_pos (by simpa using h2)]
      by_cases h3 : a.label = b.label
      · rw [if_pos (by rw [h3]; simp)]
        refine ⟨_, rfl, ⟨fun h => ⟨h1, h2, h3, by have := beq_iff_eq.1 h; omega⟩, fun h => by have := h.len; rw [beq_iff_eq]; omega⟩⟩
      · rw [if_neg (fun h => h3 (ba_ext (by simpa using h)))]
        exact ⟨_, rfl, ⟨fun h => (by cases h), fun h => absurd h.label h3⟩⟩
    · rw [if_neg (by simpa using h2)]
      exact ⟨_, rfl, ⟨fun h => (by cases h), fun h => absurd h.int h2⟩⟩
  · rw [if_neg (by simpa using h1)]
    exact ⟨_, rfl, ⟨fun h => (by cases h), fun h => absurd h.kind h1⟩⟩
def SA (l : List VNode) (c : List Int) (i j : Nat) : Prop := ∀ k, k < na l i → gt c (ar l i k) = gt c (ar l j k)
theorem sa_l0 {m : Nat} {l : List VNode} {c : List Int} (ok : Okl l) (hc : c.length = l.length) {i j : Nat} (hi : i < l.length) (hj : j < l.length) (hl : na l i = na l j) : ∀ (f k : Nat), na l i - k < f → k ≤ na l i →
    ∃ o, ref01_sameArgs.l0 m (nd l i) (nd l j) c f (k : Int) = some o ∧ ((∃ x, o = .inr x) ∧ (∀ q, k ≤ q → q < na l i → gt c (ar l i q) = gt c (ar l j q)) ∨ o = .inl false ∧ ∃ q, q < na l i ∧ gt c (ar l i q) ≠ gt c (ar l j q))
  | 0, k, hf, _ => absurd hf (by omega)
  | f + 1, k, hf, hk => by
    have h8 := na_le ok hi
    unfold ref01_sameArgs.l0
    by_cases h : k < na l i
    · obtain ⟨a1, a2⟩ := ar_lt ok hi h
      obtain ⟨b1, b2⟩ := ar_lt ok hj (show k < na l j by omega)
      have e1 : ix c (gt (nd l i).args k) = some (gt c (ar l i k)) := ix_gt' a2 (by omega)
      have e2 : ix c (gt (nd l j).args k) = some (gt c (ar l j k)) := ix_gt' b2 (by omega)
      rw [if_pos (by simp only [decide_eq_true_eq]; unfold na at h; omega), ix_gt (l := (nd l i).args) h, Option.bind_some, e1, Option.bind_some, ix_gt (l := (nd l j).args) (show k < (nd l j).args.length by unfold na at hl h; omega), Option.bind_some, e2, Option.bind_some]
      by_cases e : gt c (ar l i k) = gt c (ar l j k)
      · obtain ⟨o, k1, k2⟩ := sa_l0 (m := m) ok hc hi hj hl f (k + 1) (by omega) (by omega)
        rw [if_neg (by simp [e]), i64_id (by omega) (by omega), show (k : Int) + 1 = ((k + 1 : Nat) : Int) by omega, k1]
        refine ⟨o, rfl, k2.imp (fun ⟨x, y⟩ => ⟨x, fun q q1 q2 => ?_⟩) id⟩
        by_cases hq : q = k
        · subst hq; exact e
        · exact y q (by omega) q2
      · rw [if_pos (by simpa using e)]
        exact ⟨_, rfl, .inr ⟨rfl, k, h, e⟩⟩
    · refine ⟨_, by rw [if_neg (by simp only [decide_eq_true_eq]; unfold na at h; omega)], .inl ⟨⟨_, rfl⟩, fun q q1 q2 => absurd q2 (by omega)⟩⟩
theorem sa_spec {m : Nat} (hm : 2 ^ 30 ≤ m) {l : List VNode} {c : List Int} (ok : Okl l) (hc : c.length = l.length) {i j : Nat} (hi : i < l.length) (hj : j < l.length) (hl : na l i = na l j) : ∃ x, ref01_sameArgs.f m (nd l i) (nd l j) c = some x ∧ (x = true ↔ SA l c i j) := by
  have p30 : (2 : Nat) ^ 30 = 1073741824 := by decide
  have h8 := na_le ok hi
  obtain ⟨o, k1, k2⟩ := sa_l0 (m := m) ok hc hi hj hl m 0 (by omega) (by omega)
  have k1 : ref01_sameArgs.l0 m (nd l i) (nd l j) c m 0 = _ := k1
  unfold ref01_sameArgs.f
  rw [k1, Option.bind_some]
  rcases k2 with ⟨⟨x, rfl⟩, k⟩ | ⟨rfl, q, q1, q2⟩
  · exact ⟨true, rfl, ⟨fun _ k0 hk => k k0 (by omega) hk, fun _ => rfl⟩⟩
  · exact ⟨false, rfl, ⟨fun h => (by cases h), fun h => absurd (h q q1) q2⟩⟩
def Rdy (l : List VNode) (dn : List Bool) (i : Nat) : Prop := ∀ k, k < na l i → gb dn (ar l i k) = true
theorem rdy_l0 {m : Nat} {l : List VNode} {dn : List Bool} (ok : Okl l) (hd : dn.length = l.length) {i : Nat} (hi : i < l.length) : ∀ (f k : Nat), na l i - k < f → k ≤ na l i →
    ∃ o, ref01_ready.l0 m (nd l i) dn f (k : Int) = some o ∧ ((∃ x, o = .inr x) ∧ (∀ q, k ≤ q → q < na l i → gb dn (ar l i q) = true) ∨ o = .inl false ∧ ∃ q, q < na l i ∧ gb dn (ar l i q) = false)
  | 0, k, hf, _ => absurd hf (by omega)
  | f + 1, k, hf, hk => by
    have h8 := na_le ok hi
    unfold ref01_ready.l0
    by_cases h : k < na l i
    · obtain ⟨a1, a2⟩ := ar_lt ok hi h
      have e1 : ix dn (gt (nd l i).args k) = some (gb dn (ar l i k)) := by
        have := ix_gb (l := dn) (i := gt (nd l i).args k) (by omega) (by rw [a2, Int.toNat_natCast]; omega)
        rw [this, a2, Int.toNat_natCast]
      rw [if_pos (by simp only [decide_eq_true_eq]; unfold na at h; omega), ix_gt (l := (nd l i).args) h, Option.bind_some, e1, Option.bind_some]
      cases e : gb dn (ar l i k) with
      | true =>
        obtain ⟨o, k1, k2⟩ := rdy_l0 (m := m) ok hd hi f (k + 1) (by omega) (by omega)
        rw [if_neg (by simp), i64_id (by omega) (by omega), show (k : Int) + 1 = ((k + 1 : Nat) : Int) by omega, k1]
        refine ⟨o, rfl, k2.imp (fun ⟨x, y⟩ => ⟨x, fun q q1 q2 => ?_⟩) id⟩
        by_cases hq : q = k
        · subst hq; exact e
        · exact y q (by omega) q2
      | false => exact ⟨_, rfl, .inr ⟨rfl, k, h, e⟩⟩
    · refine ⟨_, by rw [if_neg (by simp only [decide_eq_true_eq]; unfold na at h; omega)], .inl ⟨⟨_, rfl⟩, fun q q1 q2 => absurd q2 (by omega)⟩⟩
theorem rdy_spec {m : Nat} (hm : 2 ^ 30 ≤ m) {l : List VNode} {dn : List Bool} (ok : Okl l) (hd : dn.length = l.length) {i : Nat} (hi : i < l.length) : ∃ x, ref01_ready.f m (nd l i) dn = some x ∧ (x = true → Rdy l dn i) ∧ (x = false → ∃ q, q < na l i ∧ gb dn (ar l i q) = false) := by
  have p30 : (2 : Nat) ^ 30 = 1073741824 := by decide
  have h8 := na_le ok hi
  obtain ⟨o, k1, k2⟩ := rdy_l0 (m := m) ok hd hi m 0 (by omega) (by omega)
  have k1 : ref01_ready.l0 m (nd l i) dn m 0 = _ := k1
  unfold ref01_ready.f
  rw [k1, Option.bind_some]
  rcases k2 with ⟨⟨x, rfl⟩, k⟩ | ⟨rfl, hq⟩
  · exact ⟨true, rfl, fun _ k0 hk => k k0 (by omega) hk, fun h => by cases h⟩
  · exact ⟨false, rfl, fun h => (by cases h), fun _ => hq⟩
def Sim (l : List VNode) (c : List Int) (i j : Nat) : Prop := Alike (nd l i) (nd l j) ∧ SA l c i j
theorem find_l0 {m : Nat} (hm : 2 ^ 30 ≤ m) {l : List VNode} {c fs : List Int} (ok : Okl l) (hc : c.length = l.length) {i : Nat} (hi : i < l.length) (hf : ∀ f ∈ fs, 0 ≤ f ∧ f < l.length) (hfl : fs.length ≤ 8000) : ∀ (f k : Nat), fs.length - k < f → k ≤ fs.length →
    ∃ o, ref01_find.l0 m l fs (i : Int) c f (k : Int) = some o ∧ ((∃ x, o = .inr x) ∧ (∀ q, k ≤ q → q < fs.length → ¬ Sim l c i (gt fs q).toNat) ∨ ∃ v, o = .inl v ∧ v ∈ fs ∧ Sim l c i v.toNat)
  | 0, k, h, _ => absurd h (by omega)
  | f + 1, k, h, hk => by
    unfold ref01_find.l0
    by_cases hkl : k < fs.length
    · obtain ⟨b0, b1⟩ := hf _ (gt_mem hkl)
      have hgi : ((gt fs k).toNat : Int) = gt fs k := by omega
      obtain ⟨xa, a1, a2⟩ := alike_spec (m := m) (nd l (i : Int)) (nd l (gt fs k))
      have ih := find_l0 hm ok hc hi hf hfl f (k + 1) (by omega) (by omega)
      obtain ⟨o, k1, k2⟩ := ih
      have next : ¬ Sim l c i (gt fs k).toNat → ∃ o', (ref01_find.l0 m l fs (i : Int) c f (i64.wrap ((k : Int) + 1))) = some o' ∧ ((∃ x, o' = .inr x) ∧ (∀ q, k ≤ q → q < fs.length → ¬ Sim l c i (gt fs q).toNat) ∨ ∃ v, o' = .inl v ∧ v ∈ fs ∧ Sim l c i v.toNat) := fun hn => by
        rw [i64_id (by omega) (by omega), show (k : Int) + 1 = ((k + 1 : Nat) : Int) by omega, k1]
        refine ⟨o, rfl, k2.imp (fun ⟨x, y⟩ => ⟨x, fun q q1 q2 => ?_⟩) id⟩
        by_cases hq : q = k
        · subst hq; exact hn
        · exact y q (by omega) q2
      rw [if_pos (by simp only [decide_eq_true_eq]; omega), ix_nd (by omega) (by omega), Option.bind_some, ix_gt hkl, Option.bind_some, ix_nd b0 b1, Option.bind_some, a1, Option.bind_some]
      cases xa with
      | false =>
        rw [if_neg (by simp)]
        refine next fun hs => ?_
        have := a2.2 (by have := hs.1; rw [hgi] at this; exact this)
        cases this
      | true =>
        have hA := a2.1 rfl
        have hl : na l i = na l (gt fs k).toNat := by unfold na; rw [hgi]; exact hA.len
        obtain ⟨xs, s1, s2⟩ := sa_spec hm ok hc hi (j := (gt fs k).toNat) (by omega) hl
        rw [hgi] at s1
        rw [if_pos rfl, Option.bind_some, Option.bind_some, ix_nd b0 b1, Option.bind_some, s1, Option.bind_some]
        cases xs with
        | false =>
          rw [if_neg (by simp)]
          refine next fun hs => ?_
          have := s2.2 hs.2; cases this
        | true =>
          exact ⟨_, rfl, .inr ⟨_, rfl, gt_mem hkl, by rw [hgi]; exact hA, s2.1 rfl⟩⟩
    · exact ⟨_, by rw [if_neg (by simp only [decide_eq_true_eq]; omega)], .inl ⟨⟨_, rfl⟩, fun q q1 q2 => absurd q2 (by omega)⟩⟩
theorem find_spec {m : Nat} (hm : 2 ^ 30 ≤ m) {l : List VNode} {c fs : List Int} (ok : Okl l) (hc : c.length = l.length) {i : Nat} (hi : i < l.length) (hf : ∀ f ∈ fs, 0 ≤ f ∧ f < l.length) (hfl : fs.length ≤ 8000) :
    ∃ v, ref01_find.f m l fs (i : Int) c = some v ∧ (v = i ∧ (∀ f ∈ fs, ¬ Sim l c i f.toNat) ∨ v ∈ fs ∧ Sim l c i v.toNat) := by
  have p30 : (2 : Nat) ^ 30 = 1073741824 := by decide
  obtain ⟨o, k1, k2⟩ := find_l0 hm ok hc hi hf hfl m 0 (by omega) (by omega)
  have k1 : ref01_find.l0 m l fs (i : Int) c m 0 = _ := k1
  unfold ref01_find.f
  rw [k1, Option.bind_some]
  rcases k2 with ⟨⟨x, rfl⟩, k⟩ | ⟨v, rfl, hv, hs⟩
  · refine ⟨_, rfl, .inl ⟨rfl, fun f hf => ?_⟩⟩
    obtain ⟨q, hq, e⟩ := gt_of_mem hf
    rw [← e]; exact k q (by omega) hq
  · exact ⟨v, rfl, .inr ⟨hv, hs⟩⟩
end Go.Proofs.YtmekcfdllhphlaaDoor

