/- Part of the proof: PT7, Q67, PT8, PT9, Q68, Q47, PT10, Q54, Q59, Q43, PR2, Q74. -/
import Derived.Test.YtmekcfdllhphlaaDoorK7
set_option linter.unusedVariables false
set_option linter.unusedSimpArgs false
set_option maxRecDepth 100000
namespace Go.Proofs.YtmekcfdllhphlaaDoor
open Go Go.R
open Go.IntKind (i64 u64 u8 u32)
def validB (t : VTree) : Bool := decide (1 ≤ t.nodes.length) && decide (t.nodes.length ≤ 8000) && decide (0 ≤ t.root) && decide (t.root < t.nodes.length) && t.nodes.all fun n => nodeB n t.nodes.length
theorem valid_spec {m : Nat} (hm : 2 ^ 30 ≤ m) (t : VTree) : tree_Valid.f m t = some (validB t) := by
  have p30 : (2 : Nat) ^ 30 = 1073741824 := by decide
  have p40 : (2 : Nat) ^ 40 = 1099511627776 := by decide
  unfold tree_Valid.f validB
  by_cases h1 : 1 ≤ t.nodes.length
  · rw [if_pos (by simp only [decide_eq_true_eq]; omega), decide_eq_true h1]
    by_cases h2 : t.nodes.length ≤ 8000
    · rw [if_pos (by simp only [decide_eq_true_eq]; omega), decide_eq_true h2]
      by_cases h3 : 0 ≤ t.root
      · rw [if_pos (by simp only [decide_eq_true_eq]; omega), decide_eq_true h3]
        by_cases h4 : t.root < t.nodes.length
        · rw [if_pos (by simp only [decide_eq_true_eq]; omega), decide_eq_true h4]
          rw [containsN (g := fun n => !(nodeB n t.nodes.length)) (by omega) (by omega) (fun n _ => by unfold tree_Valid_1.f; rw [node_spec (by omega)]; rfl), Option.bind_some]
          simp [List.not_any_eq_all_not]
        · rw [if_neg (by simp only [decide_eq_true_eq]; omega), decide_eq_false h4]; rfl
      · rw [if_neg (by simp only [decide_eq_true_eq]; omega), decide_eq_false h3]; rfl
    · rw [if_neg (by simp only [decide_eq_true_eq]; omega), decide_eq_false h2]; rfl
  · rw [if_neg (by simp only [decide_eq_true_eq]; omega), decide_eq_false h1]; rfl
def cI (x y : Int) : Int := if x < y then -1 else if y < x then 1 else 0
def cS (x y : ByteArray) : Int := if Op.bytesLess x.data.toList y.data.toList = true then -1 else if (!strLe x y) = true then 1 else 0
def cOr (x y : Int) : Int := if x = 0 then y else x
def cT (a b : VNode) : Int := if a.kind = b.kind then (if a.kind = 3 then cOr (cI a.args.length b.args.length) (cS a.label b.label) else cOr (cS a.label b.label) (cI a.int b.int)) else cI a.kind b.kind
theorem cI_spec {m : Nat} (x y : Int) : cmp_Compare_int.f m x y = some (cI x y) := by
  unfold cmp_Compare_int.f cmp_isNaN_int.f cI
  simp only [beq_self_eq_true, Bool.not_true, Option.bind_some, Bool.false_eq_true, if_false]
  by_cases h : x < y
  · rw [if_pos (by simpa using h), if_pos h]
  · rw [if_neg (by simpa using h), if_neg h]
    by_cases h2 : y < x
    · rw [if_pos (by simpa using h2), if_pos h2]
    · rw [if_neg (by simpa using h2), if_neg h2]
theorem cS_spec {m : Nat} (x y : ByteArray) : cmp_Compare_string.f m x y = some (cS x y) := by
  unfold cmp_Compare_string.f cmp_isNaN_string.f cS
  simp only [beq_self_eq_true, Bool.not_true, Option.bind_some, Bool.false_eq_true, if_false]
  split
  · rfl
  · split
    · rfl
    · rfl
theorem cOr_spec {m : Nat} (hm : 3 ≤ m) (x y : Int) : cmp_Or_int.f m [x, y] = some (cOr x y) := by
  obtain ⟨k, rfl⟩ : ∃ k, m = k + 3 := ⟨m - 3, by omega⟩
  unfold cmp_Or_int.f cOr
  have e1 : i64.wrap ((0 : Int) + 1) = 1 := by decide
  have e2 : i64.wrap ((1 : Int) + 1) = 2 := by decide
  have a0 : ix [x, y] 0 = some x := rfl
  have a1 : ix [x, y] 1 = some y := rfl
  unfold cmp_Or_int.l0
  rw [if_pos (by simp), a0, Option.bind_some]
  by_cases h : x = 0
  · subst h
    rw [if_neg (by simp), e1, if_pos rfl]
    unfold cmp_Or_int.l0
    rw [if_pos (by simp), a1, Option.bind_some]
    by_cases h2 : y = 0
    · subst h2
      rw [if_neg (by simp), e2]
      unfold cmp_Or_int.l0
      rw [if_neg (by simp)]; rfl
    · rw [if_pos (by simpa using h2)]; rfl
  · rw [if_pos (by simpa using h), if_neg h]; rfl
theorem cT_spec {m : Nat} (hm : 3 ≤ m) (a b : VNode) : tree_compareTop.f m a b = some (cT a b) := by
  unfold tree_compareTop.f cT
  by_cases h : a.kind = b.kind
  · rw [if_neg (by simp [h]), if_pos h]
    by_cases h3 : a.kind = 3
    · rw [if_pos (by simpa using h3), if_pos h3, cI_spec, cS_spec, Option.bind_some, Option.bind_some, cOr_spec hm]; rfl
    · rw [if_neg (by simpa using h3), if_neg h3, cI_spec, cS_spec, Option.bind_some, Option.bind_some, cOr_spec hm]; rfl
  · rw [if_pos (by simpa using h), if_neg h, cI_spec]; rfl
def nd (l : List VNode) (i : Int) : VNode := l.getD i.toNat ⟨0, 0, ⟨#[]⟩, []⟩
theorem ix_nd {l : List VNode} {i : Int} (h0 : 0 ≤ i) (h1 : i < l.length) : ix l i = some (nd l i) := by
  unfold ix nd
  have h : i.toNat < l.length := by omega
  rw [if_pos h0, List.getD_eq_getElem?_getD, List.getElem?_eq_getElem h]; rfl
theorem nd_mem {l : List VNode} {i : Int} (h0 : 0 ≤ i) (h1 : i < l.length) : nd l i ∈ l := by
  have := ix_nd h0 h1
  unfold ix at this
  rw [if_pos h0] at this
  exact List.mem_of_getElem? this
theorem top_spec {m : Nat} (hm : 3 ≤ m) {l : List VNode} {i j : Int} (h0 : 0 ≤ i) (h1 : i < l.length) (h2 : 0 ≤ j) (h3 : j < l.length) : tree_classes_1.f m i j l = some (cT (nd l i) (nd l j)) := by
  unfold tree_classes_1.f
  rw [ix_nd h0 h1, ix_nd h2 h3, Option.bind_some, Option.bind_some, cT_spec hm]; rfl
end Go.Proofs.YtmekcfdllhphlaaDoor

namespace Go.Proofs.YtmekcfdllhphlaaDoor
open Go Go.R
open Go.IntKind (i64 u64 u8 u32)
def ann67 : Ann := mkA [0, 1, 2, 3, 4, 5, 6, 7, 8, 9, 10, 11, 12, 13, 14, 15, 17, 22, 23, 24, 37, 38, 39, 40, 61, 73, 74, 75, 76, 87, 88, 89, 90, 110, 126] [12] [34359738365, 34359738357, 34359345141, 34358820853, 34359345125, 34359345141, 34359345141, 34359738357, 34359738325, 34359738261, 34352398229, 34344009621, 34352397845, 34335620757, 34352397973, 34352398229, 34352398229, 34359737757, 34359736733, 34124855709, 33856420253, 34124849565, 34124841373, 30366749085, 26071781789, 30366699933, 30366749085, 30366749085, 34124779933, 25534910877, 34124845469, 34124855709, 34124855709, 17179867613, 34359738363, 34359738269] [] []
def tree_classes.l0 (m : Nat) (x0 : List Int) : Nat → (List Int) → Int → Option ((List Int) × Int)
  | 0, _, _ => none
  | k + 1, order0, x1 => if (decide (x1 < (x0.length : Int))) = true then ((ix order0 x1).bind fun v0 => tree_classes.l0 m x0 k (order0.set x1.toNat x1) (i64.wrap (x1 + (1 : Int)))) else (some ((order0, x1)))
def tree_classes.l1 (m : Nat) (nodes0 : List VNode) (order1 : List Int) (x3 : (List Int)) : Nat → (List Int) → Int → Int → Option ((List Int) × Int × Int)
  | 0, _, _, _ => none
  | k + 1, out1, many0, x5 => if (decide (x5 < (order1.length : Int))) = true then ((ix x3 x5).bind fun v1 => if (decide (x5 > (0 : Int))) = true then ((ix x3 (i64.wrap (x5 - (1 : Int)))).bind fun v2 => (ix nodes0 v2).bind fun v3 => (ix nodes0 v1).bind fun v4 => (tree_compareTop.f m v3 v4).bind fun x6 => if (!(x6 == (0 : Int))) = true then ((ix out1 v1).bind fun v5 => tree_classes.l1 m nodes0 order1 x3 k (out1.set v1.toNat (i64.wrap (many0 + (1 : Int)))) (i64.wrap (many0 + (1 : Int))) (i64.wrap (x5 + (1 : Int)))) else ((ix out1 v1).bind fun v6 => tree_classes.l1 m nodes0 order1 x3 k (out1.set v1.toNat many0) many0 (i64.wrap (x5 + (1 : Int))))) else ((ix out1 v1).bind fun v7 => tree_classes.l1 m nodes0 order1 x3 k (out1.set v1.toNat many0) many0 (i64.wrap (x5 + (1 : Int))))) else (some ((out1, many0, x5)))
def tree_classes.l4 (m : Nat) (out4 : List Int) (v8 : VNode) : Nat → (List Int) → Int → Option ((List Int) × Int)
  | 0, _, _ => none
  | k + 1, k0, x10 => if (decide (x10 < (v8.args.length : Int))) = true then ((ix v8.args x10).bind fun v10 => (ix out4 v10).bind fun v11 => (ix k0 (i64.wrap (x10 + (1 : Int)))).bind fun v12 => tree_classes.l4 m out4 v8 k (k0.set (i64.wrap (x10 + (1 : Int))).toNat (i64.wrap (v11 + (1 : Int)))) (i64.wrap (x10 + (1 : Int)))) else (some ((k0, x10)))
def tree_classes.l3 (m : Nat) (nodes0 : List VNode) (out4 : List Int) : Nat → (List (List Int × Int)) → (List Int) → Int → Option ((List (List Int × Int)) × (List Int) × Int)
  | 0, _, _, _ => none
  | k + 1, seen0, next0, x9 => if (decide (x9 < (nodes0.length : Int))) = true then ((ix nodes0 x9).bind fun v8 => (ix out4 x9).bind fun v9 => (tree_classes.l4 m out4 v8 m ([i64.wrap (v9 + (1 : Int)), (0 : Int), (0 : Int), (0 : Int), (0 : Int), (0 : Int), (0 : Int), (0 : Int), (0 : Int)]) (0 : Int)).bind fun out5 => match out5 with | (k1, x11) => (mgA 9 seen0 k1).bind fun r0 => if (!r0.2) = true then ((msA 9 seen0 k1 (seen0.length : Int)).bind fun mp0 => (mgA 9 mp0 k1).bind fun r1 => (ix next0 x9).bind fun v13 => tree_classes.l3 m nodes0 out4 k mp0 (next0.set x9.toNat r1.1) (i64.wrap (x9 + (1 : Int)))) else ((mgA 9 seen0 k1).bind fun r2 => (ix next0 x9).bind fun v14 => tree_classes.l3 m nodes0 out4 k seen0 (next0.set x9.toNat r2.1) (i64.wrap (x9 + (1 : Int))))) else (some ((seen0, next0, x9)))
def tree_classes.l2 (m : Nat) (nodes0 : List VNode) : Nat → (List Int) → Int → Option (Sum (List Int) ((List Int) × Int))
  | 0, _, _ => none
  | k + 1, out4, many2 => (mkl 8 (nodes0.length : Int) (0 : Int)).bind fun x8 => (tree_classes.l3 m nodes0 out4 m ([] : List (List Int × Int)) x8 (0 : Int)).bind fun out6 => match out6 with | (seen1, next1, x12) => if ((seen1.length : Int) == (i64.wrap (many2 + (1 : Int)))) = true then (some (.inl out4)) else (tree_classes.l2 m nodes0 k next1 (i64.wrap ((seen1.length : Int) - (1 : Int))))
def tree_classes.f (m : Nat) (nodes0 : List VNode) : Option ((List Int)) := (mkl 8 (nodes0.length : Int) (0 : Int)).bind fun x0 => (tree_classes.l0 m x0 m x0 (0 : Int)).bind fun out0 => match out0 with | (order1, x2) => (SortStableFI.f m order1 (fun y0 y1 => tree_classes_1.f m y0 y1 nodes0)).bind fun x3 => (mkl 8 (nodes0.length : Int) (0 : Int)).bind fun x4 => (tree_classes.l1 m nodes0 order1 x3 m x4 (0 : Int) (0 : Int)).bind fun out3 => match out3 with | (out2, many1, x7) => (tree_classes.l2 m nodes0 m out2 many1).bind fun out8 => match out8 with | .inl r3 => some r3 | .inr (out7, many3) => none
def tree_classes.fin (L : Mem) (r : (List Int)) (s : St) : Prop := ∃ av, resultA Tryd.prog (s.open ann67) Tryd.f67.results.toList = some av ∧ Frb s.h av (eInt.fz r)
def S67 (cf : CallF) (m : Nat) : Prop := ∀ (nodes0 : List VNode) (r : (List Int)), tree_classes.f m nodes0 = some r → ∀ h xs, FrzS bigK h xs [eNode.fz nodes0] → cf 67 xs h = some (eInt.fz r, h)
section
variable {cf : CallF} {m : Nat}
theorem tree_classes.l0_ok (L : Mem) (nodes0 : List VNode) (ad0 : Nat) (x0 : List Int)   : LoopT Tryd.prog cf ann67 m (sub [1, 1, 0, 1, 0, 0] (codeOf Tryd.f67)) (fun k (σ : (List Int) × Int) => tree_classes.l0 m x0 k σ.1 σ.2) (fun σ s => match σ with | (order0, x1) => ∃ ad2 h2, s = ⟨.any :: .ptr ad0 0 :: .any :: .rs ad2 0 order0.length 1 :: Ay13 (.int .i64 (x0.length : Int) :: .int .i64 x1 :: Ay16 []), [none], h2⟩ ∧ Has h2 ((ad2, .sl order0.length 1 (eInt.l order0)) :: (ad0, .ob [eNode.fz nodes0]) :: L)) (fun out e s => (e = .exit 0 ∧ ∃ order0 x1, (order0, x1) = out ∧ ∃ x22_ x23_ x24_ ad2 h2, s = ⟨.any :: .ptr ad0 0 :: .any :: .rs ad2 0 order0.length 1 :: Ay13 (x22_ :: x23_ :: x24_ :: Ay15 []), [none], h2⟩ ∧ Has h2 ((ad2, .sl order0.length 1 (eInt.l order0)) :: (ad0, .ob [eNode.fz nodes0]) :: L))) := by
  refine lpT (fun _ => rfl) ?_
  rintro k ⟨order0, x1⟩ s out ⟨ad2, h2, rfl, o2⟩ H
  have H : tree_classes.l0 m x0 (k + 1) order0 x1 = some out := H
  refine q1 <| qq <| qc H (fun c0 H => ?_) (fun c0 H => ?_)
  · refine qk <| qq <| qb 1 <| qq <| q0 ?_
    obtain ⟨v0, e3, H⟩ := bsi H
    obtain ⟨h3, e4, o3⟩ := st_own (P := Tryd.prog) (tf := 3) (E := eInt) (l := order0) (q := 0) (v := x1) (x := .int .i64 x1) o2 rfl Z3 e3 rfl rfl
    exact qr [.v 3 (ia_ownL (k := .i64) (E := eInt) (l := order0) (q := 0) T42 o2 rfl e3), .w 4 e4] <| q0 <| ⟨(order0.set x1.toNat x1, i64.wrap (x1 + (1 : Int))), ⟨ad2, h3, (Eq.trans (b := ⟨.any :: .ptr ad0 0 :: .any :: .rs ad2 0 order0.length 1 :: Ay13 (.int .i64 (x0.length : Int) :: .int .i64 (i64.wrap (x1 + (1 : Int))) :: Ay16 []), [none], h3⟩) (by kernel_rfl) (by simp only [List.length_set])), (by have o : Has h3 ((ad2, .sl order0.length 1 (eInt.l (order0.set x1.toNat x1))) :: (ad0, .ob [eNode.fz nodes0]) :: L) := o3; simpa only [List.length_set] using o)⟩, H⟩
  · exact qx 0 <| ⟨rfl, order0, x1, oi H, .int .i64 (x0.length : Int), .int .i64 x1, .bool (decide (x1 < (x0.length : Int))), ad2, h2, by kernel_rfl, o2⟩
theorem tree_classes.l1_ok (L : Mem) (nodes0 : List VNode) (ad0 : Nat) (ad3 : Nat) (order1 : List Int) (ad3 : Nat) (x3 : (List Int))  (S65_ : S65 cf m) : LoopT Tryd.prog cf ann67 m (sub [1, 1, 1, 1, 1, 1, 0, 1, 0, 0] (codeOf Tryd.f67)) (fun k (σ : (List Int) × Int × Int) => tree_classes.l1 m nodes0 order1 x3 k σ.1 σ.2.1 σ.2.2) (fun σ s => match σ with | (out1, many0, x5) => ∃ ad5 h7, s = ⟨.any :: .ptr ad0 0 :: .any :: .rs ad3 0 order1.length 1 :: .any :: .rs ad5 0 out1.length 1 :: .int .i64 many0 :: Ay13 (.rs ad3 0 order1.length 1 :: .int .i64 (order1.length : Int) :: .int .i64 x5 :: Ay12 []), [none], h7⟩ ∧ Has h7 ((ad5, .sl out1.length 1 (eInt.l out1)) :: (ad3, .sl order1.length 1 (eInt.l x3)) :: (ad0, .ob [eNode.fz nodes0]) :: L)) (fun out e s => (e = .exit 2 ∧ ∃ out1 many0 x5, (out1, many0, x5) = out ∧ ∃ x3_ x37_ x38_ x39_ x40_ ad5 h7, s = ⟨.any :: .ptr ad0 0 :: .any :: x3_ :: .any :: .rs ad5 0 out1.length 1 :: .int .i64 many0 :: Ay13 (x37_ :: x38_ :: x39_ :: x40_ :: Ay11 []), [none], h7⟩ ∧ Has h7 ((ad5, .sl out1.length 1 (eInt.l out1)) :: (ad3, .sl order1.length 1 (eInt.l x3)) :: (ad0, .ob [eNode.fz nodes0]) :: L))) := by
  refine lpT (fun _ => rfl) ?_
  rintro k ⟨out1, many0, x5⟩ s out ⟨ad5, h7, rfl, o7⟩ H
  have H : tree_classes.l1 m nodes0 order1 x3 (k + 1) out1 many0 x5 = some out := H
  refine q1 <| qq <| qc H (fun c1 H => ?_) (fun c1 H => ?_)
  · refine qk <| qq <| qb 3 <| qq ?_
    obtain ⟨v1, e10, H⟩ := bsi H
    refine qr [.v 1 (ia_ownL (k := .i64) (E := eInt) (l := x3) (q := 1) T42 o7 rfl e10), .v 2 (ld_own0  (E := eInt) (l := x3) (q := 1) o7 rfl A3 e10 rfl)] <| qq <| qq ?_
    rcases ift H with ⟨c2, H⟩ | ⟨c2, H⟩
    · obtain ⟨v2, e11, H⟩ := bsi H
      obtain ⟨v3, e12, H⟩ := bsi H
      obtain ⟨v4, e13, H⟩ := bsi H
      obtain ⟨x6, e14, H⟩ := bsi H
      refine qr [.b 2 c2, .v 3 (show loadH Tryd.prog h7 29 (.ptr ad0 0) = some (eNode.fz nodes0) from ld_ob (q := 2) (cs := [eNode.fz nodes0]) o7 rfl (by kernel_rfl)), .v 7 (ia_ownL (k := .i64) (E := eInt) (l := x3) (q := 1) T42 o7 rfl e11), .v 8 (ld_own0  (E := eInt) (l := x3) (q := 1) o7 rfl A3 e11 rfl), .v 9 (ia_fz (k := .i64) (E := eNode) (l := nodes0) T29 e12), .v 10 (ld_fzA  (E := eNode) (l := nodes0) h7 A48 Z48 e12), .v 11 (show loadH Tryd.prog h7 29 (.ptr ad0 0) = some (eNode.fz nodes0) from ld_ob (q := 2) (cs := [eNode.fz nodes0]) o7 rfl (by kernel_rfl)), .v 13 (ia_fz (k := .i64) (E := eNode) (l := nodes0) T29 e13), .v 14 (ld_fzA  (E := eNode) (l := nodes0) h7 A48 Z48 e13), .a 15 (S65_ _ _ _ e14 h7 _ (frs (fr_cons (fr_agg (fr_cons (fr_int) (fr_cons (fr_int) (fr_cons (fr_str) (fr_cons (fr_fz (E := eInt)) (fr_nil)))))) (fr_cons (fr_agg (fr_cons (fr_int) (fr_cons (fr_int) (fr_cons (fr_str) (fr_cons (fr_fz (E := eInt)) (fr_nil)))))) (fr_nil)))))] ?_
      refine qc H (fun c3 H => ?_) (fun c3 H => ?_)
      · refine q0 ?_
        obtain ⟨v5, e15, H⟩ := bsi H
        obtain ⟨h8, e16, o8⟩ := st_own (P := Tryd.prog) (tf := 3) (E := eInt) (l := out1) (q := 0) (v := (i64.wrap (many0 + (1 : Int)))) (x := .int .i64 (i64.wrap (many0 + (1 : Int)))) o7 rfl Z3 e15 rfl rfl
        exact qr [.v 3 (ia_ownL (k := .i64) (E := eInt) (l := out1) (q := 0) T42 o7 rfl e15), .w 4 e16] <| q0 <| ⟨(out1.set v1.toNat (i64.wrap (many0 + (1 : Int))), i64.wrap (many0 + (1 : Int)), i64.wrap (x5 + (1 : Int))), ⟨ad5, h8, (Eq.trans (b := ⟨.any :: .ptr ad0 0 :: .any :: .rs ad3 0 order1.length 1 :: .any :: .rs ad5 0 out1.length 1 :: .int .i64 (i64.wrap (many0 + (1 : Int))) :: Ay13 (.rs ad3 0 order1.length 1 :: .int .i64 (order1.length : Int) :: .int .i64 (i64.wrap (x5 + (1 : Int))) :: Ay12 []), [none], h8⟩) (by kernel_rfl) (by simp only [List.length_set])), (by have o : Has h8 ((ad5, .sl out1.length 1 (eInt.l (out1.set v1.toNat (i64.wrap (many0 + (1 : Int)))))) :: (ad3, .sl order1.length 1 (eInt.l x3)) :: (ad0, .ob [eNode.fz nodes0]) :: L) := o8; simpa only [List.length_set] using o)⟩, H⟩
      · refine qk ?_
        obtain ⟨v6, e17, H⟩ := bsi H
        obtain ⟨h9, e18, o9⟩ := st_own (P := Tryd.prog) (tf := 3) (E := eInt) (l := out1) (q := 0) (v := many0) (x := .int .i64 many0) o7 rfl Z3 e17 rfl rfl
        exact qr [.v 3 (ia_ownL (k := .i64) (E := eInt) (l := out1) (q := 0) T42 o7 rfl e17), .w 4 e18] <| q0 <| ⟨(out1.set v1.toNat many0, many0, i64.wrap (x5 + (1 : Int))), ⟨ad5, h9, (Eq.trans (b := ⟨.any :: .ptr ad0 0 :: .any :: .rs ad3 0 order1.length 1 :: .any :: .rs ad5 0 out1.length 1 :: .int .i64 many0 :: Ay13 (.rs ad3 0 order1.length 1 :: .int .i64 (order1.length : Int) :: .int .i64 (i64.wrap (x5 + (1 : Int))) :: Ay12 []), [none], h9⟩) (by kernel_rfl) (by simp only [List.length_set])), (by have o : Has h9 ((ad5, .sl out1.length 1 (eInt.l (out1.set v1.toNat many0))) :: (ad3, .sl order1.length 1 (eInt.l x3)) :: (ad0, .ob [eNode.fz nodes0]) :: L) := o9; simpa only [List.length_set] using o)⟩, H⟩
    · refine qr [.b 2 c2] <| qcF <| qk ?_
      obtain ⟨v7, e19, H⟩ := bsi H
      obtain ⟨h10, e20, o10⟩ := st_own (P := Tryd.prog) (tf := 3) (E := eInt) (l := out1) (q := 0) (v := many0) (x := .int .i64 many0) o7 rfl Z3 e19 rfl rfl
      exact qr [.v 3 (ia_ownL (k := .i64) (E := eInt) (l := out1) (q := 0) T42 o7 rfl e19), .w 4 e20] <| q0 <| ⟨(out1.set v1.toNat many0, many0, i64.wrap (x5 + (1 : Int))), ⟨ad5, h10, (Eq.trans (b := ⟨.any :: .ptr ad0 0 :: .any :: .rs ad3 0 order1.length 1 :: .any :: .rs ad5 0 out1.length 1 :: .int .i64 many0 :: Ay13 (.rs ad3 0 order1.length 1 :: .int .i64 (order1.length : Int) :: .int .i64 (i64.wrap (x5 + (1 : Int))) :: Ay12 []), [none], h10⟩) (by kernel_rfl) (by simp only [List.length_set])), (by have o : Has h10 ((ad5, .sl out1.length 1 (eInt.l (out1.set v1.toNat many0))) :: (ad3, .sl order1.length 1 (eInt.l x3)) :: (ad0, .ob [eNode.fz nodes0]) :: L) := o10; simpa only [List.length_set] using o)⟩, H⟩
  · exact qx 2 <| ⟨rfl, out1, many0, x5, oi H, .rs ad3 0 order1.length 1, .rs ad3 0 order1.length 1, .int .i64 (order1.length : Int), .int .i64 x5, .bool (decide (x5 < (order1.length : Int))), ad5, h7, (Eq.trans (b := ⟨.any :: .ptr ad0 0 :: .any :: .rs ad3 0 order1.length 1 :: .any :: .rs ad5 0 out1.length 1 :: .int .i64 many0 :: Ay13 (.rs ad3 0 order1.length 1 :: .int .i64 (order1.length : Int) :: .int .i64 x5 :: .bool (decide (x5 < (order1.length : Int))) :: Ay11 []), [none], h7⟩) (by kernel_rfl) (by simp only [List.length_set])), (by have o : Has h7 ((ad5, .sl out1.length 1 (eInt.l out1)) :: (ad3, .sl order1.length 1 (eInt.l x3)) :: (ad0, .ob [eNode.fz nodes0]) :: L) := o7; simpa only [List.length_set] using o)⟩
theorem tree_classes.l4_ok (L : Mem) (nodes0 : List VNode) (ad0 : Nat) (ad7 : Nat) (out4 : List Int) (many2 : Int) (ad7 : Nat) (ad8 : Nat) (ad10 : Nat) (seen0 : List (List Int × Int)) (next0 : List Int) (x9 : Int) (ad10 : Nat) (v8 : VNode) (ad11 : Nat)   : LoopT Tryd.prog cf ann67 m (sub [1, 1, 1, 1, 1, 1, 1, 0, 0, 0, 1, 1, 0, 1, 0, 0, 1, 1, 0, 0, 1, 1, 0, 1, 0, 0] (codeOf Tryd.f67)) (fun k (σ : (List Int) × Int) => tree_classes.l4 m out4 v8 k σ.1 σ.2) (fun σ s => match σ with | (k0, x10) => ∃ h18, s = ⟨.any :: .ptr ad0 0 :: Ay3 (.rs ad7 0 out4.length 1 :: .int .i64 many2 :: .any :: .any :: .mp ad8 :: .rs ad10 0 next0.length 1 :: .int .i64 x9 :: .any :: .ptr ad11 0 :: Ay11 (eNode.fz nodes0 :: .int .i64 (nodes0.length : Int) :: .int .i64 x9 :: .any :: eInt.fz v8.args :: .int .i64 (v8.args.length : Int) :: .int .i64 x10 :: Ay3 [])), [none], h18⟩ ∧ Has h18 ((ad11, .sl 9 1 (eInt.l k0)) :: (ad10, .sl next0.length 1 (eInt.l next0)) :: (ad8, .mp (mpA seen0)) :: (ad7, .sl out4.length 1 (eInt.l out4)) :: (ad0, .ob [eNode.fz nodes0]) :: L)) (fun out e s => (e = .exit 8 ∧ ∃ k0 x10, (k0, x10) = out ∧ ∃ x87_ x88_ x89_ x90_ h18, s = ⟨.any :: .ptr ad0 0 :: Ay3 (.rs ad7 0 out4.length 1 :: .int .i64 many2 :: .any :: .any :: .mp ad8 :: .rs ad10 0 next0.length 1 :: .int .i64 x9 :: .any :: .ptr ad11 0 :: Ay11 [eNode.fz nodes0, .int .i64 (nodes0.length : Int), .int .i64 x9, .any, x87_, x88_, x89_, x90_, .any, .any]), [none], h18⟩ ∧ Has h18 ((ad11, .sl 9 1 (eInt.l k0)) :: (ad10, .sl next0.length 1 (eInt.l next0)) :: (ad8, .mp (mpA seen0)) :: (ad7, .sl out4.length 1 (eInt.l out4)) :: (ad0, .ob [eNode.fz nodes0]) :: L))) := by
  refine lpT (fun _ => rfl) ?_
  rintro k ⟨k0, x10⟩ s out ⟨h18, rfl, o19⟩ H
  have H : tree_classes.l4 m out4 v8 (k + 1) k0 x10 = some out := H
  refine q1 <| qq <| qc H (fun c6 H => ?_) (fun c6 H => ?_)
  · refine qk <| qq <| qb 9 <| qq ?_
    obtain ⟨v10, e29, H⟩ := bsi H
    refine qr [.v 1 (ia_fz (k := .i64) (E := eInt) (l := v8.args) T42 e29), .v 2 (ld_fz0  (E := eInt) (l := v8.args) h18 A3 e29 rfl)] ?_
    obtain ⟨v11, e30, H⟩ := bsi H
    obtain ⟨v12, e31, H⟩ := bsi H
    obtain ⟨h19, e32, o20⟩ := st_own (P := Tryd.prog) (tf := 3) (E := eInt) (l := k0) (q := 0) (v := (i64.wrap (v11 + (1 : Int)))) (x := .int .i64 (i64.wrap (v11 + (1 : Int)))) o19 rfl Z3 e31 rfl rfl
    exact qr [.v 4 (ia_ownL (k := .i64) (E := eInt) (l := out4) (q := 3) T42 o19 rfl e30), .v 5 (ld_own0  (E := eInt) (l := out4) (q := 3) o19 rfl A3 e30 rfl), .v 7 (ia_arr (k := .i64) (q := 0) (l := k0) AR116 o19 rfl e31), .w 8 e32] <| q0 <| ⟨(k0.set (i64.wrap (x10 + (1 : Int))).toNat (i64.wrap (v11 + (1 : Int))), i64.wrap (x10 + (1 : Int))), ⟨h19, by kernel_rfl, o20⟩, H⟩
  · exact qx 8 <| ⟨rfl, k0, x10, oi H, eInt.fz v8.args, .int .i64 (v8.args.length : Int), .int .i64 x10, .bool (decide (x10 < (v8.args.length : Int))), h18, by kernel_rfl, o19⟩
theorem tree_classes.l3_ok (L : Mem) (nodes0 : List VNode) (ad0 : Nat) (ad7 : Nat) (out4 : List Int) (many2 : Int) (ad7 : Nat) (ad8 : Nat)   : LoopT Tryd.prog cf ann67 m (sub [1, 1, 1, 1, 1, 1, 1, 0, 0, 0, 1, 1, 0, 1, 0, 0] (codeOf Tryd.f67)) (fun k (σ : (List (List Int × Int)) × (List Int) × Int) => tree_classes.l3 m nodes0 out4 k σ.1 σ.2.1 σ.2.2) (fun σ s => match σ with | (seen0, next0, x9) => ∃ ad10 h15, s = ⟨.any :: .ptr ad0 0 :: Ay3 (.rs ad7 0 out4.length 1 :: .int .i64 many2 :: .any :: .any :: .mp ad8 :: .rs ad10 0 next0.length 1 :: Ay14 (eNode.fz nodes0 :: .int .i64 (nodes0.length : Int) :: .int .i64 x9 :: Ay7 [])), [none], h15⟩ ∧ Has h15 ((ad10, .sl next0.length 1 (eInt.l next0)) :: (ad8, .mp (mpA seen0)) :: (ad7, .sl out4.length 1 (eInt.l out4)) :: (ad0, .ob [eNode.fz nodes0]) :: L)) (fun out e s => (e = .exit 6 ∧ ∃ seen0 next0 x9, (seen0, next0, x9) = out ∧ ∃ x73_ x74_ x75_ x76_ ad10 h15, s = ⟨.any :: .ptr ad0 0 :: Ay3 (.rs ad7 0 out4.length 1 :: .int .i64 many2 :: .any :: .any :: .mp ad8 :: .rs ad10 0 next0.length 1 :: Ay14 (x73_ :: x74_ :: x75_ :: x76_ :: Ay6 [])), [none], h15⟩ ∧ Has h15 ((ad10, .sl next0.length 1 (eInt.l next0)) :: (ad8, .mp (mpA seen0)) :: (ad7, .sl out4.length 1 (eInt.l out4)) :: (ad0, .ob [eNode.fz nodes0]) :: L))) := by
  refine lpT (fun _ => rfl) ?_
  rintro k ⟨seen0, next0, x9⟩ s out ⟨ad10, h15, rfl, o16⟩ H
  have H : tree_classes.l3 m nodes0 out4 (k + 1) seen0 next0 x9 = some out := H
  refine q1 <| qq <| qc H (fun c5 H => ?_) (fun c5 H => ?_)
  · refine qk <| qq <| qb 7 <| qq ?_
    obtain ⟨v8, e25, H⟩ := bsi H
    refine qr [.v 1 (ia_fz (k := .i64) (E := eNode) (l := nodes0) T29 e25), .v 2 (ld_fzA  (E := eNode) (l := nodes0) h15 A48 Z48 e25)] <| qq ?_
    obtain ⟨v9, e26, H⟩ := bsi H
    obtain ⟨ad11, h16, e27, o17⟩ := arr_new (cs := [.int .i64 (0 : Int), .int .i64 (0 : Int), .int .i64 (0 : Int), .int .i64 (0 : Int), .int .i64 (0 : Int), .int .i64 (0 : Int), .int .i64 (0 : Int), .int .i64 (0 : Int), .int .i64 (0 : Int)]) (l := [(0 : Int), (0 : Int), (0 : Int), (0 : Int), (0 : Int), (0 : Int), (0 : Int), (0 : Int), (0 : Int)]) o16 (by kernel_rfl)
    obtain ⟨h17, e28, o18⟩ := st_arr (q := 0) (l := ([(0 : Int), (0 : Int), (0 : Int), (0 : Int), (0 : Int), (0 : Int), (0 : Int), (0 : Int), (0 : Int)])) (l' := [i64.wrap (v9 + (1 : Int)), (0 : Int), (0 : Int), (0 : Int), (0 : Int), (0 : Int), (0 : Int), (0 : Int), (0 : Int)]) (x := .agg [.int .i64 (i64.wrap (v9 + (1 : Int))), .int .i64 (0 : Int), .int .i64 (0 : Int), .int .i64 (0 : Int), .int .i64 (0 : Int), .int .i64 (0 : Int), .int .i64 (0 : Int), .int .i64 (0 : Int), .int .i64 (0 : Int)]) AR116 o17 rfl rfl rfl
    refine qr [.v 2 (ia_ownL (k := .i64) (E := eInt) (l := out4) (q := 2) T42 o16 rfl e26), .v 3 (ld_own0  (E := eInt) (l := out4) (q := 2) o16 rfl A3 e26 rfl), .a 6 e27, .w 7 e28] <| qq <| qq <| q0 <| qb 8 ?_
    obtain ⟨out5, e33, H⟩ := bsi H
    refine ql (tree_classes.l4_ok L nodes0 ad0 ad7 out4 many2 ad7 ad8 ad10 seen0 next0 x9 ad10 v8 ad11   ([i64.wrap (v9 + (1 : Int)), (0 : Int), (0 : Int), (0 : Int), (0 : Int), (0 : Int), (0 : Int), (0 : Int), (0 : Int)], (0 : Int)) _ _ ⟨h17, by kernel_rfl, o18⟩ e33) ?_
    rintro e s ⟨rfl, k1, x11, rfl, g13, g14, g15, g16, h20, rfl, o21⟩
    try dsimp only at H
    refine qq <| qq ?_
    obtain ⟨r0, e34, H⟩ := bsi H
    refine qr [.v 1 (show loadH Tryd.prog h20 116 (.ptr ad11 0) = some (.agg (eInt.l k1)) from ld_arr (q := 0) (l := k1) AR116 o21 rfl), .v 2 (show lookupA Tryd.prog h20 114 (.mp ad8) (.agg (eInt.l k1)) true = some (.tup [.int .i64 r0.1, .bool r0.2]) from (lk_A (q := 2) (l := seen0) (k := k1) MP114 o21 rfl e34).1)] <| qq <| q0 <| qc H (fun c7 H => ?_) (fun c7 H => ?_)
    · obtain ⟨mp0, e35, H⟩ := bsi H
      obtain ⟨h21, e36, o22⟩ := mu_A (q := 2) (l := seen0) (k := k1) (v := (seen0.length : Int)) MP114 o21 rfl e35
      refine qr [.v 1 (show loadH Tryd.prog h20 116 (.ptr ad11 0) = some (.agg (eInt.l k1)) from ld_arr (q := 0) (l := k1) AR116 o21 rfl), .v 3 (show lenA Tryd.prog h20 114 (.mp ad8) = some (.int .i64 (seen0.length : Int)) from ln_A (q := 2) (l := seen0) MU114 o21 rfl), .w 4 e36] ?_
      obtain ⟨r1, e37, H⟩ := bsi H
      obtain ⟨v13, e38, H⟩ := bsi H
      obtain ⟨h22, e39, o23⟩ := st_own (P := Tryd.prog) (tf := 3) (E := eInt) (l := next0) (q := 1) (v := r1.1) (x := .int .i64 r1.1) o22 rfl Z3 e38 rfl rfl
      refine qr [.v 3 (show loadH Tryd.prog h21 116 (.ptr ad11 0) = some (.agg (eInt.l k1)) from ld_arr (q := 0) (l := k1) AR116 o22 rfl), .v 4 (show lookupA Tryd.prog h21 114 (.mp ad8) (.agg (eInt.l k1)) false = some (.int .i64 r1.1) from (lk_A (q := 2) (l := mp0) (k := k1) MP114 o22 rfl e37).2), .v 5 (ia_ownL (k := .i64) (E := eInt) (l := next0) (q := 1) T42 o22 rfl e38), .w 6 e39] ?_
      have o24 : Has h22 ((ad10, .sl next0.length 1 (eInt.l (next0.set x9.toNat r1.1))) :: (ad8, .mp (mpA mp0)) :: (ad7, .sl out4.length 1 (eInt.l out4)) :: (ad0, .ob [eNode.fz nodes0]) :: L) := Has.del o23 0
      exact q0 <| ⟨(mp0, next0.set x9.toNat r1.1, i64.wrap (x9 + (1 : Int))), ⟨ad10, h22, (Eq.trans (b := ⟨.any :: .ptr ad0 0 :: Ay3 (.rs ad7 0 out4.length 1 :: .int .i64 many2 :: .any :: .any :: .mp ad8 :: .rs ad10 0 next0.length 1 :: Ay14 (eNode.fz nodes0 :: .int .i64 (nodes0.length : Int) :: .int .i64 (i64.wrap (x9 + (1 : Int))) :: Ay7 [])), [none], h22⟩) (by kernel_rfl) (by simp only [List.length_set])), (by have o : Has h22 ((ad10, .sl next0.length 1 (eInt.l (next0.set x9.toNat r1.1))) :: (ad8, .mp (mpA mp0)) :: (ad7, .sl out4.length 1 (eInt.l out4)) :: (ad0, .ob [eNode.fz nodes0]) :: L) := o24; simpa only [List.length_set] using o)⟩, H⟩
    · refine qk ?_
      obtain ⟨r2, e40, H⟩ := bsi H
      obtain ⟨v14, e41, H⟩ := bsi H
      obtain ⟨h23, e42, o25⟩ := st_own (P := Tryd.prog) (tf := 3) (E := eInt) (l := next0) (q := 1) (v := r2.1) (x := .int .i64 r2.1) o21 rfl Z3 e41 rfl rfl
      refine qr [.v 3 (show loadH Tryd.prog h20 116 (.ptr ad11 0) = some (.agg (eInt.l k1)) from ld_arr (q := 0) (l := k1) AR116 o21 rfl), .v 4 (show lookupA Tryd.prog h20 114 (.mp ad8) (.agg (eInt.l k1)) false = some (.int .i64 r2.1) from (lk_A (q := 2) (l := seen0) (k := k1) MP114 o21 rfl e40).2), .v 5 (ia_ownL (k := .i64) (E := eInt) (l := next0) (q := 1) T42 o21 rfl e41), .w 6 e42] ?_
      have o26 : Has h23 ((ad10, .sl next0.length 1 (eInt.l (next0.set x9.toNat r2.1))) :: (ad8, .mp (mpA seen0)) :: (ad7, .sl out4.length 1 (eInt.l out4)) :: (ad0, .ob [eNode.fz nodes0]) :: L) := Has.del o25 0
      exact q0 <| ⟨(seen0, next0.set x9.toNat r2.1, i64.wrap (x9 + (1 : Int))), ⟨ad10, h23, (Eq.trans (b := ⟨.any :: .ptr ad0 0 :: Ay3 (.rs ad7 0 out4.length 1 :: .int .i64 many2 :: .any :: .any :: .mp ad8 :: .rs ad10 0 next0.length 1 :: Ay14 (eNode.fz nodes0 :: .int .i64 (nodes0.length : Int) :: .int .i64 (i64.wrap (x9 + (1 : Int))) :: Ay7 [])), [none], h23⟩) (by kernel_rfl) (by simp only [List.length_set])), (by have o : Has h23 ((ad10, .sl next0.length 1 (eInt.l (next0.set x9.toNat r2.1))) :: (ad8, .mp (mpA seen0)) :: (ad7, .sl out4.length 1 (eInt.l out4)) :: (ad0, .ob [eNode.fz nodes0]) :: L) := o26; simpa only [List.length_set] using o)⟩, H⟩
  · exact qx 6 <| ⟨rfl, seen0, next0, x9, oi H, eNode.fz nodes0, .int .i64 (nodes0.length : Int), .int .i64 x9, .bool (decide (x9 < (nodes0.length : Int))), ad10, h15, by kernel_rfl, o16⟩
theorem tree_classes.l2_ok (L : Mem) (nodes0 : List VNode) (ad0 : Nat)   : LoopT Tryd.prog cf ann67 m (sub [1, 1, 1, 1, 1, 1, 1, 0, 0] (codeOf Tryd.f67)) (fun k (σ : (List Int) × Int) => tree_classes.l2 m nodes0 k σ.1 σ.2) (fun σ s => match σ with | (out4, many2) => ∃ g8 g9 g10 g11 g12 ad7 h12, s = ⟨.any :: .ptr ad0 0 :: .any :: g8 :: .any :: .rs ad7 0 out4.length 1 :: .int .i64 many2 :: Ay13 (g9 :: g10 :: g11 :: g12 :: Ay11 []), [none], h12⟩ ∧ Has h12 ((ad7, .sl out4.length 1 (eInt.l out4)) :: (ad0, .ob [eNode.fz nodes0]) :: L)) (fun out e s => (e = .exit 4 ∧ ∃ out4 many2, .inr (out4, many2) = out ∧ ∃ x1_ x3_ x5_ x6_ x37_ x38_ x39_ x40_ ad7 h12, s = ⟨.any :: x1_ :: .any :: x3_ :: .any :: x5_ :: x6_ :: Ay13 (x37_ :: x38_ :: x39_ :: x40_ :: Ay11 []), [none], h12⟩ ∧ Has h12 ((ad7, .sl out4.length 1 (eInt.l out4)) :: (ad0, .ob [eNode.fz nodes0]) :: L)) ∨ (e = .ret ∧ ∃ r, .inl r = out ∧ tree_classes.fin L r s)) := by
  refine lpT (fun _ => rfl) ?_
  rintro k ⟨out4, many2⟩ s out ⟨g8, g9, g10, g11, g12, ad7, h12, rfl, o13⟩ H
  have H : tree_classes.l2 m nodes0 (k + 1) out4 many2 = some out := H
  refine qb 5 <| qq ?_
  obtain ⟨ad8, h13, e22, o14⟩ := mp_new o13
  refine qr [.m 0 e22] <| qq ?_
  obtain ⟨x8, e23, H⟩ := bsi H
  obtain ⟨ad9, h14, e24, o15⟩ := mk_own (P := Tryd.prog) (E := eInt) (z := (0 : Int)) (zv := .int .i64 (0 : Int)) T42 o14 3 rfl rfl rfl rfl e23
  refine qr [.v 0 (show loadH Tryd.prog h13 29 (.ptr ad0 0) = some (eNode.fz nodes0) from ld_ob (q := 2) (cs := [eNode.fz nodes0]) o14 rfl (by kernel_rfl)), .a 2 e24] <| qq <| qq <| qr [.v 0 (show loadH Tryd.prog h14 29 (.ptr ad0 0) = some (eNode.fz nodes0) from ld_ob (q := 3) (cs := [eNode.fz nodes0]) o15 rfl (by kernel_rfl))] <| qb 6 ?_
  obtain ⟨out6, e43, H⟩ := bsi H
  refine ql (tree_classes.l3_ok L nodes0 ad0 ad7 out4 many2 ad7 ad8   (([] : List (List Int × Int)), x8, (0 : Int)) _ _ ⟨ad9, h14, by kernel_rfl, o15⟩ e43) ?_
  rintro e s ⟨rfl, seen1, next1, x12, rfl, g17, g18, g19, g20, ad12, h24, rfl, o27⟩
  try dsimp only at H
  refine qq <| qq <| qr [.v 1 (show lenA Tryd.prog h24 114 (.mp ad8) = some (.int .i64 (seen1.length : Int)) from ln_A (q := 1) (l := seen1) MU114 o27 rfl)] <| qc H (fun c8 H => ?_) (fun c8 H => ?_)
  · refine q1 ?_
    have o28 : Has h24 ((ad12, .sl next1.length 1 (eInt.l next1)) :: (ad8, .mp (mpA seen1)) :: (ad7, .sl out4.length 1 (eInt.l out4)) :: L) := Has.del o27 3
    have o29 : Has h24 ((ad12, .sl next1.length 1 (eInt.l next1)) :: (ad7, .sl out4.length 1 (eInt.l out4)) :: L) := Has.del o28 1
    have o30 : Has h24 ((ad7, .sl out4.length 1 (eInt.l out4)) :: L) := Has.del o29 0
    exact qt <| Or.inr (⟨rfl, _, oi H, fnb (.rs ad7 0 out4.length 1) h24 (frb (fb_rs (E := eInt) (l := out4) (q := 0) o30 rfl (fun _ => rfl)))⟩)
  · refine qk <| qr [.v 2 (show lenA Tryd.prog h24 114 (.mp ad8) = some (.int .i64 (seen1.length : Int)) from ln_A (q := 1) (l := seen1) MU114 o27 rfl)] ?_
    have o31 : Has h24 ((ad12, .sl next1.length 1 (eInt.l next1)) :: (ad8, .mp (mpA seen1)) :: (ad0, .ob [eNode.fz nodes0]) :: L) := Has.del o27 2
    have o32 : Has h24 ((ad12, .sl next1.length 1 (eInt.l next1)) :: (ad0, .ob [eNode.fz nodes0]) :: L) := Has.del o31 1
    exact ⟨(next1, i64.wrap ((seen1.length : Int) - (1 : Int))), ⟨.any, .any, .any, .any, .any, ad12, h24, by kernel_rfl, o32⟩, H⟩
theorem tree_classes_body {ann : FuncId → Ann} (ha : ann 67 = ann67) (S65_ : S65 cf m) (S84_ : S84 cf m) (S85_ : S85 cf m) (nodes0 : List VNode) (h : AHeap) (L : Mem)  (o : Has h (L)) {out : (List Int)} (H : tree_classes.f m nodes0 = some out) :
    ∃ r h', bodyA Tryd.prog ann cf m 67 [eNode.fz nodes0] h = some (r, h') ∧ Frb h' r (eInt.fz out) := by
  refine body_of_ends2 (fn := Tryd.f67) ha Tryd.func67 (by kernel_rfl) (by kernel_rfl) ?_
  refine ends_fin (Q := fun s => tree_classes.fin L out s) (fun _ _ h => h) ?_
  have H : _ = some out := H
  unfold tree_classes.f at H
  show Enz _ cf ann67 m _ ⟨eNode.fz nodes0 :: Ay34 [], [none], h⟩ _
  refine qq ?_
  obtain ⟨ad0, h0, e0, o0⟩ := bx_new (cs := [eNode.fz nodes0]) o (by kernel_rfl)
  refine qr [.a 0 e0] <| qq ?_
  obtain ⟨x0, e1, H⟩ := bsi H
  obtain ⟨ad1, h1, e2, o1⟩ := mk_own (P := Tryd.prog) (E := eInt) (z := (0 : Int)) (zv := .int .i64 (0 : Int)) T42 o0 3 rfl rfl rfl rfl e1
  refine qr [.v 0 (show loadH Tryd.prog h0 29 (.ptr ad0 0) = some (eNode.fz nodes0) from ld_ob (q := 0) (cs := [eNode.fz nodes0]) o0 rfl (by kernel_rfl)), .a 2 e2] <| qq <| qq <| q0 <| qb 0 ?_
  obtain ⟨out0, e5, H⟩ := bsi H
  refine ql (tree_classes.l0_ok L nodes0 ad0 x0   (x0, (0 : Int)) _ _ ⟨ad1, h1, by kernel_rfl, o1⟩ e5) ?_
  rintro e s ⟨rfl, order1, x2, rfl, g0, g1, g2, ad3, h4, rfl, o4⟩
  try dsimp only at H
  refine qq ?_
  obtain ⟨x3, e6, H⟩ := bsi H
  obtain ⟨h5, e7, o5⟩ := S84_ _ _ _ e6 h4 _ _ _ (o4) 85 [.ptr ad0 0] rfl (fun h' K' o' y0 y1 r hr => S85_ y0 y1 _ r hr h' _ (K'.length + 0) _ o' (app_at rfl)) [.rs ad3 0 order1.length 1, .fn 85 [.ptr ad0 0]] (can_cons (rfl) (can_cons (rfl) (can_nil)))
  refine qr [.a 2 e7] <| qq ?_
  obtain ⟨x4, e8, H⟩ := bsi H
  obtain ⟨ad4, h6, e9, o6⟩ := mk_own (P := Tryd.prog) (E := eInt) (z := (0 : Int)) (zv := .int .i64 (0 : Int)) T42 o5 3 rfl rfl rfl rfl e8
  refine qr [.v 0 (show loadH Tryd.prog h5 29 (.ptr ad0 0) = some (eNode.fz nodes0) from ld_ob (q := 1) (cs := [eNode.fz nodes0]) o5 rfl (by kernel_rfl)), .a 2 e9] <| qq <| q0 <| qq <| qq <| q0 <| qb 2 ?_
  obtain ⟨out3, e21, H⟩ := bsi H
  refine ql (tree_classes.l1_ok L nodes0 ad0 ad3 order1 ad3 x3  S65_ (x4, (0 : Int), (0 : Int)) _ _ ⟨ad4, h6, (Eq.trans (b := ⟨.any :: .ptr ad0 0 :: .any :: .rs ad3 0 order1.length 1 :: .any :: .rs ad4 0 x4.length 1 :: .int .i64 (0 : Int) :: Ay13 (.rs ad3 0 order1.length 1 :: .int .i64 (order1.length : Int) :: .int .i64 (0 : Int) :: Ay12 []), [none], h6⟩) (by kernel_rfl) (by simp only [List.length_set])), (by have o : Has h6 ((ad4, .sl x4.length 1 (eInt.l x4)) :: (ad3, .sl order1.length 1 (eInt.l x3)) :: (ad0, .ob [eNode.fz nodes0]) :: L) := o6; simpa only [List.length_set] using o)⟩ e21) ?_
  rintro e s ⟨rfl, out2, many1, x7, rfl, g3, g4, g5, g6, g7, ad6, h11, rfl, o11⟩
  try dsimp only at H
  refine qb 4 ?_
  have o12 : Has h11 ((ad6, .sl out2.length 1 (eInt.l out2)) :: (ad0, .ob [eNode.fz nodes0]) :: L) := Has.del o11 1
  obtain ⟨out8, e44, H⟩ := bsi H
  refine ql (tree_classes.l2_ok L nodes0 ad0   (out2, many1) _ _ ⟨g3, g4, g5, g6, g7, ad6, h11, by kernel_rfl, o12⟩ e44) ?_
  rintro e s (⟨rfl, out7, many3, rfl, g21, g22, g23, g24, g25, g26, g27, g28, ad13, h25, rfl, o33⟩ | ⟨rfl, r3, rfl, hf0⟩)
  · try dsimp only at H
    cases H
  · try dsimp only at H
    obtain rfl := oi H
    exact ⟨.inl rfl, hf0⟩
end
end Go.Proofs.YtmekcfdllhphlaaDoor

namespace Go.Proofs.YtmekcfdllhphlaaDoor
open Go Go.R
open Go.IntKind (i64 u64 u8 u32)
def key (out : List Int) (n : VNode) (i : Nat) : List Int := (gt out i + 1) :: ((n.args.map fun a => gt out a.toNat + 1) ++ List.replicate (8 - n.args.length) 0)
def enum : List (List Int) → Nat → List (List Int × Int)
  | [], _ => []
  | k :: ks, s => (k, (s : Int)) :: enum ks (s + 1)
theorem enum_length : ∀ (ks : List (List Int)) (s : Nat), (enum ks s).length = ks.length
  | [], _ => rfl
  | k :: ks, s => by simp [enum, enum_length ks]
theorem enum_get : ∀ (ks : List (List Int)) (s : Nat) (k : List Int), mgA' (enum ks s) k = if k ∈ ks then (((s + ks.idxOf k : Nat) : Int), true) else (0, false)
  | [], s, k => rfl
  | a :: ks, s, k => by
    simp only [enum, mgA', enum_get ks (s + 1) k, List.mem_cons, List.idxOf_cons]
    by_cases h : k = a
    · subst h; simp
    · have h' : (a == k) = false := by simpa using fun z : a = k => h z.symm
      rw [if_neg h, h']
      by_cases h2 : k ∈ ks
      · simp only [h2, if_true, or_true, cond_false]
        simp only [Prod.mk.injEq, and_true]
        omega
      · simp [h2, h]
theorem enum_set : ∀ (ks : List (List Int)) (s : Nat) (k : List Int), k ∉ ks → msA' (enum ks s) k ((s + ks.length : Nat) : Int) = enum (ks ++ [k]) s
  | [], s, k, _ => rfl
  | a :: ks, s, k, h => by
    have h1 : k ≠ a := fun z => h (by simp [z])
    have h2 : k ∉ ks := fun z => h (by simp [z])
    simp only [enum, msA', List.cons_append, if_neg h1, List.length_cons]
    rw [show s + (ks.length + 1) = s + 1 + ks.length by omega, enum_set ks (s + 1) k h2]
theorem enum_good {n : Nat} : ∀ (ks : List (List Int)) (s : Nat) (k : List Int), k.length = n → (∀ a ∈ ks, a.length = n) → goodA n (enum ks s) k = true
  | [], s, k, h, _ => by simp [goodA, enum, h]
  | a :: ks, s, k, h, h2 => by
    have := enum_good ks (s + 1) k h fun a ha => h2 a (by simp [ha])
    simp only [goodA, Bool.and_eq_true, beq_iff_eq, h, true_and] at this ⊢
    simp only [enum, List.all_cons, Bool.and_eq_true, beq_iff_eq]
    exact ⟨h2 a (by simp), this⟩
structure Part (n : Nat) (out : List Int) (many : Nat) : Prop where
  len : out.length = n
  rng : ∀ i, i < n → 0 ≤ gt out i ∧ gt out i ≤ many
  sur : ∀ v : Nat, v ≤ many → ∃ i, i < n ∧ gt out i = v
structure Keys (l : List VNode) (out : List Int) (p : Nat) (ks : List (List Int)) : Prop where
  nod : ks.Nodup
  mem : ∀ k, k ∈ ks ↔ ∃ i, i < p ∧ key out (nd l i) i = k
def Okl (l : List VNode) : Prop := l.length ≤ 8000 ∧ ∀ n ∈ l, n.args.length ≤ 8 ∧ ∀ a ∈ n.args, 0 ≤ a ∧ a < l.length
theorem rep_set {a : Int} {L : List Int} {t : Nat} {v : Int} (hL : L.length = t) (ht : t < 8) : (a :: (L ++ List.replicate (8 - t) 0)).set (t + 1) v = a :: ((L ++ [v]) ++ List.replicate (8 - (t + 1)) 0) := by
  rw [List.set_cons_succ, List.set_append_right _ _ (by omega), hL, Nat.sub_self, show 8 - t = (8 - (t + 1)) + 1 by omega, List.replicate_succ, List.set_cons_zero, List.append_assoc]
  rfl
theorem key_l4 {m : Nat} {out : List Int} {n : VNode} (h8 : n.args.length ≤ 8) (ha : ∀ a ∈ n.args, 0 ≤ a ∧ a < out.length) (ho : ∀ i, i < out.length → 0 ≤ gt out i ∧ gt out i < 2 ^ 40) (o : Int) : ∀ (f t : Nat), n.args.length - t < f → t ≤ n.args.length →
    ∃ x, tree_classes.l4 m out n f (o :: (((n.args.take t).map fun a => gt out a.toNat + 1) ++ List.replicate (8 - t) 0)) (t : Int) = some (o :: ((n.args.map fun a => gt out a.toNat + 1) ++ List.replicate (8 - n.args.length) 0), x)
  | 0, t, hf, _ => absurd hf (by omega)
  | f + 1, t, hf, ht => by
    have p40 : (2 : Nat) ^ 40 = 1099511627776 := by decide
    have i40 : (2 : Int) ^ 40 = 1099511627776 := by decide
    unfold tree_classes.l4
    by_cases h : t < n.args.length
    · have hx : ix n.args (t : Int) = some (gt n.args t) := ix_gt h
      obtain ⟨b0, b1⟩ := ha _ (gt_mem h)
      obtain ⟨c0, c1⟩ := ho (gt n.args t).toNat (by omega)
      have hy : ix out (gt n.args t) = some (gt out (gt n.args t).toNat) := ix_gt' (by omega) (by omega)
      have e1 : i64.wrap ((t : Int) + 1) = ((t + 1 : Nat) : Int) := by rw [i64_id (by omega) (by omega)]; omega
      have hT : ((n.args.take t).map fun a => gt out a.toNat + 1).length = t := by simp; omega
      have hz : ∃ z, ix (o :: (((n.args.take t).map fun a => gt out a.toNat + 1) ++ List.replicate (8 - t) 0)) ((t + 1 : Nat) : Int) = some z := ⟨_, ix_gt (by simp; omega)⟩
      obtain ⟨z, hz⟩ := hz
      obtain ⟨x, ih⟩ := key_l4 (m := m) h8 ha ho o f (t + 1) (by omega) (by omega)
      have hT1 : n.args.take (t + 1) = n.args.take t ++ [gt n.args t] := by rw [List.take_add_one, gt_some h]; rfl
      rw [hT1, List.map_append] at ih
      rw [if_pos (by simp only [decide_eq_true_eq]; omega), hx, Option.bind_some, hy, Option.bind_some, e1, hz, Option.bind_some, Int.toNat_natCast, i64_id (x := gt out (gt n.args t).toNat + 1) (by omega) (by omega), rep_set hT (by omega)]
      exact ⟨x, ih⟩
    · have : t = n.args.length := by omega
      subst this
      exact ⟨_, by rw [if_neg (by simp), List.take_length]⟩
theorem key_length {out : List Int} {n : VNode} {i : Nat} (h8 : n.args.length ≤ 8) : (key out n i).length = 9 := by simp [key]; omega
theorem nd_ok {l : List VNode} (ok : Okl l) {i : Nat} (h : i < l.length) : (nd l i).args.length ≤ 8 ∧ ∀ a ∈ (nd l i).args, 0 ≤ a ∧ a < l.length := ok.2 _ (nd_mem (by omega) (by omega))
theorem key_l3 {m : Nat} (hm : 2 ^ 30 ≤ m) {l : List VNode} {out : List Int} {many : Nat} (ok : Okl l) (P : Part l.length out many) (hmany : many < 2 ^ 30) : ∀ (f p : Nat) (ks : List (List Int)) (next : List Int), l.length - p < f → p ≤ l.length → Keys l out p ks → next.length = l.length →
    (∀ i, i < p → gt next i = (ks.idxOf (key out (nd l i) i) : Int)) →
    ∃ ks' next' x, tree_classes.l3 m l out f (enum ks 0) next (p : Int) = some (enum ks' 0, next', x) ∧ Keys l out l.length ks' ∧ next'.length = l.length ∧ ∀ i, i < l.length → gt next' i = (ks'.idxOf (key out (nd l i) i) : Int)
  | 0, p, ks, next, hf, _, _, _, _ => absurd hf (by omega)
  | f + 1, p, ks, next, hf, hp, K, hn, hg => by
    have p30 : (2 : Nat) ^ 30 = 1073741824 := by decide
    have p40 : (2 : Nat) ^ 40 = 1099511627776 := by decide
    have i40 : (2 : Int) ^ 40 = 1099511627776 := by decide
    have h8000 := ok.1
    have hol := P.len
    unfold tree_classes.l3
    by_cases h : p < l.length
    · obtain ⟨n1, n2⟩ := nd_ok ok h
      obtain ⟨r0, r1⟩ := P.rng p h
      have e1 : i64.wrap ((p : Int) + 1) = ((p + 1 : Nat) : Int) := by rw [i64_id (by omega) (by omega)]; omega
      obtain ⟨x, hk⟩ := key_l4 (m := m) (out := out) (n := nd l p) n1 (by rw [hol]; exact n2) (fun i hi => by have := P.rng i (by omega); omega) (gt out p + 1) m 0 (by omega) (by omega)
      have hk : tree_classes.l4 m out (nd l p) m [gt out p + 1, 0, 0, 0, 0, 0, 0, 0, 0] 0 = some (key out (nd l p) p, x) := hk
      have hl9 := key_length (out := out) (i := p) n1
      have hks : ∀ a ∈ ks, a.length = 9 := fun a ha => by
        obtain ⟨i, hi, rfl⟩ := (K.mem a).1 ha
        exact key_length (nd_ok ok (by omega)).1
      have hix : ∃ z, ix next (p : Int) = some z := ⟨_, ix_gt (by omega)⟩
      obtain ⟨z, hz⟩ := hix
      rw [if_pos (by simp only [decide_eq_true_eq]; omega), ix_nd (by omega) (by omega), Option.bind_some, ix_gt (by omega), Option.bind_some, i64_id (x := gt out p + 1) (by omega) (by omega), hk, Option.bind_some]
      dsimp only
      have hG : mgA 9 (enum ks 0) (key out (nd l p) p) = some (if key out (nd l p) p ∈ ks then (((ks.idxOf (key out (nd l p) p) : Nat) : Int), true) else (0, false)) := by
        unfold mgA; rw [if_pos (enum_good _ _ _ hl9 hks), enum_get, Nat.zero_add]
      rw [hG, Option.bind_some, e1, hz]
      by_cases hin : key out (nd l p) p ∈ ks
      · rw [if_pos hin, if_neg (by simp), Option.bind_some, Option.bind_some, Int.toNat_natCast]
        refine key_l3 hm ok P hmany f (p + 1) ks _ (by omega) (by omega) ⟨K.nod, fun k => ⟨fun hk => ?_, fun ⟨i, hi, hk2⟩ => ?_⟩⟩ (by simpa using hn) (fun i hi => ?_)
        · obtain ⟨i, hi, h⟩ := (K.mem k).1 hk; exact ⟨i, by omega, h⟩
        · by_cases hip : i = p
          · subst hip; rw [← hk2]; exact hin
          · exact (K.mem k).2 ⟨i, by omega, hk2⟩
        · rw [gt_set (by omega)]
          by_cases hip : i = p
          · subst hip; rw [if_pos rfl]
          · rw [if_neg hip]; exact hg i (by omega)
      · have hS : msA 9 (enum ks 0) (key out (nd l p) p) (((enum ks 0).length : Nat) : Int) = some (enum (ks ++ [key out (nd l p) p]) 0) := by
          unfold msA; rw [if_pos (enum_good _ _ _ hl9 hks), enum_length]
          have := enum_set ks 0 _ hin
          rw [Nat.zero_add] at this
          rw [this]
        have hid : (ks ++ [key out (nd l p) p]).idxOf (key out (nd l p) p) = ks.length := by
          rw [List.idxOf_append, if_neg hin, List.idxOf_cons_self, Nat.zero_add]
        have hG2 : mgA 9 (enum (ks ++ [key out (nd l p) p]) 0) (key out (nd l p) p) = some (((ks.length : Nat) : Int), true) := by
          unfold mgA
          rw [if_pos (enum_good _ _ _ hl9 (fun a ha => by rcases List.mem_append.1 ha with ha | ha; exact hks a ha; simp only [List.mem_singleton] at ha; rw [ha]; exact hl9)), enum_get, if_pos (by simp), Nat.zero_add, hid]
        rw [if_neg hin, if_pos (by simp), hS, Option.bind_some, hG2, Option.bind_some, Option.bind_some, Int.toNat_natCast]
        refine key_l3 hm ok P hmany f (p + 1) (ks ++ [key out (nd l p) p]) _ (by omega) (by omega) ⟨?_, fun k => ⟨fun hk => ?_, fun ⟨i, hi, hk2⟩ => ?_⟩⟩ (by simpa using hn) (fun i hi => ?_)
        · rw [List.nodup_append]
          refine ⟨K.nod, by simp, fun a ha b hb => ?_⟩
          simp only [List.mem_singleton] at hb
          subst hb; intro e; subst e; exact hin ha
        · rcases List.mem_append.1 hk with hk | hk
          · obtain ⟨i, hi, h⟩ := (K.mem k).1 hk; exact ⟨i, by omega, h⟩
          · simp only [List.mem_singleton] at hk; exact ⟨p, by omega, hk.symm⟩
        · by_cases hip : i = p
          · subst hip; rw [← hk2]; simp
          · exact List.mem_append_left _ ((K.mem k).2 ⟨i, by omega, hk2⟩)
        · rw [gt_set (by omega)]
          by_cases hip : i = p
          · subst hip; rw [if_pos rfl, hid]
          · rw [if_neg hip, List.idxOf_append, if_pos ((K.mem _).2 ⟨i, by omega, rfl⟩)]; exact hg i (by omega)
    · have : p = l.length := by omega
      subst this
      exact ⟨ks, next, _, by rw [if_neg (by simp)], K, hn, hg⟩
theorem keys_le {l : List VNode} {out : List Int} {ks : List (List Int)} (K : Keys l out l.length ks) : ks.length ≤ l.length := by
  have := K.nod.length_le_of_subset (l₂ := (List.range l.length).map fun i : Nat => key out (nd l i) i) (fun k hk => by
    obtain ⟨i, hi, h⟩ := (K.mem k).1 hk
    exact List.mem_map.2 ⟨i, List.mem_range.2 hi, h⟩)
  simpa using this
theorem keys_ge {l : List VNode} {out : List Int} {many : Nat} {ks : List (List Int)} (P : Part l.length out many) (K : Keys l out l.length ks) : many + 1 ≤ ks.length := by
  have hn : ((List.range (many + 1)).map fun v : Nat => ((v : Int) + 1)).Nodup := by
    unfold List.Nodup
    rw [List.pairwise_map]
    exact List.Pairwise.imp (fun h => by omega) List.nodup_range
  have := hn.length_le_of_subset (l₂ := ks.map fun k => k.headD 0) (fun x hx => by
    obtain ⟨v, hv, rfl⟩ := List.mem_map.1 hx
    obtain ⟨i, hi, h⟩ := P.sur v (by have := List.mem_range.1 hv; omega)
    exact List.mem_map.2 ⟨_, (K.mem _).2 ⟨i, hi, rfl⟩, by simp [key, h]⟩)
  simpa using this
theorem part_next {l : List VNode} {out next : List Int} {many : Nat} {ks : List (List Int)} (P : Part l.length out many) (K : Keys l out l.length ks) (hn : next.length = l.length) (hg : ∀ i, i < l.length → gt next i = (ks.idxOf (key out (nd l i) i) : Int)) : Part l.length next (ks.length - 1) := by
  have := keys_ge P K
  refine ⟨hn, fun i hi => ?_, fun v hv => ?_⟩
  · have := List.idxOf_lt_length_of_mem ((K.mem _).2 ⟨i, hi, rfl⟩)
    rw [hg i hi]; omega
  · have hv : v < ks.length := by omega
    obtain ⟨i, hi, h⟩ := (K.mem _).1 (List.getElem_mem hv)
    refine ⟨i, hi, ?_⟩
    rw [hg i hi, h, K.nod.idxOf_getElem]
theorem key_l2 {m : Nat} (hm : 2 ^ 30 ≤ m) {l : List VNode} (ok : Okl l) (Inv : List Int → Prop)
    (hI : ∀ out many ks next, Part l.length out many → Inv out → Keys l out l.length ks → next.length = l.length → (∀ i, i < l.length → gt next i = (ks.idxOf (key out (nd l i) i) : Int)) → Inv next) : ∀ (f : Nat) (out : List Int) (many : Nat), l.length - many < f → many < l.length → Part l.length out many → Inv out →
    ∃ r many' ks, tree_classes.l2 m l f out (many : Int) = some (.inl r) ∧ Part l.length r many' ∧ Inv r ∧ Keys l r l.length ks ∧ ks.length = many' + 1
  | 0, out, many, hf, _, _, _ => absurd hf (by omega)
  | f + 1, out, many, hf, hlt, P, I => by
    have p30 : (2 : Nat) ^ 30 = 1073741824 := by decide
    have h8000 := ok.1
    unfold tree_classes.l2
    have e0 : mkl 8 (l.length : Int) (0 : Int) = some (List.replicate l.length 0) := by unfold mkl; rw [if_pos ⟨by omega, by rw [Int.toNat_natCast]; omega⟩, Int.toNat_natCast]
    obtain ⟨ks, next, x, h1, K, hn, hg⟩ := key_l3 hm ok P (by omega) m 0 [] (List.replicate l.length 0) (by omega) (by omega) ⟨by simp, fun k => ⟨fun h => by simp at h, fun ⟨i, hi, _⟩ => absurd hi (by omega)⟩⟩ (by simp) (fun i hi => absurd hi (by omega))
    have h1 : tree_classes.l3 m l out m [] (List.replicate l.length 0) 0 = _ := h1
    have g1 := keys_le K
    have g2 := keys_ge P K
    rw [e0, Option.bind_some, h1, Option.bind_some]
    dsimp only
    rw [enum_length, i64_id (x := (many : Int) + 1) (by omega) (by omega), i64_id (x := (ks.length : Int) - 1) (by omega) (by omega)]
    by_cases h : ks.length = many + 1
    · rw [if_pos (by simp; omega)]
      exact ⟨out, many, ks, rfl, P, I, K, h⟩
    · rw [if_neg (by simp; omega), show (ks.length : Int) - 1 = ((ks.length - 1 : Nat) : Int) by omega]
      exact key_l2 hm ok Inv hI f next (ks.length - 1) (by omega) (by omega) (part_next P K hn hg) (hI _ _ _ _ P I K hn hg)
end Go.Proofs.YtmekcfdllhphlaaDoor

namespace Go.Proofs.YtmekcfdllhphlaaDoor
open Go Go.R
open Go.IntKind (i64 u64 u8 u32)
def ints (n : Nat) : List Int := (List.range n).map fun k : Nat => (k : Int)
theorem ints_length (n : Nat) : (ints n).length = n := by simp [ints]
theorem gt_ints {n k : Nat} (h : k < n) : gt (ints n) k = k := by
  have h1 := gt_some (l := ints n) (k := k) (by rw [ints_length]; exact h)
  have h2 : (ints n)[k]? = some (k : Int) := by
    unfold ints
    rw [List.getElem?_map, List.getElem?_eq_getElem (by simpa using h)]
    simp
  rw [h2] at h1; exact (Option.some.inj h1).symm
theorem mem_ints {n : Nat} {x : Int} : x ∈ ints n ↔ 0 ≤ x ∧ x < n := by
  unfold ints
  rw [List.mem_map]
  constructor
  · rintro ⟨k, hk, rfl⟩; have := List.mem_range.1 hk; omega
  · intro h; exact ⟨x.toNat, List.mem_range.2 (by omega), by omega⟩
theorem nodup_ints (n : Nat) : (ints n).Nodup := by
  unfold ints List.Nodup
  rw [List.pairwise_map]
  exact List.Pairwise.imp (fun h => by omega) List.nodup_range
theorem gt_inj {l : List Int} (h : l.Nodup) {i j : Nat} (hi : i < l.length) (hj : j < l.length) (e : gt l i = gt l j) : i = j := by
  have h1 := gt_some hi
  have h2 := gt_some hj
  rw [List.getElem?_eq_getElem hi] at h1
  rw [List.getElem?_eq_getElem hj] at h2
  have h1 := Option.some.inj h1
  have h2 := Option.some.inj h2
  exact (List.getElem_inj (h₀ := hi) (h₁ := hj) h).1 (by rw [h1, h2, e])
theorem gt_of_mem {l : List Int} {x : Int} (h : x ∈ l) : ∃ k, k < l.length ∧ gt l k = x := by
  obtain ⟨k, hk, e⟩ := List.getElem_of_mem h
  refine ⟨k, hk, ?_⟩
  have h1 := gt_some hk
  rw [List.getElem?_eq_getElem hk, e] at h1
  exact (Option.some.inj h1).symm
theorem cls_l0 {m : Nat} {z : List Int} (hz : z.length < 2 ^ 40) : ∀ (f i : Nat) (d : List Int), z.length - i < f → i ≤ z.length → d.length = z.length → (∀ k, k < i → gt d k = k) →
    ∃ x, tree_classes.l0 m z f d (i : Int) = some (ints z.length, x)
  | 0, i, d, hf, _, _, _ => absurd hf (by omega)
  | f + 1, i, d, hf, hi, hd, hg => by
    have p40 : (2 : Nat) ^ 40 = 1099511627776 := by decide
    unfold tree_classes.l0
    by_cases h : i < z.length
    · obtain ⟨v, hv⟩ : ∃ v, ix d (i : Int) = some v := ⟨_, ix_gt (by omega)⟩
      rw [if_pos (by simp only [decide_eq_true_eq]; omega), hv, Option.bind_some, Int.toNat_natCast, i64_id (by omega) (by omega), show (i : Int) + 1 = ((i + 1 : Nat) : Int) by omega]
      refine cls_l0 hz f (i + 1) _ (by omega) (by omega) (by simpa using hd) fun k hk => ?_
      rw [gt_set (by omega)]
      by_cases e : k = i
      · subst e; rw [if_pos rfl]
      · rw [if_neg e]; exact hg k (by omega)
    · refine ⟨i, ?_⟩
      rw [if_neg (by simp only [decide_eq_true_eq]; omega)]
      have : d = ints z.length := gt_ext (by rw [ints_length, hd]) fun k hk => by rw [hg k (by omega), gt_ints (by omega)]
      rw [this]
def rk (l : List VNode) (d : List Int) : Nat → Nat
  | 0 => 0
  | k + 1 => rk l d k + if cT (nd l (gt d k)) (nd l (gt d (k + 1))) = 0 then 0 else 1
theorem rk_le (l : List VNode) (d : List Int) : ∀ k, rk l d k ≤ k
  | 0 => Nat.le_refl _
  | k + 1 => by have := rk_le l d k; unfold rk; split <;> omega
theorem rk_mono (l : List VNode) (d : List Int) (i : Nat) : ∀ j, i ≤ j → rk l d i ≤ rk l d j
  | 0, h => by have : i = 0 := by omega
               subst this; exact Nat.le_refl _
  | j + 1, h => by
    by_cases e : i = j + 1
    · subst e; exact Nat.le_refl _
    · have := rk_mono l d i j (by omega)
      show _ ≤ rk l d j + _
      omega
theorem rk_sur (l : List VNode) (d : List Int) : ∀ (j v : Nat), v ≤ rk l d j → ∃ k, k ≤ j ∧ rk l d k = v
  | 0, v, h => ⟨0, Nat.le_refl _, by unfold rk at h ⊢; omega⟩
  | j + 1, v, h => by
    by_cases e : v = rk l d (j + 1)
    · exact ⟨j + 1, Nat.le_refl _, e.symm⟩
    · have h2 : rk l d (j + 1) ≤ rk l d j + 1 := by show rk l d j + _ ≤ _; split <;> omega
      obtain ⟨k, hk, e⟩ := rk_sur l d j v (by omega)
      exact ⟨k, by omega, e⟩
theorem cls_l1 {m : Nat} (hm : 3 ≤ m) {l : List VNode} {o d : List Int} (hl : l.length ≤ 8000) (ho : o.length = l.length) (hp : d.Perm (ints l.length)) : ∀ (f p : Nat) (out : List Int), l.length - p < f → p ≤ l.length → out.length = l.length → (∀ k, k < p → gt out (gt d k).toNat = rk l d k) →
    ∃ out' x, tree_classes.l1 m l o d f out ((rk l d (p - 1) : Nat) : Int) (p : Int) = some (out', ((rk l d (l.length - 1) : Nat) : Int), x) ∧ out'.length = l.length ∧ ∀ k, k < l.length → gt out' (gt d k).toNat = rk l d k
  | 0, p, out, hf, _, _, _ => absurd hf (by omega)
  | f + 1, p, out, hf, hpl, hout, hg => by
    have hdl : d.length = l.length := by rw [hp.length_eq, ints_length]
    have hd : ∀ k, k < l.length → 0 ≤ gt d k ∧ gt d k < l.length := fun k hk => mem_ints.1 (hp.mem_iff.1 (gt_mem (by omega)))
    have hnd : d.Nodup := hp.symm.nodup (nodup_ints _)
    unfold tree_classes.l1
    by_cases h : p < l.length
    · obtain ⟨d0, d1⟩ := hd p h
      have hset : ∀ k, k < p + 1 → gt (out.set (gt d p).toNat ((rk l d p : Nat) : Int)) (gt d k).toNat = rk l d k := fun k hk => by
        rw [gt_set (by omega)]
        by_cases e : k = p
        · subst e; rw [if_pos rfl]
        · have : gt d k ≠ gt d p := fun h => e (gt_inj hnd (by omega) (by omega) h)
          have := hd k (by omega)
          rw [if_neg (by omega)]; exact hg k (by omega)
      obtain ⟨z, hz⟩ : ∃ z, ix out (gt d p) = some z := ⟨_, ix_gt' (k := (gt d p).toNat) (by omega) (by omega)⟩
      have e1 : i64.wrap ((p : Int) + 1) = ((p + 1 : Nat) : Int) := by rw [i64_id (by omega) (by omega)]; omega
      have hr := rk_le l d p
      have IH := cls_l1 hm hl ho hp f (p + 1) (out.set (gt d p).toNat ((rk l d p : Nat) : Int)) (by omega) (by omega) (by simpa using hout) hset
      rw [show p + 1 - 1 = p by omega] at IH
      rw [if_pos (by simp only [decide_eq_true_eq]; omega), ix_gt (by omega), Option.bind_some]
      by_cases h0 : 0 < p
      · obtain ⟨q, rfl⟩ : ∃ q, p = q + 1 := ⟨p - 1, by omega⟩
        obtain ⟨q0, q1⟩ := hd q (by omega)
        rw [show q + 1 - 1 = q by omega]
        have e2 : i64.wrap (((q + 1 : Nat) : Int) - 1) = (q : Int) := by rw [i64_id (by omega) (by omega)]; omega
        rw [if_pos (by simp only [decide_eq_true_eq]; omega), e2, ix_gt (by omega), Option.bind_some, ix_nd q0 q1, Option.bind_some, ix_nd d0 d1, Option.bind_some, cT_spec hm, Option.bind_some, hz, e1]
        by_cases hc : cT (nd l (gt d q)) (nd l (gt d (q + 1))) = 0
        · have hrk : rk l d (q + 1) = rk l d q := by show rk l d q + _ = _; rw [if_pos hc]; omega
          rw [if_neg (by simp [hc]), Option.bind_some]
          rw [hrk] at IH; exact IH
        · have hrk : rk l d (q + 1) = rk l d q + 1 := by show rk l d q + _ = _; rw [if_neg hc]
          rw [if_pos (by simpa using hc), Option.bind_some, i64_id (by omega) (by omega)]
          rw [hrk] at IH; exact IH
      · have : p = 0 := by omega
        subst this
        rw [if_neg (by simp), hz, Option.bind_some, e1]
        exact IH
    · have : p = l.length := by omega
      subst this
      exact ⟨out, _, by rw [if_neg (by simp only [decide_eq_true_eq]; omega)], hout, hg⟩
theorem okl_top {m : Nat} (hm : 3 ≤ m) (l : List VNode) : Cm (fun y0 y1 => tree_classes_1.f m y0 y1 l) (fun x y => cT (nd l x) (nd l y)) (ints l.length) := fun x hx y hy => by
  have hx := mem_ints.1 hx
  have hy := mem_ints.1 hy
  exact top_spec hm hx.1 hx.2 hy.1 hy.2
theorem classes_spec {m : Nat} (hm : 2 ^ 41 ≤ m) {l : List VNode} (ok : Okl l) (h1 : 1 ≤ l.length) (Inv : List Int → Prop)
    (hI0 : ∀ d out, d.Perm (ints l.length) → (Ord (fun x y => cT (nd l x) (nd l y)) (ints l.length) → Sg (fun x y => cT (nd l x) (nd l y)) d 0 l.length) → (∀ k, k < l.length → gt out (gt d k).toNat = rk l d k) → Inv out)
    (hI : ∀ out many ks next, Part l.length out many → Inv out → Keys l out l.length ks → next.length = l.length → (∀ i, i < l.length → gt next i = (ks.idxOf (key out (nd l i) i) : Int)) → Inv next) :
    ∃ r many ks, tree_classes.f m l = some r ∧ Part l.length r many ∧ Inv r ∧ Keys l r l.length ks ∧ ks.length = many + 1 := by
  have p40 : (2 : Nat) ^ 40 = 1099511627776 := by decide
  have p41 : (2 : Nat) ^ 41 = 2199023255552 := by decide
  have p30 : (2 : Nat) ^ 30 = 1073741824 := by decide
  have h8000 := ok.1
  have e0 : mkl 8 (l.length : Int) (0 : Int) = some (List.replicate l.length 0) := by unfold mkl; rw [if_pos ⟨by omega, by rw [Int.toNat_natCast]; omega⟩, Int.toNat_natCast]
  unfold tree_classes.f
  obtain ⟨x, k1⟩ := cls_l0 (m := m) (z := List.replicate l.length 0) (by simp; omega) m 0 (List.replicate l.length 0) (by simp; omega) (by omega) rfl (fun k hk => absurd hk (by omega))
  have k1 : tree_classes.l0 m (List.replicate l.length 0) m (List.replicate l.length 0) 0 = _ := k1
  rw [List.length_replicate] at k1
  rw [e0, Option.bind_some, k1, Option.bind_some]
  dsimp only
  obtain ⟨d, k2, hp, hs⟩ := sort_spec hm (l := ints l.length) (by rw [ints_length]; omega) (okl_top (m := m) (by omega) l)
  rw [k2, Option.bind_some, Option.bind_some]
  obtain ⟨out, x, k3, ho, hg⟩ := cls_l1 (m := m) (l := l) (o := ints l.length) (d := d) (by omega) h8000 (ints_length _) hp m 0 (List.replicate l.length 0) (by omega) (by omega) (by simp) (fun k hk => absurd hk (by omega))
  have k3 : tree_classes.l1 m l (ints l.length) d m (List.replicate l.length 0) 0 0 = _ := k3
  rw [k3, Option.bind_some]
  dsimp only
  rw [ints_length] at hs
  have hdl : d.length = l.length := by rw [hp.length_eq, ints_length]
  have hP : Part l.length out (rk l d (l.length - 1)) := by
    refine ⟨ho, fun i hi => ?_, fun v hv => ?_⟩
    · obtain ⟨k, hk, e⟩ := gt_of_mem (hp.mem_iff.2 (mem_ints.2 (show 0 ≤ (i : Int) ∧ (i : Int) < l.length by omega)))
      have := hg k (by omega)
      rw [e, Int.toNat_natCast] at this
      have h2 := rk_mono l d k (l.length - 1) (by omega)
      omega
    · obtain ⟨k, hk, e⟩ := rk_sur l d _ v hv
      have hkl : k < l.length := by omega
      have := mem_ints.1 (hp.mem_iff.1 (gt_mem (l := d) (k := k) (by omega)))
      exact ⟨(gt d k).toNat, by omega, by rw [hg k hkl, e]⟩
  have hrl := rk_le l d (l.length - 1)
  obtain ⟨r, many, ks, k4, P, I, K, hks⟩ := key_l2 (m := m) (by omega) ok Inv hI m out (rk l d (l.length - 1)) (by omega) (by omega) hP (hI0 d out hp hs hg)
  rw [k4]
  exact ⟨r, many, ks, rfl, P, I, K, hks⟩
end Go.Proofs.YtmekcfdllhphlaaDoor

namespace Go.Proofs.YtmekcfdllhphlaaDoor
open Go Go.R
open Go.IntKind (i64 u64 u8 u32)
def ann68 : Ann := mkA [0, 1, 2, 3, 4, 5, 7, 8, 9, 10, 11, 12, 14, 24, 53, 54, 55, 56] [11] [262080, 261696, 253760, 262079, 261568, 261574, 260567, 260567, 258519, 144855, 13783, 140759, 144855, 144855, 261631, 262079] [(14, [(12, none, 0)])] [(8, [(12, none, 1)])]
def tree_least_1.l0 (m : Nat) (x1 : List Int) (x3 : VTree) (rec : Int → (List (Int × Int)) → (List Int) → VTree → VTree → Option (Int × (List (Int × Int)) × VTree)) (v2 : VNode) : Nat → (List Int) → Int → (List (Int × Int)) → VTree → Option ((List Int) × Int × (List (Int × Int)) × VTree)
  | 0, _, _, _, _ => none
  | k + 1, args0, x6, x7, x8 => if (decide (x6 < (v2.args.length : Int))) = true then ((ix v2.args x6).bind fun v3 => (rec v3 x7 x1 x8 x3).bind fun x9 => (app 8 args0 ([x9.1])).bind fun x10 => tree_least_1.l0 m x1 x3 rec v2 k x10 (i64.wrap (x6 + (1 : Int))) x9.2.1 x9.2.2) else (some ((args0, x6, x7, x8)))
def tree_least_1.b (m : Nat) (rec : Int → (List (Int × Int)) → (List Int) → VTree → VTree → Option (Int × (List (Int × Int)) × VTree)) (i0 : Int) (x0 : List (Int × Int)) (x1 : List Int) (x2 : VTree) (x3 : VTree) : Option (Int × (List (Int × Int)) × VTree) := (ix x1 i0).bind fun v0 => if ((mgI x0 v0).2) = true then (some ((mgI x0 v0).1, x0, x2)) else ((ix x1 i0).bind fun v1 => (ix x3.nodes i0).bind fun v2 => (app 56 x2.nodes ([(VNode.mk v2.kind v2.int v2.label ([]))])).bind fun x5 => (tree_least_1.l0 m x1 x3 rec v2 m ([] : List Int) (0 : Int) (msI x0 v1 (x2.nodes.length : Int)) (VTree.mk x5 x2.root)).bind fun out0 => match out0 with | (args1, x11, x12, x13) => (ix x13.nodes (x2.nodes.length : Int)).bind fun v4 => some ((x2.nodes.length : Int), x12, (VTree.mk (x13.nodes.set (x2.nodes.length : Int).toNat (VNode.mk v4.kind v4.int v4.label args1)) x13.root)))
def tree_least_1.f (m : Nat) : Nat → Int → (List (Int × Int)) → (List Int) → VTree → VTree → Option (Int × (List (Int × Int)) × VTree)
  | 0, _, _, _, _, _ => none
  | k + 1, i0, x0, x1, x2, x3 => tree_least_1.b m (tree_least_1.f m k) i0 x0 x1 x2 x3
def tree_least_1.fin (L : Mem) (ad_x0 : Nat) (im_x0 : Nat) (ad_x1 : Nat) (ad_x2 : Nat) (is_x2_0 : Nat) (ad_x3 : Nat) (ad_x4 : Nat) (i0 : Int) (x0 : List (Int × Int)) (x1 : List Int) (x2 : VTree) (x3 : VTree) (r : Int × (List (Int × Int)) × VTree) (s : St) : Prop := ∃ iw3_0 : Nat, resultA Tryd.prog (s.open ann68) Tryd.f68.results.toList = some (.int .i64 r.1) ∧ Has s.h ((ad_x0, .ob [.mp im_x0]) :: (im_x0, .mp (mpI r.2.1)) :: (ad_x1, .ob [eInt.fz x1]) :: (ad_x2, .ob [.rs iw3_0 0 r.2.2.nodes.length 4, .int .i64 r.2.2.root]) :: (iw3_0, .sl r.2.2.nodes.length 4 (eNode.l r.2.2.nodes)) :: (ad_x3, .ob [eNode.fz x3.nodes, .int .i64 x3.root]) :: (ad_x4, .ob [.fn 68 [.ptr ad_x0 0, .ptr ad_x1 0, .ptr ad_x2 0, .ptr ad_x3 0, .ptr ad_x4 0]]) :: L)
def S68 (cf : CallF) (m : Nat) (kk : Nat) : Prop := ∀ (i0 : Int) (x0 : List (Int × Int)) (x1 : List Int) (x2 : VTree) (x3 : VTree) (r : Int × (List (Int × Int)) × VTree), tree_least_1.f m kk i0 x0 x1 x2 x3 = some r → ∀ h L (ad_x0 : Nat) (im_x0 : Nat) (ad_x1 : Nat) (ad_x2 : Nat) (is_x2_0 : Nat) (ad_x3 : Nat) (ad_x4 : Nat), Has h ((ad_x0, .ob [.mp im_x0]) :: (im_x0, .mp (mpI x0)) :: (ad_x1, .ob [eInt.fz x1]) :: (ad_x2, .ob [.rs is_x2_0 0 x2.nodes.length 4, .int .i64 x2.root]) :: (is_x2_0, .sl x2.nodes.length 4 (eNode.l x2.nodes)) :: (ad_x3, .ob [eNode.fz x3.nodes, .int .i64 x3.root]) :: (ad_x4, .ob [.fn 68 [.ptr ad_x0 0, .ptr ad_x1 0, .ptr ad_x2 0, .ptr ad_x3 0, .ptr ad_x4 0]]) :: L) → ∀ xs, xs.map canonArg = [.int .i64 i0, .ptr ad_x0 0, .ptr ad_x1 0, .ptr ad_x2 0, .ptr ad_x3 0, .ptr ad_x4 0] → ∃ iw3_0 h', cf 68 xs h = some (.int .i64 r.1, h') ∧ Has h' ((ad_x0, .ob [.mp im_x0]) :: (im_x0, .mp (mpI r.2.1)) :: (ad_x1, .ob [eInt.fz x1]) :: (ad_x2, .ob [.rs iw3_0 0 r.2.2.nodes.length 4, .int .i64 r.2.2.root]) :: (iw3_0, .sl r.2.2.nodes.length 4 (eNode.l r.2.2.nodes)) :: (ad_x3, .ob [eNode.fz x3.nodes, .int .i64 x3.root]) :: (ad_x4, .ob [.fn 68 [.ptr ad_x0 0, .ptr ad_x1 0, .ptr ad_x2 0, .ptr ad_x3 0, .ptr ad_x4 0]]) :: L)
section
variable {cf : CallF} {m : Nat}
theorem tree_least_1.l0_ok (L : Mem) (ad_x0 : Nat) (im_x0 : Nat) (ad_x1 : Nat) (ad_x2 : Nat) (is_x2_0 : Nat) (ad_x3 : Nat) (ad_x4 : Nat) (i0 : Int) (x0 : List (Int × Int)) (x1 : List Int) (x2 : VTree) (x3 : VTree) (v2 : VNode)  {kk : Nat} (S68_ : S68 cf m kk)  : LoopT Tryd.prog cf ann68 m (sub [1, 1, 1, 1, 1, 1, 1, 0, 1, 0, 0] (codeOf Tryd.f68)) (fun k (σ : (List Int) × Int × (List (Int × Int)) × VTree) => tree_least_1.l0 m x1 x3 (tree_least_1.f m kk) v2 k σ.1 σ.2.1 σ.2.2.1 σ.2.2.2) (fun σ s => match σ with | (args0, x6, x7, x8) => ∃ ad1 ad2 h3, s = ⟨Ay3 (.ptr ad_x2 0 :: .any :: .ptr ad_x4 0 :: Ay3 [.int .i64 (x2.nodes.length : Int), .any, .rs ad1 0 args0.length 1, .any, .any, eInt.fz v2.args, .int .i64 (v2.args.length : Int), .int .i64 x6, .any]), [none], h3⟩ ∧ Has h3 ((ad1, .sl args0.length 1 (eInt.l args0)) :: (ad_x0, .ob [.mp im_x0]) :: (im_x0, .mp (mpI x7)) :: (ad_x1, .ob [eInt.fz x1]) :: (ad_x2, .ob [.rs ad2 0 x8.nodes.length 4, .int .i64 x8.root]) :: (ad2, .sl x8.nodes.length 4 (eNode.l x8.nodes)) :: (ad_x3, .ob [eNode.fz x3.nodes, .int .i64 x3.root]) :: (ad_x4, .ob [.fn 68 [.ptr ad_x0 0, .ptr ad_x1 0, .ptr ad_x2 0, .ptr ad_x3 0, .ptr ad_x4 0]]) :: L)) (fun out e s => (e = .exit 0 ∧ ∃ args0 x6 x7 x8, (args0, x6, x7, x8) = out ∧ ∃ x5_ x53_ x54_ x55_ x56_ ad1 ad2 h3, s = ⟨Ay3 (.ptr ad_x2 0 :: .any :: x5_ :: Ay3 [.int .i64 (x2.nodes.length : Int), .any, .rs ad1 0 args0.length 1, .any, .any, x53_, x54_, x55_, x56_]), [none], h3⟩ ∧ Has h3 ((ad1, .sl args0.length 1 (eInt.l args0)) :: (ad_x0, .ob [.mp im_x0]) :: (im_x0, .mp (mpI x7)) :: (ad_x1, .ob [eInt.fz x1]) :: (ad_x2, .ob [.rs ad2 0 x8.nodes.length 4, .int .i64 x8.root]) :: (ad2, .sl x8.nodes.length 4 (eNode.l x8.nodes)) :: (ad_x3, .ob [eNode.fz x3.nodes, .int .i64 x3.root]) :: (ad_x4, .ob [.fn 68 [.ptr ad_x0 0, .ptr ad_x1 0, .ptr ad_x2 0, .ptr ad_x3 0, .ptr ad_x4 0]]) :: L))) := by
  refine lpT (fun _ => rfl) ?_
  rintro k ⟨args0, x6, x7, x8⟩ s out ⟨ad1, ad2, h3, rfl, o4⟩ H
  have H : tree_least_1.l0 m x1 x3 (tree_least_1.f m kk) v2 (k + 1) args0 x6 x7 x8 = some out := H
  refine q1 <| qq <| qc H (fun c1 H => ?_) (fun c1 H => ?_)
  · refine qk <| qq <| qb 1 <| qq ?_
    obtain ⟨v3, e7, H⟩ := bsi H
    refine qr [.v 0 (ia_fz (k := .i64) (E := eInt) (l := v2.args) T42 e7), .v 1 (ld_fz0  (E := eInt) (l := v2.args) h3 A3 e7 rfl)] ?_
    obtain ⟨x9, e8, H⟩ := bsi H
    obtain ⟨ad3, h4, e9, o5⟩ := S68_ _ _ _ _ _ _ e8 h3 _ _ _ _ _ _ _ _ ((Has.front (Has.front (Has.front (Has.front (Has.front (Has.front (Has.front (Has.front o4 0 rfl) 7 rfl) 7 rfl) 7 rfl) 7 rfl) 7 rfl) 7 rfl) 7 rfl))  [.int .i64 v3, .ptr ad_x0 0, .ptr ad_x1 0, .ptr ad_x2 0, .ptr ad_x3 0, .ptr ad_x4 0] (can_cons (can_pure (pu_int)) (can_cons (rfl) (can_cons (rfl) (can_cons (rfl) (can_cons (rfl) (can_cons (rfl) (can_nil)))))))
    obtain ⟨x10, e10, H⟩ := bsi H
    obtain ⟨ad4, h5, e11, o6⟩ := ap_own (P := Tryd.prog) (E := eInt) (l := args0) (q := 7) (t2 := 42) (x := .fz [.int .i64 x9.1] 1 true) (l2 := ([x9.1])) T42 o5 rfl (by kernel_rfl) rfl e10
    exact qr [.v 1 (show loadH Tryd.prog h3 99 (.ptr ad_x4 0) = some (.fn 68 [.ptr ad_x0 0, .ptr ad_x1 0, .ptr ad_x2 0, .ptr ad_x3 0, .ptr ad_x4 0]) from ld_ob (q := 7) (cs := [.fn 68 [.ptr ad_x0 0, .ptr ad_x1 0, .ptr ad_x2 0, .ptr ad_x3 0, .ptr ad_x4 0]]) o4 rfl (by kernel_rfl)), .a 3 e9, .a 5 e11] <| q0 <| ⟨(x10, i64.wrap (x6 + (1 : Int)), x9.2.1, x9.2.2), ⟨ad4, ad3, h5, by kernel_rfl, (Has.front (Has.front (Has.front (Has.front (Has.front (Has.front (Has.front (Has.front o6 6 rfl) 6 rfl) 6 rfl) 6 rfl) 6 rfl) 6 rfl) 6 rfl) 7 rfl)⟩, H⟩
  · exact qx 0 <| ⟨rfl, args0, x6, x7, x8, oi H, .ptr ad_x4 0, eInt.fz v2.args, .int .i64 (v2.args.length : Int), .int .i64 x6, .bool (decide (x6 < (v2.args.length : Int))), ad1, ad2, h3, by kernel_rfl, o4⟩
theorem tree_least_1_body {ann : FuncId → Ann} (ha : ann 68 = ann68)  (i0 : Int) (x0 : List (Int × Int)) (x1 : List Int) (x2 : VTree) (x3 : VTree) (h : AHeap) (L : Mem) (ad_x0 : Nat) (im_x0 : Nat) (ad_x1 : Nat) (ad_x2 : Nat) (is_x2_0 : Nat) (ad_x3 : Nat) (ad_x4 : Nat)  {kk : Nat} (S68_ : S68 cf m kk) (o : Has h ((ad_x0, .ob [.mp im_x0]) :: (im_x0, .mp (mpI x0)) :: (ad_x1, .ob [eInt.fz x1]) :: (ad_x2, .ob [.rs is_x2_0 0 x2.nodes.length 4, .int .i64 x2.root]) :: (is_x2_0, .sl x2.nodes.length 4 (eNode.l x2.nodes)) :: (ad_x3, .ob [eNode.fz x3.nodes, .int .i64 x3.root]) :: (ad_x4, .ob [.fn 68 [.ptr ad_x0 0, .ptr ad_x1 0, .ptr ad_x2 0, .ptr ad_x3 0, .ptr ad_x4 0]]) :: L)) {out : Int × (List (Int × Int)) × VTree} (H : tree_least_1.f m (kk + 1) i0 x0 x1 x2 x3 = some out) :
    ∃ r h', bodyA Tryd.prog ann cf m 68 [.int .i64 i0, .ptr ad_x0 0, .ptr ad_x1 0, .ptr ad_x2 0, .ptr ad_x3 0, .ptr ad_x4 0] h = some (r, h') ∧ ∃ iw3_0 : Nat, r = .int .i64 out.1 ∧ Has h' ((ad_x0, .ob [.mp im_x0]) :: (im_x0, .mp (mpI out.2.1)) :: (ad_x1, .ob [eInt.fz x1]) :: (ad_x2, .ob [.rs iw3_0 0 out.2.2.nodes.length 4, .int .i64 out.2.2.root]) :: (iw3_0, .sl out.2.2.nodes.length 4 (eNode.l out.2.2.nodes)) :: (ad_x3, .ob [eNode.fz x3.nodes, .int .i64 x3.root]) :: (ad_x4, .ob [.fn 68 [.ptr ad_x0 0, .ptr ad_x1 0, .ptr ad_x2 0, .ptr ad_x3 0, .ptr ad_x4 0]]) :: L) := by
  refine body_of_ends2 (fn := Tryd.f68) ha Tryd.func68 (by kernel_rfl) (by kernel_rfl) ?_
  refine ends_fin (Q := fun s => tree_least_1.fin L ad_x0 im_x0 ad_x1 ad_x2 is_x2_0 ad_x3 ad_x4 i0 x0 x1 x2 x3 out s) (fun _ _ ⟨h1, iw3_0, h2, h3⟩ => ⟨h1, _, h2, iw3_0, rfl, h3⟩) ?_
  have H : tree_least_1.b m (tree_least_1.f m kk) i0 x0 x1 x2 x3 = some out := H
  unfold tree_least_1.b at H
  show Enz _ cf ann68 m _ ⟨.int .i64 i0 :: .ptr ad_x0 0 :: .ptr ad_x1 0 :: .ptr ad_x2 0 :: .ptr ad_x3 0 :: .ptr ad_x4 0 :: Ay12 [], [none], h⟩ _
  refine q1 <| qq <| qq ?_
  obtain ⟨v0, e0, H⟩ := bsi H
  refine qr [.v 0 (show loadH Tryd.prog h 98 (.ptr ad_x0 0) = some (.mp im_x0) from ld_ob (q := 0) (cs := [.mp im_x0]) o rfl (by kernel_rfl)), .v 1 (show loadH Tryd.prog h 42 (.ptr ad_x1 0) = some (eInt.fz x1) from ld_ob (q := 2) (cs := [eInt.fz x1]) o rfl (by kernel_rfl)), .v 3 (ia_fz (k := .i64) (E := eInt) (l := x1) T42 e0), .v 4 (ld_fz0  (E := eInt) (l := x1) h A3 e0 rfl), .v 5 (show lookupA Tryd.prog h 98 (.mp im_x0) (.int .i64 v0) true = some (.tup [.int .i64 ((mgI x0 v0).1), .bool ((mgI x0 v0).2)]) from (lk_I (q := 1) (l := x0) (k := v0) MP98 o rfl).1)] <| qq <| q0 <| qc H (fun c0 H => ?_) (fun c0 H => ?_)
  · obtain rfl := oi H
    exact q1 <| qt <| ⟨.inl rfl, ⟨is_x2_0, by kernel_rfl, he o⟩⟩
  · refine qk <| qq <| qr [.v 1 (show loadH Tryd.prog h 29 (.ptr ad_x2 0) = some (.rs is_x2_0 0 x2.nodes.length 4) from ld_ob (q := 3) (cs := [.rs is_x2_0 0 x2.nodes.length 4, .int .i64 x2.root]) o rfl (by kernel_rfl))] <| qq ?_
    obtain ⟨v1, e1, H⟩ := bsi H
    obtain ⟨h0, e2, o0⟩ := mu_I (q := 1) (l := x0) (k := v1) (v := (x2.nodes.length : Int)) MP98 o rfl
    refine qr [.v 0 (show loadH Tryd.prog h 98 (.ptr ad_x0 0) = some (.mp im_x0) from ld_ob (q := 0) (cs := [.mp im_x0]) o rfl (by kernel_rfl)), .v 1 (show loadH Tryd.prog h 42 (.ptr ad_x1 0) = some (eInt.fz x1) from ld_ob (q := 2) (cs := [eInt.fz x1]) o rfl (by kernel_rfl)), .v 3 (ia_fz (k := .i64) (E := eInt) (l := x1) T42 e1), .v 4 (ld_fz0  (E := eInt) (l := x1) h A3 e1 rfl), .w 6 e2] <| qq ?_
    obtain ⟨v2, e3, H⟩ := bsi H
    refine qr [.v 1 (show loadH Tryd.prog h0 29 (.ptr ad_x3 0) = some (eNode.fz x3.nodes) from ld_ob (q := 5) (cs := [eNode.fz x3.nodes, .int .i64 x3.root]) o0 rfl (by kernel_rfl)), .v 3 (ia_fz (k := .i64) (E := eNode) (l := x3.nodes) T29 e3), .v 4 (ld_fzA  (E := eNode) (l := x3.nodes) h0 A48 Z48 e3)] <| qq ?_
    obtain ⟨x5, e4, H⟩ := bsi H
    obtain ⟨ad0, h1, e5, o1⟩ := ap_own (P := Tryd.prog) (E := eNode) (l := x2.nodes) (q := 4) (t2 := 29) (x := .fz [.int .i64 v2.kind, .int .i64 v2.int, .str v2.label, .nils] 1 true) (l2 := ([(VNode.mk v2.kind v2.int v2.label ([]))])) T29 o0 rfl (by kernel_rfl) rfl e4
    obtain ⟨h2, e6, o2⟩ := st_ob (P := Tryd.prog) (t := 29) (off := 0) (q := 3) (cs := [.rs is_x2_0 0 x2.nodes.length 4, .int .i64 x2.root]) (cs' := [.rs ad0 0 x5.length 4, .int .i64 x2.root]) (x := .rs ad0 0 x5.length 4) o1 rfl (by kernel_rfl)
    refine qr [.v 1 (show loadH Tryd.prog h0 29 (.ptr ad_x2 0) = some (.rs is_x2_0 0 x2.nodes.length 4) from ld_ob (q := 3) (cs := [.rs is_x2_0 0 x2.nodes.length 4, .int .i64 x2.root]) o0 rfl (by kernel_rfl)), .a 10 e5, .w 12 e6] <| qq <| q0 ?_
    have o3 : Has h2 (((0), .sl (([] : List Int).length) 1 (eInt.l ([] : List Int))) :: (ad_x0, .ob [.mp im_x0]) :: (im_x0, .mp (mpI (msI x0 v1 (x2.nodes.length : Int)))) :: (ad_x1, .ob [eInt.fz x1]) :: (ad_x2, .ob [.rs ad0 0 x5.length 4, .int .i64 x2.root]) :: (ad0, .sl x5.length 4 (eNode.l x5)) :: (ad_x3, .ob [eNode.fz x3.nodes, .int .i64 x3.root]) :: (ad_x4, .ob [.fn 68 [.ptr ad_x0 0, .ptr ad_x1 0, .ptr ad_x2 0, .ptr ad_x3 0, .ptr ad_x4 0]]) :: L) := Has.nil o2 1
    refine qq <| qq <| q0 <| qb 0 ?_
    obtain ⟨out0, e12, H⟩ := bsi H
    refine ql (tree_least_1.l0_ok L ad_x0 im_x0 ad_x1 ad_x2 is_x2_0 ad_x3 ad_x4 i0 x0 x1 x2 x3 v2  S68_  (([] : List Int), (0 : Int), msI x0 v1 (x2.nodes.length : Int), (VTree.mk x5 x2.root)) _ _ ⟨(0), ad0, h2, by kernel_rfl, o3⟩ e12) ?_
    rintro e s ⟨rfl, args1, x11, x12, x13, rfl, g0, g1, g2, g3, g4, ad5, ad6, h6, rfl, o7⟩
    try dsimp only at H
    refine qq ?_
    obtain ⟨h7, e13, o8⟩ := fr_own (E := eInt) (l := args1) (q := 0) o7 rfl
    obtain ⟨v4, e14, H⟩ := bsi H
    obtain ⟨h8, e15, o9⟩ := st_own1 (P := Tryd.prog) (tf := 42) (E := eNode) (l := x13.nodes) (q := 4) (off := 3) (v := (VNode.mk v4.kind v4.int v4.label args1)) (x := eInt.fz args1) o8 rfl Z42 e14 rfl rfl (by decide) rfl
    obtain rfl := oi H
    exact qrf [.a 0 e13] [.v 1 (show loadH Tryd.prog h7 29 (.ptr ad_x2 0) = some (.rs ad6 0 x13.nodes.length 4) from ld_ob (q := 3) (cs := [.rs ad6 0 x13.nodes.length 4, .int .i64 x13.root]) o8 rfl (by kernel_rfl)), .v 4 (ia_ownL (k := .i64) (E := eNode) (l := x13.nodes) (q := 4) T29 o8 rfl e14), .w 6 e15] <| qq <| q0 <| qt <| ⟨.inl rfl, ⟨ad6, by kernel_rfl, he (by have o : Has h8 ((ad_x0, .ob [.mp im_x0]) :: (im_x0, .mp (mpI x12)) :: (ad_x1, .ob [eInt.fz x1]) :: (ad_x2, .ob [.rs ad6 0 x13.nodes.length 4, .int .i64 x13.root]) :: (ad6, .sl x13.nodes.length 4 (eNode.l (x13.nodes.set (x2.nodes.length : Int).toNat (VNode.mk v4.kind v4.int v4.label args1)))) :: (ad_x3, .ob [eNode.fz x3.nodes, .int .i64 x3.root]) :: (ad_x4, .ob [.fn 68 [.ptr ad_x0 0, .ptr ad_x1 0, .ptr ad_x2 0, .ptr ad_x3 0, .ptr ad_x4 0]]) :: L) := o9; simpa only [List.length_set] using o)⟩⟩
end
end Go.Proofs.YtmekcfdllhphlaaDoor

namespace Go.Proofs.YtmekcfdllhphlaaDoor
open Go Go.R
open Go.IntKind (i64 u64 u8 u32)
def ann47 : Ann := mkA [0, 1, 2, 3, 4, 5, 6] [2, 4000005] [121, 113, 97, 65, 1, 25, 91, 123] [] [(0, [(2, some 0, 4)])]
def tree_least.f (m : Nat) (t0 : VTree) : Option (VTree) := (tree_classes.f m t0.nodes).bind fun x0 => (tree_least_1.f m m t0.root ([] : List (Int × Int)) x0 (VTree.mk ([] : List VNode) (0 : Int)) t0).bind fun x1 => some x1.2.2
def tree_least.fin (L : Mem) (r : VTree) (s : St) : Prop := ∃ av, resultA Tryd.prog (s.open ann47) Tryd.f47.results.toList = some av ∧ Frz s.h av (.agg [eNode.fz r.nodes, .int .i64 r.root])
def S47 (cf : CallF) (m : Nat) : Prop := ∀ (t0 : VTree) (r : VTree), tree_least.f m t0 = some r → ∀ h xs, PureS xs [.agg [eNode.fz t0.nodes, .int .i64 t0.root]] → cf 47 xs h = some (.agg [eNode.fz r.nodes, .int .i64 r.root], h)
section
variable {cf : CallF} {m : Nat}
theorem tree_least_body {ann : FuncId → Ann} (ha : ann 47 = ann47) (S67_ : S67 cf m) (S68_ : S68 cf m m) (t0 : VTree) (h : AHeap) (L : Mem)  (o : Has h (L)) {out : VTree} (H : tree_least.f m t0 = some out) :
    ∃ r h', bodyA Tryd.prog ann cf m 47 [.agg [eNode.fz t0.nodes, .int .i64 t0.root]] h = some (r, h') ∧ Frz h' r (.agg [eNode.fz out.nodes, .int .i64 out.root]) := by
  refine body_of_ends2 (fn := Tryd.f47) ha Tryd.func47 (by kernel_rfl) (by kernel_rfl) ?_
  refine ends_fin (Q := fun s => tree_least.fin L out s) (fun _ _ h => h) ?_
  have H : _ = some out := H
  unfold tree_least.f at H
  show Enz _ cf ann47 m _ ⟨.agg [eNode.fz t0.nodes, .int .i64 t0.root] :: Ay6 [], [none, none], h⟩ _
  refine qq ?_
  obtain ⟨ad0, h0, e0, o0⟩ := bx_new (cs := [eNode.fz t0.nodes, .int .i64 t0.root]) o (by kernel_rfl)
  refine qr [.a 0 e0] ?_
  have o1 : Has h0 (((0), .sl (([] : List VNode).length) 4 (eNode.l ([] : List VNode))) :: (ad0, .ob [eNode.fz t0.nodes, .int .i64 t0.root]) :: L) := Has.nil o0 4
  refine qq ?_
  obtain ⟨x0, e1, H⟩ := bsi H
  obtain ⟨ad1, h1, e2, o2⟩ := bx_new (cs := [.nils]) o1 (by kernel_rfl)
  obtain ⟨h2, e3, o3⟩ := st_ob (P := Tryd.prog) (t := 42) (off := 0) (q := 0) (cs := [.nils]) (cs' := [eInt.fz x0]) (x := eInt.fz x0) o2 rfl (by kernel_rfl)
  refine qr [.v 1 (show loadH Tryd.prog h0 29 (.ptr ad0 0) = some (eNode.fz t0.nodes) from ld_ob (q := 1) (cs := [eNode.fz t0.nodes, .int .i64 t0.root]) o1 rfl (by kernel_rfl)), .a 2 (S67_ _ _ e1 h0 _ (frs (fr_cons (fr_fz (E := eNode)) (fr_nil)))), .a 3 e2, .w 4 e3] <| qq ?_
  obtain ⟨ad2, h3, e4, o4⟩ := mp_new o3
  obtain ⟨ad3, h4, e5, o5⟩ := bx_new (cs := [.nilm]) o4 (by kernel_rfl)
  obtain ⟨h5, e6, o6⟩ := st_ob (P := Tryd.prog) (t := 98) (off := 0) (q := 0) (cs := [.nilm]) (cs' := [.mp ad2]) (x := .mp ad2) o5 rfl (by kernel_rfl)
  refine qr [.m 0 e4, .a 1 e5, .w 2 e6] <| qq ?_
  have o7 : Has h5 ((((0)), .sl (([] : List VNode).length) 4 (eNode.l ([] : List VNode))) :: (ad3, .ob [.mp ad2]) :: (ad2, .mp (mpI ([] : List (Int × Int)))) :: (ad1, .ob [eInt.fz x0]) :: ((0), .sl (([] : List VNode).length) 4 (eNode.l ([] : List VNode))) :: (ad0, .ob [eNode.fz t0.nodes, .int .i64 t0.root]) :: L) := Has.nil o6 4
  obtain ⟨ad4, h6, e7, o8⟩ := bx_new (cs := [.rs ((0)) 0 (([] : List VNode).length) 4, .int .i64 (0 : Int)]) o7 (by kernel_rfl)
  refine qr [.a 0 e7] <| qq ?_
  obtain ⟨ad5, h7, e8, o9⟩ := bx_new (cs := [.nilf]) o8 (by kernel_rfl)
  refine qr [.a 0 e8] <| qq ?_
  obtain ⟨h8, e9, o10⟩ := st_ob (P := Tryd.prog) (t := 99) (off := 0) (q := 0) (cs := [.nilf]) (cs' := [.fn 68 [.ptr ad3 0, .ptr ad1 0, .ptr ad4 0, .ptr ad0 0, .ptr ad5 0]]) (x := .fn 68 [.ptr ad3 0, .ptr ad1 0, .ptr ad4 0, .ptr ad0 0, .ptr ad5 0]) o9 rfl (by kernel_rfl)
  refine qr [.w 1 e9] <| qq ?_
  obtain ⟨x1, e10, H⟩ := bsi H
  obtain ⟨ad6, h9, e11, o11⟩ := S68_ _ _ _ _ _ _ e10 h8 _ _ _ _ _ _ _ _ ((Has.front (Has.front (Has.front (Has.front (Has.front (Has.front (Has.front (Has.front o10 6 rfl) 1 rfl) 7 rfl) 4 rfl) 4 rfl) 7 rfl) 7 rfl) 7 rfl))  [.int .i64 t0.root, .ptr ad3 0, .ptr ad1 0, .ptr ad4 0, .ptr ad0 0, .ptr ad5 0] (can_cons (can_pure (pu_int)) (can_cons (rfl) (can_cons (rfl) (can_cons (rfl) (can_cons (rfl) (can_cons (rfl) (can_nil)))))))
  refine qr [.v 0 (show loadH Tryd.prog h8 99 (.ptr ad5 0) = some (.fn 68 [.ptr ad3 0, .ptr ad1 0, .ptr ad4 0, .ptr ad0 0, .ptr ad5 0]) from ld_ob (q := 0) (cs := [.fn 68 [.ptr ad3 0, .ptr ad1 0, .ptr ad4 0, .ptr ad0 0, .ptr ad5 0]]) o10 rfl (by kernel_rfl)), .v 2 (show loadH Tryd.prog h8 3 (.ptr ad0 1) = some (.int .i64 t0.root) from ld_ob (q := 7) (cs := [eNode.fz t0.nodes, .int .i64 t0.root]) o10 rfl (by kernel_rfl)), .a 3 e11] ?_
  have o12 : Has h9 ((ad3, .ob [.mp ad2]) :: (ad2, .mp (mpI x1.2.1)) :: (ad1, .ob [eInt.fz x0]) :: (ad4, .ob [.rs ad6 0 x1.2.2.nodes.length 4, .int .i64 x1.2.2.root]) :: (ad6, .sl x1.2.2.nodes.length 4 (eNode.l x1.2.2.nodes)) :: (ad0, .ob [eNode.fz t0.nodes, .int .i64 t0.root]) :: ((0), .sl (([] : List VNode).length) 4 (eNode.l ([] : List VNode))) :: L) := Has.del o11 6
  have o13 : Has h9 ((ad3, .ob [.mp ad2]) :: (ad2, .mp (mpI x1.2.1)) :: (ad1, .ob [eInt.fz x0]) :: (ad4, .ob [.rs ad6 0 x1.2.2.nodes.length 4, .int .i64 x1.2.2.root]) :: (ad6, .sl x1.2.2.nodes.length 4 (eNode.l x1.2.2.nodes)) :: ((0), .sl (([] : List VNode).length) 4 (eNode.l ([] : List VNode))) :: L) := Has.del o12 5
  have o14 : Has h9 ((ad3, .ob [.mp ad2]) :: (ad2, .mp (mpI x1.2.1)) :: (ad4, .ob [.rs ad6 0 x1.2.2.nodes.length 4, .int .i64 x1.2.2.root]) :: (ad6, .sl x1.2.2.nodes.length 4 (eNode.l x1.2.2.nodes)) :: ((0), .sl (([] : List VNode).length) 4 (eNode.l ([] : List VNode))) :: L) := Has.del o13 2
  have o15 : Has h9 ((ad3, .ob [.mp ad2]) :: (ad4, .ob [.rs ad6 0 x1.2.2.nodes.length 4, .int .i64 x1.2.2.root]) :: (ad6, .sl x1.2.2.nodes.length 4 (eNode.l x1.2.2.nodes)) :: ((0), .sl (([] : List VNode).length) 4 (eNode.l ([] : List VNode))) :: L) := Has.del o14 1
  have o16 : Has h9 ((ad4, .ob [.rs ad6 0 x1.2.2.nodes.length 4, .int .i64 x1.2.2.root]) :: (ad6, .sl x1.2.2.nodes.length 4 (eNode.l x1.2.2.nodes)) :: ((0), .sl (([] : List VNode).length) 4 (eNode.l ([] : List VNode))) :: L) := Has.del o15 0
  refine qs [.v 0 (show loadH Tryd.prog h9 31 (.ptr ad4 0) = some (.agg [.rs ad6 0 x1.2.2.nodes.length 4, .int .i64 x1.2.2.root]) from ld_ob (q := 0) (cs := [.rs ad6 0 x1.2.2.nodes.length 4, .int .i64 x1.2.2.root]) o16 rfl (by kernel_rfl))] ?_
  have o17 : Has h9 ((ad4, .ob [.rs ad6 0 x1.2.2.nodes.length 4, .int .i64 x1.2.2.root]) :: (ad6, .sl x1.2.2.nodes.length 4 (eNode.l x1.2.2.nodes)) :: L) := Has.del o16 2
  have o18 : Has h9 ((ad6, .sl x1.2.2.nodes.length 4 (eNode.l x1.2.2.nodes)) :: L) := Has.del o17 0
  obtain rfl := oi H
  exact qt <| ⟨.inl rfl, fnz (.agg [.rs ad6 0 x1.2.2.nodes.length 4, .int .i64 x1.2.2.root]) h9 (frz (fr_agg (fr_cons (fr_rs (E := eNode) (l := x1.2.2.nodes) (q := 0) o18 rfl (fun _ => rfl)) (fr_cons (fr_int) (fr_nil)))))⟩
end
end Go.Proofs.YtmekcfdllhphlaaDoor

namespace Go.Proofs.YtmekcfdllhphlaaDoor
open Go Go.R
open Go.IntKind (i64 u64 u8 u32)
def enumI : List Int → Nat → List (Int × Int)
  | [], _ => []
  | k :: ks, s => (k, (s : Int)) :: enumI ks (s + 1)
theorem enumI_get : ∀ (ks : List Int) (s : Nat) (k : Int), mgI (enumI ks s) k = if k ∈ ks then (((s + ks.idxOf k : Nat) : Int), true) else (0, false)
  | [], s, k => rfl
  | a :: ks, s, k => by
    simp only [enumI, mgI, enumI_get ks (s + 1) k, List.mem_cons, List.idxOf_cons]
    by_cases h : k = a
    · subst h; simp
    · have h' : (a == k) = false := by simpa using fun z : a = k => h z.symm
      rw [if_neg h, h']
      by_cases h2 : k ∈ ks
      · simp only [h2, if_true, or_true, cond_false]
        simp only [Prod.mk.injEq, and_true]
        omega
      · simp [h2, h]
theorem enumI_set : ∀ (ks : List Int) (s : Nat) (k : Int), k ∉ ks → msI (enumI ks s) k ((s + ks.length : Nat) : Int) = enumI (ks ++ [k]) s
  | [], s, k, _ => rfl
  | a :: ks, s, k, h => by
    have h1 : k ≠ a := fun z => h (by simp [z])
    have h2 : k ∉ ks := fun z => h (by simp [z])
    simp only [enumI, msI, List.cons_append, if_neg h1, List.length_cons]
    rw [show s + (ks.length + 1) = s + 1 + ks.length by omega, enumI_set ks (s + 1) k h2]
def cla (cls : List Int) (a : Int) : Int := gt cls a.toNat
def idx (cls o : List Int) (a : Int) : Int := ((o.map (cla cls)).idxOf (cla cls a) : Nat)
def finN (cls : List Int) (l : List VNode) (o : List Int) (i : Int) : VNode := ⟨(nd l i).kind, (nd l i).int, (nd l i).label, (nd l i).args.map (idx cls o)⟩
def dfs (cls : List Int) (l : List VNode) : Nat → Int → List Int → List Int
  | 0, _, o => o
  | k + 1, i, o => if cla cls i ∈ o.map (cla cls) then o else (nd l i).args.foldl (fun o a => dfs cls l k a o) (o ++ [i])
structure Vs (cls : List Int) (n : Nat) (o : List Int) : Prop where
  nod : (o.map (cla cls)).Nodup
  rng : ∀ x ∈ o, 0 ≤ x ∧ x < n
structure Ps (cls : List Int) (l : List VNode) (o o' : List Int) (ns ns' : List VNode) : Prop where
  vs : Vs cls l.length o'
  pre : ∃ t, o' = o ++ t
  len : ns'.length = o'.length
  old : ∀ k, k < o.length → ns'[k]? = ns[k]?
  new : ∀ k, o.length ≤ k → k < o'.length → ns'[k]? = some (finN cls l o' (gt o' k))
  arg : ∀ k, o.length ≤ k → k < o'.length → ∀ a ∈ (nd l (gt o' k)).args, cla cls a ∈ o'.map (cla cls)
theorem Vs.few {cls : List Int} {n : Nat} {o : List Int} (v : Vs cls n o) : o.length ≤ n := by
  have hn : o.Nodup := by
    have := v.nod
    unfold List.Nodup at this ⊢
    rw [List.pairwise_map] at this
    exact List.Pairwise.imp (fun h e => h (by rw [e])) this
  have := hn.length_le_of_subset (l₂ := ints n) (fun x hx => mem_ints.2 (v.rng x hx))
  rwa [ints_length] at this
theorem Ps.refl {cls : List Int} {l : List VNode} {o : List Int} {ns : List VNode} (v : Vs cls l.length o) (h : ns.length = o.length) : Ps cls l o o ns ns :=
  ⟨v, ⟨[], by simp⟩, h, fun _ _ => rfl, fun k h1 h2 => by omega, fun k h1 h2 => by omega⟩
theorem gt_append {a b : List Int} {k : Nat} (h : k < a.length) : gt (a ++ b) k = gt a k := by
  unfold gt; rw [List.getD_eq_getElem?_getD, List.getD_eq_getElem?_getD, List.getElem?_append_left h]
theorem idx_append {cls o t : List Int} {a : Int} (h : cla cls a ∈ o.map (cla cls)) : idx cls (o ++ t) a = idx cls o a := by
  unfold idx; rw [List.map_append, List.idxOf_append, if_pos h]
theorem finN_append {cls : List Int} {l : List VNode} {o t : List Int} {i : Int} (h : ∀ a ∈ (nd l i).args, cla cls a ∈ o.map (cla cls)) : finN cls l (o ++ t) i = finN cls l o i := by
  unfold finN
  congr 1
  exact List.map_congr_left fun a ha => idx_append (h a ha)
theorem Ps.trans {cls : List Int} {l : List VNode} {o o1 o2 : List Int} {ns n1 n2 : List VNode} (a : Ps cls l o o1 ns n1) (b : Ps cls l o1 o2 n1 n2) : Ps cls l o o2 ns n2 := by
  obtain ⟨t1, rfl⟩ := a.pre
  obtain ⟨t2, rfl⟩ := b.pre
  have hl : (o ++ t1).length = o.length + t1.length := by simp
  refine ⟨b.vs, ⟨t1 ++ t2, by simp⟩, b.len, fun k hk => (b.old k (by omega)).trans (a.old k hk), fun k h1 h2 => ?_, fun k h1 h2 x hx => ?_⟩
  · by_cases h : k < (o ++ t1).length
    · rw [b.old k h, a.new k h1 h, gt_append h, finN_append (a.arg k h1 h)]
    · exact b.new k (by omega) h2
  · by_cases h : k < (o ++ t1).length
    · rw [gt_append h] at hx
      rw [List.map_append]
      exact List.mem_append_left _ (a.arg k h1 h x hx)
    · exact b.arg k (by omega) h2 x hx
section
variable {m : Nat} {cls : List Int} {l : List VNode} {root : Int}
abbrev RecT := Int → (List (Int × Int)) → (List Int) → VTree → VTree → Option (Int × (List (Int × Int)) × VTree)
def Visit (cls : List Int) (l : List VNode) (root : Int) (rec : RecT) (df : Int → List Int → List Int) (need : Nat) : Prop := ∀ (i : Int) (o : List Int) (ns : List VNode), 0 ≤ i → i < l.length → Vs cls l.length o → ns.length = o.length → l.length < need + o.length →
  ∃ ns', rec i (enumI (o.map (cla cls)) 0) cls ⟨ns, 0⟩ ⟨l, root⟩ = some (idx cls (df i o) i, enumI ((df i o).map (cla cls)) 0, ⟨ns', 0⟩) ∧ Ps cls l o (df i o) ns ns' ∧ cla cls i ∈ (df i o).map (cla cls)
theorem vis_l0 {rec : RecT} {df : Int → List Int → List Int} {need : Nat} (hm : 2 ^ 30 ≤ m) (ok : Okl l) (V : Visit cls l root rec df need) {v : VNode} (h8 : v.args.length ≤ 8) (ha : ∀ a ∈ v.args, 0 ≤ a ∧ a < l.length) {o0 : List Int} {ns0 : List VNode} (hneed : l.length < need + o0.length) : ∀ (f t : Nat) (o : List Int) (ns : List VNode), v.args.length - t < f → t ≤ v.args.length → Ps cls l o0 o ns0 ns → (∀ a ∈ v.args.take t, cla cls a ∈ o.map (cla cls)) →
    ∃ o' ns' x, o' = (v.args.drop t).foldl (fun o a => df a o) o ∧ tree_least_1.l0 m cls ⟨l, root⟩ rec v f ((v.args.take t).map (idx cls o)) (t : Int) (enumI (o.map (cla cls)) 0) ⟨ns, 0⟩ = some (v.args.map (idx cls o'), x, enumI (o'.map (cla cls)) 0, ⟨ns', 0⟩) ∧ Ps cls l o0 o' ns0 ns' ∧ ∀ a ∈ v.args, cla cls a ∈ o'.map (cla cls)
  | 0, t, o, ns, hf, _, _, _ => absurd hf (by omega)
  | f + 1, t, o, ns, hf, ht, P, hin => by
    have p30 : (2 : Nat) ^ 30 = 1073741824 := by decide
    unfold tree_least_1.l0
    by_cases h : t < v.args.length
    · obtain ⟨b0, b1⟩ := ha _ (gt_mem h)
      have ho0 : o0.length ≤ o.length := by obtain ⟨s, rfl⟩ := P.pre; simp
      obtain ⟨ns1, k1, P1, hi1⟩ := V (gt v.args t) o ns b0 b1 P.vs P.len (by omega)
      obtain ⟨s, hs⟩ := P1.pre
      have hT1 : v.args.take (t + 1) = v.args.take t ++ [gt v.args t] := by rw [List.take_add_one, gt_some h]; rfl
      have hD : v.args.drop t = gt v.args t :: v.args.drop (t + 1) := by
        obtain ⟨h4, h5⟩ := List.getElem?_eq_some_iff.1 (gt_some h)
        rw [← h5]; exact List.drop_eq_getElem_cons h4
      have hin1 : ∀ a ∈ v.args.take (t + 1), cla cls a ∈ (df (gt v.args t) o).map (cla cls) := fun a ha => by
        rw [hT1] at ha
        rcases List.mem_append.1 ha with ha | ha
        · rw [hs, List.map_append]; exact List.mem_append_left _ (hin a ha)
        · simp only [List.mem_singleton] at ha; subst ha; exact hi1
      obtain ⟨o', ns', x, e, k2, P2, h2⟩ := vis_l0 hm ok V h8 ha hneed f (t + 1) (df (gt v.args t) o) ns1 (by omega) (by omega) (P.trans P1) hin1
      refine ⟨o', ns', x, by rw [hD]; exact e, ?_, P2, h2⟩
      have e1 : i64.wrap ((t : Int) + 1) = ((t + 1 : Nat) : Int) := by rw [i64_id (by omega) (by omega)]; omega
      have hap : app 8 ((v.args.take t).map (idx cls o)) [idx cls (df (gt v.args t) o) (gt v.args t)] = some ((v.args.take (t + 1)).map (idx cls (df (gt v.args t) o))) := by
        unfold app
        rw [if_pos (by simp; omega), hT1, List.map_append]
        congr 2
        exact List.map_congr_left fun a ha => by rw [hs]; exact (idx_append (hin a ha)).symm
      rw [if_pos (by simp only [decide_eq_true_eq]; omega), ix_gt h, Option.bind_some, k1, Option.bind_some, hap, Option.bind_some, e1]
      exact k2
    · have : t = v.args.length := by omega
      subst this
      rw [List.take_length] at hin ⊢
      exact ⟨o, ns, _, by rw [List.drop_length]; rfl, by rw [if_neg (by simp)], P, hin⟩
theorem visit_spec (hm : 2 ^ 30 ≤ m) (ok : Okl l) (hc : cls.length = l.length) : ∀ k, Visit cls l root (tree_least_1.f m k) (dfs cls l k) k
  | 0 => fun i o ns h0 h1 v hl hn => absurd v.few (by omega)
  | k + 1 => fun i o ns h0 h1 v hl hn => by
    have p30 : (2 : Nat) ^ 30 = 1073741824 := by decide
    have h8000 := ok.1
    have hfew := v.few
    show ∃ ns', tree_least_1.b m (tree_least_1.f m k) i (enumI (o.map (cla cls)) 0) cls ⟨ns, 0⟩ ⟨l, root⟩ = _ ∧ _
    unfold tree_least_1.b
    have hx : ix cls i = some (cla cls i) := ix_gt' (by omega) (by omega)
    rw [hx, Option.bind_some, enumI_get, Nat.zero_add]
    by_cases h : cla cls i ∈ o.map (cla cls)
    · have hd : dfs cls l (k + 1) i o = o := by unfold dfs; rw [if_pos h]
      rw [hd, if_pos h]
      exact ⟨ns, rfl, Ps.refl v hl, h⟩
    · have hd : dfs cls l (k + 1) i o = (nd l i).args.foldl (fun o a => dfs cls l k a o) (o ++ [i]) := by
        show (if cla cls i ∈ o.map (cla cls) then o else (nd l i).args.foldl (fun o a => dfs cls l k a o) (o ++ [i])) = _
        rw [if_neg h]
      have v1 : Vs cls l.length (o ++ [i]) := by
        refine ⟨?_, fun x hx => ?_⟩
        · rw [List.map_append, List.nodup_append]
          refine ⟨v.nod, by simp, fun a ha b hb => ?_⟩
          simp only [List.map_cons, List.map_nil, List.mem_singleton] at hb
          subst hb; intro e; subst e; exact h ha
        · rcases List.mem_append.1 hx with hx | hx
          · exact v.rng x hx
          · simp only [List.mem_singleton] at hx; subst hx; exact ⟨h0, h1⟩
      have hfew1 := v1.few
      simp only [List.length_append, List.length_cons, List.length_nil] at hfew1
      have hap : app 56 ns [(⟨(nd l i).kind, (nd l i).int, (nd l i).label, []⟩ : VNode)] = some (ns ++ [⟨(nd l i).kind, (nd l i).int, (nd l i).label, []⟩]) := by
        unfold app; rw [if_pos (by simp; omega)]
      have hm1 : msI (enumI (o.map (cla cls)) 0) (cla cls i) ((ns.length : Nat) : Int) = enumI ((o ++ [i]).map (cla cls)) 0 := by
        have := enumI_set (o.map (cla cls)) 0 (cla cls i) h
        rw [Nat.zero_add, List.length_map, ← hl] at this
        rw [this, List.map_append]; rfl
      obtain ⟨n1, n2⟩ := ok.2 _ (nd_mem h0 h1)
      have P0 : Ps cls l (o ++ [i]) (o ++ [i]) (ns ++ [⟨(nd l i).kind, (nd l i).int, (nd l i).label, []⟩]) (ns ++ [⟨(nd l i).kind, (nd l i).int, (nd l i).label, []⟩]) := Ps.refl v1 (by simp [hl])
      obtain ⟨o', ns', x, e, k2, P2, h2⟩ := vis_l0 (m := m) (v := nd l i) (need := k) hm ok (visit_spec hm ok hc k) n1 n2 (o0 := o ++ [i]) (by simp; omega) m 0 (o ++ [i]) _ (by omega) (by omega) P0 (fun a ha => by simp at ha)
      rw [List.drop_zero] at e
      rw [List.take_zero, List.map_nil] at k2
      have k2 : tree_least_1.l0 m cls ⟨l, root⟩ (tree_least_1.f m k) (nd l i) m [] 0 _ _ = _ := k2
      obtain ⟨s, hs⟩ := P2.pre
      have hol : o.length < o'.length := by rw [hs]; simp
      have hbase : ns'[o.length]? = some ⟨(nd l i).kind, (nd l i).int, (nd l i).label, []⟩ := by
        rw [P2.old _ (by simp), ← hl, List.getElem?_append_right (Nat.le_refl _), Nat.sub_self]; rfl
      have hix : ix ns' ((ns.length : Nat) : Int) = some ⟨(nd l i).kind, (nd l i).int, (nd l i).label, []⟩ := by
        unfold ix; rw [if_pos (by omega), Int.toNat_natCast, hl, hbase]
      have hgt : gt o' o.length = i := by
        rw [hs, gt_append (by simp)]
        unfold gt; rw [List.getD_eq_getElem?_getD, List.getElem?_append_right (Nat.le_refl _), Nat.sub_self]; rfl
      have hidx : idx cls o' i = (o.length : Nat) := by
        rw [hs, idx_append (by simp)]
        unfold idx
        rw [List.map_append, List.idxOf_append, if_neg h]; simp
      rw [hd, ← e, if_neg h, if_neg (by simp), Option.bind_some, ix_nd h0 h1, Option.bind_some, hap, Option.bind_some, hm1, k2, Option.bind_some]
      dsimp only
      rw [hix, Option.bind_some, Int.toNat_natCast, hidx, hl]
      refine ⟨_, rfl, ⟨P2.vs, ⟨[i] ++ s, by rw [hs]; simp⟩, by simpa using P2.len, fun q hq => ?_, fun q h3 h4 => ?_, fun q h3 h4 a ha => ?_⟩, by rw [hs]; simp⟩
      · rw [List.getElem?_set_ne (by omega), P2.old q (by simp; omega), List.getElem?_append_left (by omega)]
      · by_cases hq : q = o.length
        · subst hq
          rw [List.getElem?_set_self (by rw [P2.len]; omega), hgt]; rfl
        · rw [List.getElem?_set_ne (by omega)]
          exact P2.new q (by simp; omega) h4
      · by_cases hq : q = o.length
        · subst hq; rw [hgt] at ha; exact h2 a ha
        · exact P2.arg q (by simp; omega) h4 a ha
end
theorem least_spec {m : Nat} (hm : 2 ^ 41 ≤ m) {t : VTree} (ok : Okl t.nodes) (h1 : 1 ≤ t.nodes.length) (r0 : 0 ≤ t.root) (r1 : t.root < t.nodes.length) (Inv : List Int → Prop)
    (hI0 : ∀ d out, d.Perm (ints t.nodes.length) → (Ord (fun x y => cT (nd t.nodes x) (nd t.nodes y)) (ints t.nodes.length) → Sg (fun x y => cT (nd t.nodes x) (nd t.nodes y)) d 0 t.nodes.length) → (∀ k, k < t.nodes.length → gt out (gt d k).toNat = rk t.nodes d k) → Inv out)
    (hI : ∀ out many ks next, Part t.nodes.length out many → Inv out → Keys t.nodes out t.nodes.length ks → next.length = t.nodes.length → (∀ i, i < t.nodes.length → gt next i = (ks.idxOf (key out (nd t.nodes i) i) : Int)) → Inv next) :
    ∃ cls many ks ns, tree_least.f m t = some ⟨ns, 0⟩ ∧ Part t.nodes.length cls many ∧ Inv cls ∧ Keys t.nodes cls t.nodes.length ks ∧ ks.length = many + 1 ∧ Ps cls t.nodes [] (dfs cls t.nodes m t.root []) [] ns ∧ cla cls t.root ∈ (dfs cls t.nodes m t.root []).map (cla cls) := by
  have p30 : (2 : Nat) ^ 30 = 1073741824 := by decide
  have p41 : (2 : Nat) ^ 41 = 2199023255552 := by decide
  have h8000 := ok.1
  obtain ⟨cls, many, ks, k1, P, I, K, hks⟩ := classes_spec hm ok h1 Inv hI0 hI
  obtain ⟨ns, k2, P2, h2⟩ := visit_spec (m := m) (root := t.root) (by omega) ok P.len m t.root [] [] r0 r1 ⟨by simp, fun x hx => by simp at hx⟩ rfl (by simp; omega)
  refine ⟨cls, many, ks, ns, ?_, P, I, K, hks, P2, h2⟩
  unfold tree_least.f
  have k2 : tree_least_1.f m m t.root [] cls ⟨[], 0⟩ t = _ := k2
  rw [k1, Option.bind_some, k2]; rfl
end Go.Proofs.YtmekcfdllhphlaaDoor

namespace Go.Proofs.YtmekcfdllhphlaaDoor
open Go Go.R
open Go.IntKind (i64 u64 u8 u32)
def ann54 : Ann := mkA [0, 1, 5] [] [0, 4, 4, 7] [] []
def wr_number.l0 (m : Nat)  : Nat → Int → (List Int) → Option (Int × (List Int))
  | 0, _, _ => none
  | k + 1, n1, w1 => if (decide (n1 ≥ (128 : Int))) = true then ((wB1 w1 ([bitsOr .u8 (u8.wrap n1) (128 : Int)])).bind fun bs0 => wr_number.l0 m k (shR .u64 n1 7) bs0) else (some ((n1, w1)))
def wr_number.f (m : Nat) (w0 : List Int) (n0 : Int) : Option ((List Int)) := (wr_number.l0 m m n0 w0).bind fun out0 => match out0 with | (n2, w2) => (wB1 w2 ([u8.wrap n2])).bind fun bs1 => some bs1
def wr_number.fin (L : Mem) (ad_w0 : Nat) (is_w0_0 : Nat) (w0 : List Int) (n0 : Int) (r : (List Int)) (s : St) : Prop := ∃ iw0_0 : Nat, resultA Tryd.prog (s.open ann54) Tryd.f54.results.toList = some (.tup []) ∧ Has s.h ((ad_w0, .ob [.rs iw0_0 0 r.length 1, .int .i64 (0 : Int), .int .i8 (0 : Int)]) :: (iw0_0, .row 5 (eByte.l r)) :: L)
def S54 (cf : CallF) (m : Nat) : Prop := ∀ (w0 : List Int) (n0 : Int) (r : (List Int)), wr_number.f m w0 n0 = some r → ∀ h L (ad_w0 : Nat) (is_w0_0 : Nat), Has h ((ad_w0, .ob [.rs is_w0_0 0 w0.length 1, .int .i64 (0 : Int), .int .i8 (0 : Int)]) :: (is_w0_0, .row 5 (eByte.l w0)) :: L) → ∀ xs, xs.map canonArg = [.ptr ad_w0 0, .int .u64 n0] → ∃ iw0_0 h', cf 54 xs h = some (.tup [], h') ∧ Has h' ((ad_w0, .ob [.rs iw0_0 0 r.length 1, .int .i64 (0 : Int), .int .i8 (0 : Int)]) :: (iw0_0, .row 5 (eByte.l r)) :: L)
section
variable {cf : CallF} {m : Nat}
theorem wr_number.l0_ok (L : Mem) (ad_w0 : Nat) (is_w0_0 : Nat) (w0 : List Int) (n0 : Int)  (S53_ : S53 cf m) : LoopT Tryd.prog cf ann54 m (sub [0, 0, 0] (codeOf Tryd.f54)) (fun k (σ : Int × (List Int)) => wr_number.l0 m k σ.1 σ.2) (fun σ s => match σ with | (n1, w1) => ∃ ad0 h0, s = ⟨[.ptr ad_w0 0, .int .u64 n1, .any], [], h0⟩ ∧ Has h0 ((ad_w0, .ob [.rs ad0 0 w1.length 1, .int .i64 (0 : Int), .int .i8 (0 : Int)]) :: (ad0, .row 5 (eByte.l w1)) :: L)) (fun out e s => (e = .exit 0 ∧ ∃ n1 w1, (n1, w1) = out ∧ ∃ x5_ ad0 h0, s = ⟨[.ptr ad_w0 0, .int .u64 n1, x5_], [], h0⟩ ∧ Has h0 ((ad_w0, .ob [.rs ad0 0 w1.length 1, .int .i64 (0 : Int), .int .i8 (0 : Int)]) :: (ad0, .row 5 (eByte.l w1)) :: L))) := by
  refine lpT (fun _ => rfl) ?_
  rintro k ⟨n1, w1⟩ s out ⟨ad0, h0, rfl, o0⟩ H
  have H : wr_number.l0 m (k + 1) n1 w1 = some out := H
  refine qq <| qq <| q0 <| qc H (fun c0 H => ?_) (fun c0 H => ?_)
  · refine qk <| qq <| qb 1 ?_
    obtain ⟨bs0, e0, H⟩ := bsi H
    obtain ⟨ad1, h1, e1, o1⟩ := wb_own1 (bs := w1) S53_ o0 e0
    exact qr [.a 6 e1] <| q0 <| ⟨(shR .u64 n1 7, bs0), ⟨ad1, h1, by kernel_rfl, o1⟩, H⟩
  · exact qx 0 <| ⟨rfl, n1, w1, oi H, .bool (decide (n1 ≥ (128 : Int))), ad0, h0, by kernel_rfl, o0⟩
theorem wr_number_body {ann : FuncId → Ann} (ha : ann 54 = ann54) (S53_ : S53 cf m) (w0 : List Int) (n0 : Int) (h : AHeap) (L : Mem) (ad_w0 : Nat) (is_w0_0 : Nat)  (o : Has h ((ad_w0, .ob [.rs is_w0_0 0 w0.length 1, .int .i64 (0 : Int), .int .i8 (0 : Int)]) :: (is_w0_0, .row 5 (eByte.l w0)) :: L)) {out : (List Int)} (H : wr_number.f m w0 n0 = some out) :
    ∃ r h', bodyA Tryd.prog ann cf m 54 [.ptr ad_w0 0, .int .u64 n0] h = some (r, h') ∧ ∃ iw0_0 : Nat, r = .tup [] ∧ Has h' ((ad_w0, .ob [.rs iw0_0 0 out.length 1, .int .i64 (0 : Int), .int .i8 (0 : Int)]) :: (iw0_0, .row 5 (eByte.l out)) :: L) := by
  refine body_of_ends2 (fn := Tryd.f54) ha Tryd.func54 (by kernel_rfl) (by kernel_rfl) ?_
  refine ends_fin (Q := fun s => wr_number.fin L ad_w0 is_w0_0 w0 n0 out s) (fun _ _ ⟨h1, iw0_0, h2, h3⟩ => ⟨h1, _, h2, iw0_0, rfl, h3⟩) ?_
  have H : _ = some out := H
  unfold wr_number.f at H
  show Enz _ cf ann54 m _ ⟨[.ptr ad_w0 0, .int .u64 n0, .any], [], h⟩ _
  refine qq <| qb 0 ?_
  obtain ⟨out0, e2, H⟩ := bsi H
  refine ql (wr_number.l0_ok L ad_w0 is_w0_0 w0 n0  S53_ (n0, w0) _ _ ⟨is_w0_0, h, by kernel_rfl, o⟩ e2) ?_
  rintro e s ⟨rfl, n2, w2, rfl, g0, ad2, h2, rfl, o2⟩
  try dsimp only at H
  obtain ⟨bs1, e3, H⟩ := bsi H
  obtain ⟨ad3, h3, e4, o3⟩ := wb_own1 (bs := w2) S53_ o2 e3
  obtain rfl := oi H
  exact qr [.a 5 e4] <| ⟨.inr rfl, ⟨ad3, by kernel_rfl, he o3⟩⟩
end
end Go.Proofs.YtmekcfdllhphlaaDoor

namespace Go.Proofs.YtmekcfdllhphlaaDoor
open Go Go.R
open Go.IntKind (i64 u64 u8 u32)
end Go.Proofs.YtmekcfdllhphlaaDoor

namespace Go.Proofs.YtmekcfdllhphlaaDoor
open Go Go.R
open Go.IntKind (i64 u64 u8 u32)
end Go.Proofs.YtmekcfdllhphlaaDoor

namespace Go.Proofs.YtmekcfdllhphlaaDoor
open Go Go.R
open Go.IntKind (i64 u64 u8 u32)
theorem wB1_some {bs news : List Int} (h : bs ≠ []) (hn : news ≠ []) (hl : bs.length + news.length ≤ 140737488355328) : wB1 bs news = some (bs ++ news) := by
  unfold wB1 wB
  rw [if_neg h, if_pos ⟨hl, hn⟩]
theorem wnum_l (m : Nat) : ∀ (k n : Nat) (w : List Int) (f : Nat), k < f → n < 128 ^ (k + 1) → n < 2 ^ 64 → w ≠ [] → w.length + k ≤ 140737488355328 →
    ∃ (x : Nat) (pre : List Int), x < 128 ∧ wr_number.l0 m f (n : Int) w = some ((x : Int), w ++ pre) ∧ pre ++ [(x : Int)] = encN n ∧ pre.length ≤ k
  | _, _, _, 0, hf, _, _, _, _ => absurd hf (by omega)
  | k, n, w, f + 1, hf, hk, hn, hw, hl => by
    by_cases h : n < 128
    · refine ⟨n, [], h, ?_, by rw [encN_small h]; rfl, Nat.zero_le _⟩
      unfold wr_number.l0
      rw [if_neg (by simp; omega), List.append_nil]
    · cases k with
      | zero => simp at hk; omega
      | succ k =>
        have hd : n / 128 < 128 ^ (k + 1) := by
          rw [Nat.div_lt_iff_lt_mul (by omega)]
          calc n < 128 ^ (k + 1 + 1) := hk
            _ = _ := by rw [Nat.pow_succ]
        obtain ⟨x, pre, h1, h2, h3, h4⟩ := wnum_l m k (n / 128) (w ++ [((n % 128 + 128 : Nat) : Int)]) f (by omega) hd (by omega) (by simp) (by simp; omega)
        refine ⟨x, ((n % 128 + 128 : Nat) : Int) :: pre, h1, ?_, by rw [encN_big h, List.cons_append, h3], by simp; omega⟩
        unfold wr_number.l0
        rw [if_pos (by simp; omega), u8_wrap, or128, wB1_some hw (by simp) (by simp; omega), Option.bind_some, shr7, h2, List.append_assoc]
        rfl
theorem wnum {m n : Nat} {w : List Int} (hm : 11 ≤ m) (hn : n < 2 ^ 64) (hw : w ≠ []) (hl : w.length + 20 ≤ 140737488355328) : wr_number.f m w (n : Int) = some (w ++ encN n) := by
  obtain ⟨x, pre, h1, h2, h3, h4⟩ := wnum_l m 10 n w m (by omega) (by omega) hn hw (by omega)
  unfold wr_number.f
  rw [h2, Option.bind_some]
  simp only
  rw [u8_wrap, show ((x : Int) % 256) = (x : Int) by omega, wB1_some (by simp [hw]) (by simp) (by simp; omega), Option.bind_some, List.append_assoc, ← h3]
end Go.Proofs.YtmekcfdllhphlaaDoor

namespace Go.Proofs.YtmekcfdllhphlaaDoor
open Go Go.R
open Go.IntKind (i64 u64 u8 u32)
def ann74 : Ann := mkA [0, 1] [] [0, 3] [] []
def wr_text.f (m : Nat) (w0 : List Int) (s0 : ByteArray) : Option ((List Int)) := (wr_number.f m w0 (u64.wrap (s0.size : Int))).bind fun x0 => (wB1 x0 (strBytes s0)).bind fun bs0 => some bs0
def wr_text.fin (L : Mem) (ad_w0 : Nat) (is_w0_0 : Nat) (w0 : List Int) (s0 : ByteArray) (r : (List Int)) (s : St) : Prop := ∃ iw0_0 : Nat, resultA Tryd.prog (s.open ann74) Tryd.f74.results.toList = some (.tup []) ∧ Has s.h ((ad_w0, .ob [.rs iw0_0 0 r.length 1, .int .i64 (0 : Int), .int .i8 (0 : Int)]) :: (iw0_0, .row 5 (eByte.l r)) :: L)
def S74 (cf : CallF) (m : Nat) : Prop := ∀ (w0 : List Int) (s0 : ByteArray) (r : (List Int)), wr_text.f m w0 s0 = some r → ∀ h L (ad_w0 : Nat) (is_w0_0 : Nat), Has h ((ad_w0, .ob [.rs is_w0_0 0 w0.length 1, .int .i64 (0 : Int), .int .i8 (0 : Int)]) :: (is_w0_0, .row 5 (eByte.l w0)) :: L) → ∀ xs, xs.map canonArg = [.ptr ad_w0 0, .str s0] → ∃ iw0_0 h', cf 74 xs h = some (.tup [], h') ∧ Has h' ((ad_w0, .ob [.rs iw0_0 0 r.length 1, .int .i64 (0 : Int), .int .i8 (0 : Int)]) :: (iw0_0, .row 5 (eByte.l r)) :: L)
section
variable {cf : CallF} {m : Nat}
theorem wr_text_body {ann : FuncId → Ann} (ha : ann 74 = ann74) (S54_ : S54 cf m) (S101_ : S101 cf m) (w0 : List Int) (s0 : ByteArray) (h : AHeap) (L : Mem) (ad_w0 : Nat) (is_w0_0 : Nat)  (o : Has h ((ad_w0, .ob [.rs is_w0_0 0 w0.length 1, .int .i64 (0 : Int), .int .i8 (0 : Int)]) :: (is_w0_0, .row 5 (eByte.l w0)) :: L)) {out : (List Int)} (H : wr_text.f m w0 s0 = some out) :
    ∃ r h', bodyA Tryd.prog ann cf m 74 [.ptr ad_w0 0, .str s0] h = some (r, h') ∧ ∃ iw0_0 : Nat, r = .tup [] ∧ Has h' ((ad_w0, .ob [.rs iw0_0 0 out.length 1, .int .i64 (0 : Int), .int .i8 (0 : Int)]) :: (iw0_0, .row 5 (eByte.l out)) :: L) := by
  refine body_of_ends2 (fn := Tryd.f74) ha Tryd.func74 (by kernel_rfl) (by kernel_rfl) ?_
  refine ends_fin (Q := fun s => wr_text.fin L ad_w0 is_w0_0 w0 s0 out s) (fun _ _ ⟨h1, iw0_0, h2, h3⟩ => ⟨h1, _, h2, iw0_0, rfl, h3⟩) ?_
  have H : _ = some out := H
  unfold wr_text.f at H
  show Enz _ cf ann74 m _ ⟨[.ptr ad_w0 0, .str s0], [], h⟩ _
  refine qq ?_
  obtain ⟨x0, e0, H⟩ := bsi H
  obtain ⟨ad0, h0, e1, o0⟩ := S54_ _ _ _ e0 h _ _ _ (o)  [.ptr ad_w0 0, .int .u64 (u64.wrap (s0.size : Int))] (can_cons (rfl) (can_cons (can_pure (pu_int)) (can_nil)))
  refine qr [.a 4 e1] ?_
  obtain ⟨bs0, e2, H⟩ := bsi H
  obtain ⟨ad1, h1, e3, o1⟩ := ws_own1 (bs := x0) S101_ o0 e2
  obtain rfl := oi H
  exact qr [.a 4 e3] <| ⟨.inr rfl, ⟨ad1, by kernel_rfl, he o1⟩⟩
end
end Go.Proofs.YtmekcfdllhphlaaDoor

