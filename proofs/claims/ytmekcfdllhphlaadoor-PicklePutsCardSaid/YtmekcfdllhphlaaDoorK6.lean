/- Part of the proof: Q123, Q122, PS1, Q118, Q106, Q77, Q107, Q78, Q79, Q80, Q62, Q52, Q34, Q51, Q32, PT6, Q119, PS2. -/
import Derived.Test.YtmekcfdllhphlaaDoorK5
set_option linter.unusedVariables false
set_option linter.unusedSimpArgs false
set_option maxRecDepth 100000
namespace Go.Proofs.YtmekcfdllhphlaaDoor
open Go Go.R
open Go.IntKind (i64 u64 u8 u32)
def ann123 : Ann := mkA [0, 1, 2, 3, 10, 13] [] [32, 0, 32, 32] [] []
def swapRangeC.l0 (m : Nat) (a0 : Int) (b0 : Int) (n0 : Int) : Nat → (List Int) → Int → Option ((List Int) × Int)
  | 0, _, _ => none
  | k + 1, data1, i0 => if (decide (i0 < n0)) = true then ((ix data1 (i64.wrap (b0 + i0))).bind fun v0 => (ix data1 (i64.wrap (a0 + i0))).bind fun v1 => (ix data1 (i64.wrap (a0 + i0))).bind fun v2 => (ix (data1.set (i64.wrap (a0 + i0)).toNat v0) (i64.wrap (b0 + i0))).bind fun v3 => swapRangeC.l0 m a0 b0 n0 k ((data1.set (i64.wrap (a0 + i0)).toNat v0).set (i64.wrap (b0 + i0)).toNat v1) (i64.wrap (i0 + (1 : Int)))) else (some ((data1, i0)))
def swapRangeC.f (m : Nat) (data0 : List Int) (a0 : Int) (b0 : Int) (n0 : Int) (cmp0 : Int → Int → Option (Int)) : Option ((List Int)) := (swapRangeC.l0 m a0 b0 n0 m data0 (0 : Int)).bind fun out0 => match out0 with | (data2, i1) => some data2
def swapRangeC.fin (L : Mem) (ad0 : Nat) (data0 : List Int) (a0 : Int) (b0 : Int) (n0 : Int) (cmp0 : Int → Int → Option (Int)) (r : (List Int)) (s : St) : Prop := resultA Tryd.prog (s.open ann123) Tryd.f123.results.toList = some (.tup []) ∧ Has s.h ((ad0, .sl data0.length 1 (eInt.l r)) :: L)
def S123 (cf : CallF) (m : Nat) : Prop := ∀ (data0 : List Int) (a0 : Int) (b0 : Int) (n0 : Int) (cmp0 : Int → Int → Option (Int)) (r : (List Int)), swapRangeC.f m data0 a0 b0 n0 cmp0 = some r → ∀ h L (n_data0 : Nat) (ad0 : Nat), Has h ((ad0, .sl n_data0 1 (eInt.l data0)) :: L) → ∀ (g4_ : FuncId) (cap4_ : List AV), canonArg (.fn g4_ cap4_) = .fn g4_ cap4_ → (∀ h K, Has h (K ++ L) → ∀ (a0 : Int) (a1 : Int) r, cmp0 a0 a1 = some r → cf g4_ ([.int .i64 a0, .int .i64 a1] ++ cap4_) h = some (.int .i64 r, h)) → ∀ xs, xs.map canonArg = [.rs ad0 0 n_data0 1, .int .i64 a0, .int .i64 b0, .int .i64 n0, .fn g4_ cap4_] → ∃ h', cf 123 xs h = some (.tup [], h') ∧ Has h' ((ad0, .sl n_data0 1 (eInt.l r)) :: L)
section
variable {cf : CallF} {m : Nat}
theorem swapRangeC.l0_ok (L : Mem) (ad0 : Nat) (g4_ : FuncId) (cap4_ : List AV) (data0 : List Int) (a0 : Int) (b0 : Int) (n0 : Int) (cmp0 : Int → Int → Option (Int))  (hc4_ : canonArg (.fn g4_ cap4_) = .fn g4_ cap4_) (Hp4_ : ∀ h K, Has h (K ++ L) → ∀ (a0 : Int) (a1 : Int) r, cmp0 a0 a1 = some r → cf g4_ ([.int .i64 a0, .int .i64 a1] ++ cap4_) h = some (.int .i64 r, h))  : LoopT Tryd.prog cf ann123 m (sub [1, 0, 0] (codeOf Tryd.f123)) (fun k (σ : (List Int) × Int) => swapRangeC.l0 m a0 b0 n0 k σ.1 σ.2) (fun σ s => match σ with | (data1, i0) => ∃ h0, s = ⟨[.rs ad0 0 data0.length 1, .int .i64 a0, .int .i64 b0, .int .i64 n0, .int .i64 i0, .any], [], h0⟩ ∧ Has h0 ((ad0, .sl data0.length 1 (eInt.l data1)) :: L)) (fun out e s => (e = .exit 0 ∧ ∃ data1 i0, (data1, i0) = out ∧ ∃ x0_ x1_ x2_ x3_ x10_ x13_ h0, s = ⟨[x0_, x1_, x2_, x3_, x10_, x13_], [], h0⟩ ∧ Has h0 ((ad0, .sl data0.length 1 (eInt.l data1)) :: L))) := by
  refine lpT (fun _ => rfl) ?_
  rintro k ⟨data1, i0⟩ s out ⟨h0, rfl, o0⟩ H
  have H : swapRangeC.l0 m a0 b0 n0 (k + 1) data1 i0 = some out := H
  refine qq <| qq <| q0 <| qc H (fun c0 H => ?_) (fun c0 H => ?_)
  · refine qk <| qq <| qb 1 ?_
    obtain ⟨v0, e0, H⟩ := bsi H
    obtain ⟨v1, e1, H⟩ := bsi H
    obtain ⟨v2, e2, H⟩ := bsi H
    obtain ⟨h1, e3, o1⟩ := st_own (P := Tryd.prog) (tf := 3) (E := eInt) (l := data1) (q := 0) (v := v0) (x := .int .i64 v0) o0 rfl Z3 e2 rfl rfl
    obtain ⟨v3, e4, H⟩ := bsi H
    obtain ⟨h2, e5, o2⟩ := st_own (P := Tryd.prog) (tf := 3) (E := eInt) (l := (data1.set (i64.wrap (a0 + i0)).toNat v0)) (q := 0) (v := v1) (x := .int .i64 v1) o1 rfl Z3 e4 rfl rfl
    exact qr [.v 12 (ia_ownL (k := .i64) (E := eInt) (l := data1) (q := 0) T42 o0 rfl e0), .v 13 (ld_own0  (E := eInt) (l := data1) (q := 0) o0 rfl A3 e0 rfl), .v 18 (ia_ownL (k := .i64) (E := eInt) (l := data1) (q := 0) T42 o0 rfl e1), .v 19 (ld_own0  (E := eInt) (l := data1) (q := 0) o0 rfl A3 e1 rfl), .v 20 (ia_ownL (k := .i64) (E := eInt) (l := data1) (q := 0) T42 o0 rfl e2), .w 21 e3, .v 22 (ia_ownL (k := .i64) (E := eInt) (l := (data1.set (i64.wrap (a0 + i0)).toNat v0)) (q := 0) T42 o1 rfl e4), .w 23 e5] <| q0 <| ⟨((data1.set (i64.wrap (a0 + i0)).toNat v0).set (i64.wrap (b0 + i0)).toNat v1, i64.wrap (i0 + (1 : Int))), ⟨h2, by kernel_rfl, o2⟩, H⟩
  · exact qx 0 <| ⟨rfl, data1, i0, oi H, .rs ad0 0 data0.length 1, .int .i64 a0, .int .i64 b0, .int .i64 n0, .int .i64 i0, .bool (decide (i0 < n0)), h0, by kernel_rfl, o0⟩
theorem swapRangeC_body {ann : FuncId → Ann} (ha : ann 123 = ann123)  (data0 : List Int) (a0 : Int) (b0 : Int) (n0 : Int) (cmp0 : Int → Int → Option (Int)) (h : AHeap) (L : Mem) (ad0 : Nat) (g4_ : FuncId) (cap4_ : List AV)  (hc4_ : canonArg (.fn g4_ cap4_) = .fn g4_ cap4_) (Hp4_ : ∀ h K, Has h (K ++ L) → ∀ (a0 : Int) (a1 : Int) r, cmp0 a0 a1 = some r → cf g4_ ([.int .i64 a0, .int .i64 a1] ++ cap4_) h = some (.int .i64 r, h)) (o : Has h ((ad0, .sl data0.length 1 (eInt.l data0)) :: L)) {out : (List Int)} (H : swapRangeC.f m data0 a0 b0 n0 cmp0 = some out) :
    ∃ r h', bodyA Tryd.prog ann cf m 123 [.rs ad0 0 data0.length 1, .int .i64 a0, .int .i64 b0, .int .i64 n0, .fn g4_ cap4_] h = some (r, h') ∧ r = .tup [] ∧ Has h' ((ad0, .sl data0.length 1 (eInt.l out)) :: L) := by
  refine body_of_ends2 (fn := Tryd.f123) ha Tryd.func123 (by kernel_rfl) (by kernel_rfl) ?_
  refine ends_fin (Q := fun s => swapRangeC.fin L ad0 data0 a0 b0 n0 cmp0 out s) (fun _ _ ⟨h1, h2, h3⟩ => ⟨h1, _, h2, rfl, h3⟩) ?_
  have H : _ = some out := H
  unfold swapRangeC.f at H
  show Enz _ cf ann123 m _ ⟨[.rs ad0 0 data0.length 1, .int .i64 a0, .int .i64 b0, .int .i64 n0, .any, .any], [], h⟩ _
  refine q1 <| qb 0 ?_
  obtain ⟨out0, e6, H⟩ := bsi H
  refine ql (swapRangeC.l0_ok L ad0 g4_ cap4_ data0 a0 b0 n0 cmp0  hc4_ Hp4_  (data0, (0 : Int)) _ _ ⟨h, by kernel_rfl, o⟩ e6) ?_
  rintro e s ⟨rfl, data2, i1, rfl, g0, g1, g2, g3, g4, g5, h3, rfl, o3⟩
  try dsimp only at H
  obtain rfl := oi H
  exact ⟨.inr rfl, ⟨by kernel_rfl, he o3⟩⟩
end
end Go.Proofs.YtmekcfdllhphlaaDoor

namespace Go.Proofs.YtmekcfdllhphlaaDoor
open Go Go.R
open Go.IntKind (i64 u64 u8 u32)
def ann122 : Ann := mkA [0, 1, 2, 3, 4, 10, 11, 20, 23] [] [450, 394, 266, 138, 394, 394, 394, 394, 511] [] []
def rotateC.l0 (m : Nat) (m0 : Int) (cmp0 : Int → Int → Option (Int)) : Nat → (List Int) → Int → Int → Option ((List Int) × Int × Int)
  | 0, _, _, _ => none
  | k + 1, data1, i0, j0 => if (!(i0 == j0)) = true then (if (decide (i0 > j0)) = true then ((swapRangeC.f m data1 (i64.wrap (m0 - i0)) m0 j0 cmp0).bind fun x0 => rotateC.l0 m m0 cmp0 k x0 (i64.wrap (i0 - j0)) j0) else ((swapRangeC.f m data1 (i64.wrap (m0 - i0)) (i64.wrap (i64.wrap (m0 + j0) - i0)) i0 cmp0).bind fun x1 => rotateC.l0 m m0 cmp0 k x1 i0 (i64.wrap (j0 - i0)))) else (some ((data1, i0, j0)))
def rotateC.f (m : Nat) (data0 : List Int) (a0 : Int) (m0 : Int) (b0 : Int) (cmp0 : Int → Int → Option (Int)) : Option ((List Int)) := (rotateC.l0 m m0 cmp0 m data0 (i64.wrap (m0 - a0)) (i64.wrap (b0 - m0))).bind fun out0 => match out0 with | (data2, i1, j1) => (swapRangeC.f m data2 (i64.wrap (m0 - i1)) m0 i1 cmp0).bind fun x2 => some x2
def rotateC.fin (L : Mem) (ad0 : Nat) (data0 : List Int) (a0 : Int) (m0 : Int) (b0 : Int) (cmp0 : Int → Int → Option (Int)) (r : (List Int)) (s : St) : Prop := resultA Tryd.prog (s.open ann122) Tryd.f122.results.toList = some (.tup []) ∧ Has s.h ((ad0, .sl data0.length 1 (eInt.l r)) :: L)
def S122 (cf : CallF) (m : Nat) : Prop := ∀ (data0 : List Int) (a0 : Int) (m0 : Int) (b0 : Int) (cmp0 : Int → Int → Option (Int)) (r : (List Int)), rotateC.f m data0 a0 m0 b0 cmp0 = some r → ∀ h L (n_data0 : Nat) (ad0 : Nat), Has h ((ad0, .sl n_data0 1 (eInt.l data0)) :: L) → ∀ (g4_ : FuncId) (cap4_ : List AV), canonArg (.fn g4_ cap4_) = .fn g4_ cap4_ → (∀ h K, Has h (K ++ L) → ∀ (a0 : Int) (a1 : Int) r, cmp0 a0 a1 = some r → cf g4_ ([.int .i64 a0, .int .i64 a1] ++ cap4_) h = some (.int .i64 r, h)) → ∀ xs, xs.map canonArg = [.rs ad0 0 n_data0 1, .int .i64 a0, .int .i64 m0, .int .i64 b0, .fn g4_ cap4_] → ∃ h', cf 122 xs h = some (.tup [], h') ∧ Has h' ((ad0, .sl n_data0 1 (eInt.l r)) :: L)
section
variable {cf : CallF} {m : Nat}
theorem rotateC.l0_ok (L : Mem) (ad0 : Nat) (g4_ : FuncId) (cap4_ : List AV) (data0 : List Int) (a0 : Int) (m0 : Int) (b0 : Int) (cmp0 : Int → Int → Option (Int))  (hc4_ : canonArg (.fn g4_ cap4_) = .fn g4_ cap4_) (Hp4_ : ∀ h K, Has h (K ++ L) → ∀ (a0 : Int) (a1 : Int) r, cmp0 a0 a1 = some r → cf g4_ ([.int .i64 a0, .int .i64 a1] ++ cap4_) h = some (.int .i64 r, h)) (S123_ : S123 cf m) : LoopT Tryd.prog cf ann122 m (sub [1, 1, 0, 0, 0] (codeOf Tryd.f122)) (fun k (σ : (List Int) × Int × Int) => rotateC.l0 m m0 cmp0 k σ.1 σ.2.1 σ.2.2) (fun σ s => match σ with | (data1, i0, j0) => ∃ h0, s = ⟨[.rs ad0 0 data0.length 1, .any, .int .i64 m0, .any, .fn g4_ cap4_, .int .i64 i0, .int .i64 j0, .any, .any], [], h0⟩ ∧ Has h0 ((ad0, .sl data0.length 1 (eInt.l data1)) :: L)) (fun out e s => (e = .exit 0 ∧ ∃ data1 i0 j0, (data1, i0, j0) = out ∧ ∃ x11_ x20_ h0, s = ⟨[.rs ad0 0 data0.length 1, .any, .int .i64 m0, .any, .fn g4_ cap4_, .int .i64 i0, x11_, x20_, .any], [], h0⟩ ∧ Has h0 ((ad0, .sl data0.length 1 (eInt.l data1)) :: L))) := by
  refine lpT (fun _ => rfl) ?_
  rintro k ⟨data1, i0, j0⟩ s out ⟨h0, rfl, o0⟩ H
  have H : rotateC.l0 m m0 cmp0 (k + 1) data1 i0 j0 = some out := H
  refine qq <| qq <| q0 <| qc H (fun c0 H => ?_) (fun c0 H => ?_)
  · refine qk <| qb 1 <| qq <| q0 <| qc H (fun c1 H => ?_) (fun c1 H => ?_)
    · refine qq ?_
      obtain ⟨x0, e0, H⟩ := bsi H
      obtain ⟨h1, e1, o1⟩ := S123_ _ _ _ _ _ _ e0 h0 _ _ _ (o0) g4_ cap4_ hc4_ (fun h' K' o' => Hp4_ h' (K' ++ []) (by simpa only [List.append_assoc, List.cons_append, List.nil_append] using o')) [.rs ad0 0 data0.length 1, .int .i64 (i64.wrap (m0 - i0)), .int .i64 m0, .int .i64 j0, .fn g4_ cap4_] (can_cons (rfl) (can_cons (can_pure (pu_int)) (can_cons (can_pure (pu_int)) (can_cons (can_pure (pu_int)) (can_cons (hc4_) (can_nil))))))
      exact qr [.a 7 e1] <| q0 <| ⟨(x0, i64.wrap (i0 - j0), j0), ⟨h1, by kernel_rfl, o1⟩, H⟩
    · refine qq ?_
      obtain ⟨x1, e2, H⟩ := bsi H
      obtain ⟨h2, e3, o2⟩ := S123_ _ _ _ _ _ _ e2 h0 _ _ _ (o0) g4_ cap4_ hc4_ (fun h' K' o' => Hp4_ h' (K' ++ []) (by simpa only [List.append_assoc, List.cons_append, List.nil_append] using o')) [.rs ad0 0 data0.length 1, .int .i64 (i64.wrap (m0 - i0)), .int .i64 (i64.wrap (i64.wrap (m0 + j0) - i0)), .int .i64 i0, .fn g4_ cap4_] (can_cons (rfl) (can_cons (can_pure (pu_int)) (can_cons (can_pure (pu_int)) (can_cons (can_pure (pu_int)) (can_cons (hc4_) (can_nil))))))
      exact qr [.a 11 e3] <| q0 <| ⟨(x1, i0, i64.wrap (j0 - i0)), ⟨h2, by kernel_rfl, o2⟩, H⟩
  · exact qx 0 <| ⟨rfl, data1, i0, j0, oi H, .int .i64 j0, .bool (!(i0 == j0)), h0, by kernel_rfl, o0⟩
theorem rotateC_body {ann : FuncId → Ann} (ha : ann 122 = ann122) (S123_ : S123 cf m) (data0 : List Int) (a0 : Int) (m0 : Int) (b0 : Int) (cmp0 : Int → Int → Option (Int)) (h : AHeap) (L : Mem) (ad0 : Nat) (g4_ : FuncId) (cap4_ : List AV)  (hc4_ : canonArg (.fn g4_ cap4_) = .fn g4_ cap4_) (Hp4_ : ∀ h K, Has h (K ++ L) → ∀ (a0 : Int) (a1 : Int) r, cmp0 a0 a1 = some r → cf g4_ ([.int .i64 a0, .int .i64 a1] ++ cap4_) h = some (.int .i64 r, h)) (o : Has h ((ad0, .sl data0.length 1 (eInt.l data0)) :: L)) {out : (List Int)} (H : rotateC.f m data0 a0 m0 b0 cmp0 = some out) :
    ∃ r h', bodyA Tryd.prog ann cf m 122 [.rs ad0 0 data0.length 1, .int .i64 a0, .int .i64 m0, .int .i64 b0, .fn g4_ cap4_] h = some (r, h') ∧ r = .tup [] ∧ Has h' ((ad0, .sl data0.length 1 (eInt.l out)) :: L) := by
  refine body_of_ends2 (fn := Tryd.f122) ha Tryd.func122 (by kernel_rfl) (by kernel_rfl) ?_
  refine ends_fin (Q := fun s => rotateC.fin L ad0 data0 a0 m0 b0 cmp0 out s) (fun _ _ ⟨h1, h2, h3⟩ => ⟨h1, _, h2, rfl, h3⟩) ?_
  have H : _ = some out := H
  unfold rotateC.f at H
  show Enz _ cf ann122 m _ ⟨.rs ad0 0 data0.length 1 :: .int .i64 a0 :: .int .i64 m0 :: .int .i64 b0 :: .fn g4_ cap4_ :: Ay4 [], [], h⟩ _
  refine q1 <| qq <| q0 <| qq <| qb 0 ?_
  obtain ⟨out0, e4, H⟩ := bsi H
  refine ql (rotateC.l0_ok L ad0 g4_ cap4_ data0 a0 m0 b0 cmp0  hc4_ Hp4_ S123_ (data0, i64.wrap (m0 - a0), i64.wrap (b0 - m0)) _ _ ⟨h, by kernel_rfl, o⟩ e4) ?_
  rintro e s ⟨rfl, data2, i1, j1, rfl, g0, g1, h3, rfl, o3⟩
  try dsimp only at H
  obtain ⟨x2, e5, H⟩ := bsi H
  obtain ⟨h4, e6, o4⟩ := S123_ _ _ _ _ _ _ e5 h3 _ _ _ (o3) g4_ cap4_ hc4_ (fun h' K' o' => Hp4_ h' (K' ++ []) (by simpa only [List.append_assoc, List.cons_append, List.nil_append] using o')) [.rs ad0 0 data0.length 1, .int .i64 (i64.wrap (m0 - i1)), .int .i64 m0, .int .i64 i1, .fn g4_ cap4_] (can_cons (rfl) (can_cons (can_pure (pu_int)) (can_cons (can_pure (pu_int)) (can_cons (can_pure (pu_int)) (can_cons (hc4_) (can_nil))))))
  obtain rfl := oi H
  exact qr [.a 7 e6] <| ⟨.inr rfl, ⟨by kernel_rfl, he o4⟩⟩
end
end Go.Proofs.YtmekcfdllhphlaaDoor

namespace Go.Proofs.YtmekcfdllhphlaaDoor
open Go Go.R
open Go.IntKind (i64 u64 u8 u32)
def gt (l : List Int) (k : Nat) : Int := l.getD k 0
theorem gt_some {l : List Int} {k : Nat} (h : k < l.length) : l[k]? = some (gt l k) := by
  unfold gt; rw [List.getD_eq_getElem?_getD, List.getElem?_eq_getElem h]; rfl
theorem gt_mem {l : List Int} {k : Nat} (h : k < l.length) : gt l k ∈ l := List.mem_of_getElem? (gt_some h)
theorem ix_gt {l : List Int} {k : Nat} (h : k < l.length) : ix l (k : Int) = some (gt l k) := by
  unfold ix; rw [if_pos (by omega), Int.toNat_natCast, gt_some h]
theorem ix_gt' {l : List Int} {i : Int} {k : Nat} (hi : i = (k : Int)) (h : k < l.length) : ix l i = some (gt l k) := by rw [hi, ix_gt h]
theorem gt_set {l : List Int} {i k : Nat} {x : Int} (hi : i < l.length) : gt (l.set i x) k = if k = i then x else gt l k := by
  unfold gt
  simp only [List.getD_eq_getElem?_getD, List.getElem?_set]
  by_cases h : i = k
  · subst h; simp [hi]
  · rw [if_neg h, if_neg (by omega)]
theorem gt_ext {l r : List Int} (hl : l.length = r.length) (h : ∀ k, k < l.length → gt l k = gt r k) : l = r := by
  apply List.ext_getElem? fun k => ?_
  by_cases hk : k < l.length
  · rw [gt_some hk, gt_some (hl ▸ hk), h k hk]
  · rw [List.getElem?_eq_none (by omega), List.getElem?_eq_none (by omega)]
def swp (l : List Int) (i j : Nat) : List Int := (l.set i (gt l j)).set j (gt l i)
theorem swp_perm {l : List Int} {i j : Nat} (hi : i < l.length) (hj : j < l.length) : (swp l i j).Perm l := by
  have h1 : gt l j = l[j] := by have := gt_some hj; rw [List.getElem?_eq_getElem hj] at this; exact (Option.some.inj this).symm
  have h2 : gt l i = l[i] := by have := gt_some hi; rw [List.getElem?_eq_getElem hi] at this; exact (Option.some.inj this).symm
  unfold swp; rw [h1, h2]; exact List.set_set_perm hi hj
theorem gt_swp {l : List Int} {i j k : Nat} (hi : i < l.length) (hj : j < l.length) : gt (swp l i j) k = if k = j then gt l i else if k = i then gt l j else gt l k := by
  unfold swp
  rw [gt_set (by simpa using hj), gt_set hi]
theorem swp_length {l : List Int} {i j : Nat} : (swp l i j).length = l.length := by simp [swp]
theorem hf_eq {a b : Nat} (h : a + b < 9223372036854775808) : i64.wrap (shR .u64 (u64.wrap (i64.wrap ((a : Int) + (b : Int)))) 1) = (((a + b) / 2 : Nat) : Int) := by
  rw [i64_id (x := (a : Int) + b) (by omega) (by omega), u64_id (by omega) (by omega)]
  have : shR .u64 ((a : Int) + (b : Int)) 1 = (((a + b) / 2 : Nat) : Int) := by
    unfold shR
    rw [Int.fdiv_eq_ediv_of_nonneg _ (by decide)]
    show ((a : Int) + (b : Int)) / 2 = _
    omega
  rw [this, i64_id (by omega) (by omega)]
theorem swr_l0 {m : Nat} {l : List Int} {a b n : Nat} (h1 : a + n ≤ b) (h2 : b + n ≤ l.length) (hl : l.length < 2 ^ 40) : ∀ (f i : Nat) (d : List Int), n - i < f → i ≤ n → d.Perm l →
    (∀ k, gt d k = if a ≤ k ∧ k < a + i then gt l (k - a + b) else if b ≤ k ∧ k < b + i then gt l (k - b + a) else gt l k) →
    ∃ d' x, swapRangeC.l0 m (a : Int) (b : Int) (n : Int) f d (i : Int) = some (d', x) ∧ d'.Perm l ∧ (∀ k, gt d' k = if a ≤ k ∧ k < a + n then gt l (k - a + b) else if b ≤ k ∧ k < b + n then gt l (k - b + a) else gt l k)
  | 0, i, d, hf, _, _, _ => absurd hf (by omega)
  | f + 1, i, d, hf, hi, hp, hg => by
    have p40 : (2 : Nat) ^ 40 = 1099511627776 := by decide
    have hdl := hp.length_eq
    unfold swapRangeC.l0
    by_cases h : i < n
    · have e1 : i64.wrap ((b : Int) + (i : Int)) = ((b + i : Nat) : Int) := by rw [i64_id (by omega) (by omega)]; omega
      have e2 : i64.wrap ((a : Int) + (i : Int)) = ((a + i : Nat) : Int) := by rw [i64_id (by omega) (by omega)]; omega
      have e3 : i64.wrap ((i : Int) + 1) = ((i + 1 : Nat) : Int) := by rw [i64_id (by omega) (by omega)]; omega
      rw [if_pos (by simp; omega), e1, e2, e3, ix_gt (by omega), ix_gt (by omega), Int.toNat_natCast, Int.toNat_natCast, Option.bind_some, Option.bind_some, Option.bind_some, ix_gt (by simp; omega), Option.bind_some]
      show ∃ d' x, swapRangeC.l0 m (a : Int) (b : Int) (n : Int) f (swp d (a + i) (b + i)) ((i + 1 : Nat) : Int) = some (d', x) ∧ _
      refine swr_l0 h1 h2 hl f (i + 1) _ (by omega) (by omega) ((swp_perm (by omega) (by omega)).trans hp) fun k => ?_
      rw [gt_swp (by omega) (by omega), hg, hg, hg]
      by_cases k1 : k = b + i
      · subst k1
        rw [if_pos rfl, if_neg (by omega), if_neg (by omega), if_neg (by omega), if_pos (by omega)]
        congr 1; omega
      · rw [if_neg k1]
        by_cases k2 : k = a + i
        · subst k2
          rw [if_pos rfl, if_neg (by omega), if_neg (by omega), if_pos (by omega)]
          congr 1; omega
        · rw [if_neg k2]
          by_cases k3 : a ≤ k ∧ k < a + i
          · rw [if_pos k3, if_pos (by omega)]
          · rw [if_neg k3, if_neg (show ¬ (a ≤ k ∧ k < a + (i + 1)) by omega)]
            by_cases k4 : b ≤ k ∧ k < b + i
            · rw [if_pos k4, if_pos (by omega)]
            · rw [if_neg k4, if_neg (by omega)]
    · have : i = n := by omega
      subst this
      exact ⟨d, i, by rw [if_neg (by simp)], hp, hg⟩
theorem swr_spec {m : Nat} {l : List Int} {a b n : Nat} {cmp : Int → Int → Option Int} (h1 : a + n ≤ b) (h2 : b + n ≤ l.length) (hl : l.length < 2 ^ 40) (hm : n < m) :
    ∃ d', swapRangeC.f m l (a : Int) (b : Int) (n : Int) cmp = some d' ∧ d'.Perm l ∧ (∀ k, gt d' k = if a ≤ k ∧ k < a + n then gt l (k - a + b) else if b ≤ k ∧ k < b + n then gt l (k - b + a) else gt l k) := by
  obtain ⟨d', x, e, hp, hg⟩ := swr_l0 (m := m) h1 h2 hl m 0 l (by omega) (by omega) (List.Perm.refl _) (fun k => by rw [if_neg (by omega), if_neg (by omega)])
  have e : swapRangeC.l0 m (a : Int) (b : Int) (n : Int) m l 0 = _ := e
  exact ⟨d', by unfold swapRangeC.f; rw [e]; rfl, hp, hg⟩
def Rot (l d : List Int) (p i j : Nat) : Prop := d.Perm l ∧ (∀ k, k < j → gt d (p + k) = gt l (p + i + k)) ∧ (∀ k, k < i → gt d (p + j + k) = gt l (p + k)) ∧ ∀ k, k < p ∨ p + i + j ≤ k → gt d k = gt l k
theorem rot_l0 {m : Nat} {q : Nat} {cmp : Int → Int → Option Int} (hm : 2 ^ 41 ≤ m) : ∀ (f i j : Nat) (l : List Int), i + j < f → 0 < i → 0 < j → i ≤ q → q + j ≤ l.length → l.length < 2 ^ 40 →
    ∃ (d' : List Int) (x : Nat) (d : List Int), rotateC.l0 m (q : Int) cmp f l (i : Int) (j : Int) = some (d', (x : Int), (x : Int)) ∧ swapRangeC.f m d' (i64.wrap ((q : Int) - (x : Int))) (q : Int) (x : Int) cmp = some d ∧ Rot l d (q - i) i j
  | 0, i, j, l, hf, _, _, _, _, _ => absurd hf (by omega)
  | f + 1, i, j, l, hf, hi, hj, hq, hl, hs => by
    have p40 : (2 : Nat) ^ 40 = 1099511627776 := by decide
    have p41 : (2 : Nat) ^ 41 = 2199023255552 := by decide
    unfold rotateC.l0
    have e1 : i64.wrap ((q : Int) - (i : Int)) = ((q - i : Nat) : Int) := by rw [i64_id (by omega) (by omega)]; omega
    by_cases h : i = j
    · subst h
      rw [if_neg (by simp)]
      obtain ⟨d, e, hp, hg⟩ := swr_spec (m := m) (l := l) (a := q - i) (b := q) (n := i) (cmp := cmp) (by omega) (by omega) hs (by omega)
      refine ⟨l, i, d, rfl, by rw [e1, e], hp, fun k hk => ?_, fun k hk => ?_, fun k hk => ?_⟩
      · rw [hg, if_pos (by omega)]; congr 1; omega
      · rw [hg, if_neg (by omega), if_pos (by omega)]; congr 1; omega
      · rw [hg, if_neg (by omega), if_neg (by omega)]
    · rw [if_pos (by simp; omega)]
      by_cases h2 : j < i
      · obtain ⟨d1, e, hp, hg⟩ := swr_spec (m := m) (l := l) (a := q - i) (b := q) (n := j) (cmp := cmp) (by omega) (by omega) hs (by omega)
        have hd := hp.length_eq
        have e2 : i64.wrap ((i : Int) - (j : Int)) = ((i - j : Nat) : Int) := by rw [i64_id (by omega) (by omega)]; omega
        rw [if_pos (by simp; omega), e1, e, Option.bind_some, e2]
        obtain ⟨d', x, d, k1, k2, k3, k4, k5, k6⟩ := rot_l0 (q := q) (cmp := cmp) hm f (i - j) j d1 (by omega) (by omega) hj (by omega) (by omega) (by omega)
        refine ⟨d', x, d, k1, k2, k3.trans hp, fun k hk => ?_, fun k hk => ?_, fun k hk => ?_⟩
        · rw [k6 _ (by omega), hg, if_pos (by omega)]; congr 1; omega
        · by_cases hkj : k < j
          · have := k4 k hkj
            rw [show q - (i - j) + k = q - i + j + k by omega, hg, if_neg (by omega), if_pos (by omega)] at this
            rw [this]; congr 1; omega
          · have := k5 (k - j) (by omega)
            rw [show q - (i - j) + j + (k - j) = q - i + j + k by omega, hg, if_neg (by omega), if_neg (by omega)] at this
            rw [this]; congr 1; omega
        · rw [k6 _ (by omega), hg, if_neg (by omega), if_neg (by omega)]
      · have e2 : i64.wrap (i64.wrap ((q : Int) + (j : Int)) - (i : Int)) = ((q + j - i : Nat) : Int) := by rw [i64_id (x := (q : Int) + j) (by omega) (by omega), i64_id (by omega) (by omega)]; omega
        have e3 : i64.wrap ((j : Int) - (i : Int)) = ((j - i : Nat) : Int) := by rw [i64_id (by omega) (by omega)]; omega
        obtain ⟨d1, e, hp, hg⟩ := swr_spec (m := m) (l := l) (a := q - i) (b := q + j - i) (n := i) (cmp := cmp) (by omega) (by omega) hs (by omega)
        have hd := hp.length_eq
        rw [if_neg (by simp; omega), e1, e2, e, Option.bind_some, e3]
        obtain ⟨d', x, d, k1, k2, k3, k4, k5, k6⟩ := rot_l0 (q := q) (cmp := cmp) hm f i (j - i) d1 (by omega) hi (by omega) hq (by omega) (by omega)
        refine ⟨d', x, d, k1, k2, k3.trans hp, fun k hk => ?_, fun k hk => ?_, fun k hk => ?_⟩
        · by_cases hkj : k < j - i
          · rw [k4 k hkj, hg, if_neg (by omega), if_neg (by omega)]
          · have := k5 (k - (j - i)) (by omega)
            rw [show q - i + (j - i) + (k - (j - i)) = q - i + k by omega, hg, if_pos (by omega)] at this
            rw [this]; congr 1; omega
        · rw [k6 _ (by omega), hg, if_neg (by omega), if_pos (by omega)]; congr 1; omega
        · rw [k6 _ (by omega), hg, if_neg (by omega), if_neg (by omega)]
theorem rot_spec {m : Nat} {a q b : Nat} {cmp : Int → Int → Option Int} {l : List Int} (hm : 2 ^ 41 ≤ m) (h1 : a < q) (h2 : q < b) (h3 : b ≤ l.length) (hs : l.length < 2 ^ 40) :
    ∃ d, rotateC.f m l (a : Int) (q : Int) (b : Int) cmp = some d ∧ Rot l d a (q - a) (b - q) := by
  have p40 : (2 : Nat) ^ 40 = 1099511627776 := by decide
  have p41 : (2 : Nat) ^ 41 = 2199023255552 := by decide
  obtain ⟨d', x, d, k1, k2, k3⟩ := rot_l0 (q := q) (cmp := cmp) hm m (q - a) (b - q) l (by omega) (by omega) (by omega) (by omega) (by omega) hs
  rw [show q - (q - a) = a by omega] at k3
  refine ⟨d, ?_, k3⟩
  unfold rotateC.f
  rw [show i64.wrap ((q : Int) - (a : Int)) = ((q - a : Nat) : Int) by rw [i64_id (by omega) (by omega)]; omega, show i64.wrap ((b : Int) - (q : Int)) = ((b - q : Nat) : Int) by rw [i64_id (by omega) (by omega)]; omega, k1, Option.bind_some]
  dsimp only
  rw [k2]; rfl
end Go.Proofs.YtmekcfdllhphlaaDoor

namespace Go.Proofs.YtmekcfdllhphlaaDoor
open Go Go.R
open Go.IntKind (i64 u64 u8 u32)
def ann118 : Ann := mkA [0, 2] [] [2, 1] [] []
def tree_letter.f (m : Nat) (c0 : Int) : Option (Bool) := if (decide (c0 ≥ (97 : Int))) = true then (if (decide (c0 ≤ (122 : Int))) = true then (some true) else (if (decide (c0 ≥ (65 : Int))) = true then (if (decide (c0 ≤ (90 : Int))) = true then (some true) else (if (decide (c0 ≥ (48 : Int))) = true then (if (decide (c0 ≤ (57 : Int))) = true then (some true) else (some (c0 == (95 : Int)))) else (some (c0 == (95 : Int))))) else (if (decide (c0 ≥ (48 : Int))) = true then (if (decide (c0 ≤ (57 : Int))) = true then (some true) else (some (c0 == (95 : Int)))) else (some (c0 == (95 : Int)))))) else (if (decide (c0 ≥ (65 : Int))) = true then (if (decide (c0 ≤ (90 : Int))) = true then (some true) else (if (decide (c0 ≥ (48 : Int))) = true then (if (decide (c0 ≤ (57 : Int))) = true then (some true) else (some (c0 == (95 : Int)))) else (some (c0 == (95 : Int))))) else (if (decide (c0 ≥ (48 : Int))) = true then (if (decide (c0 ≤ (57 : Int))) = true then (some true) else (some (c0 == (95 : Int)))) else (some (c0 == (95 : Int)))))
def tree_letter.fin (L : Mem) (r : Bool) (s : St) : Prop := ∃ av, resultA Tryd.prog (s.open ann118) Tryd.f118.results.toList = some av ∧ Frb s.h av (.bool r)
def S118 (cf : CallF) (m : Nat) : Prop := ∀ (c0 : Int) (r : Bool), tree_letter.f m c0 = some r → ∀ h xs, FrzS bigK h xs [.int .u8 c0] → cf 118 xs h = some (.bool r, h)
section
variable {cf : CallF} {m : Nat}
theorem tree_letter_body {ann : FuncId → Ann} (ha : ann 118 = ann118)  (c0 : Int) (h : AHeap) (L : Mem)  (o : Has h (L)) {out : Bool} (H : tree_letter.f m c0 = some out) :
    ∃ r h', bodyA Tryd.prog ann cf m 118 [.int .u8 c0] h = some (r, h') ∧ Frb h' r (.bool out) := by
  refine body_of_ends2 (fn := Tryd.f118) ha Tryd.func118 (by kernel_rfl) (by kernel_rfl) ?_
  refine ends_fin (Q := fun s => tree_letter.fin L out s) (fun _ _ h => h) ?_
  have H : _ = some out := H
  unfold tree_letter.f at H
  show Enz _ cf ann118 m _ ⟨[.int .u8 c0, .any], [], h⟩ _
  refine q1 <| qq ?_
  rcases ift H with ⟨c1, H⟩ | ⟨c1, H⟩
  · rcases ift H with ⟨c2, H⟩ | ⟨c2, H⟩
    · obtain rfl := oi H
      exact qr [.b 2 c1, .b 6 c2] <| qt <| ⟨.inl rfl, fnb (.bool true) h (frb (fb_bool))⟩
    · rcases ift H with ⟨c3, H⟩ | ⟨c3, H⟩
      · rcases ift H with ⟨c4, H⟩ | ⟨c4, H⟩
        · obtain rfl := oi H
          exact qr [.b 2 c1, .b 6 c2, .b 9 c3, .b 14 c4] <| qt <| ⟨.inl rfl, fnb (.bool true) h (frb (fb_bool))⟩
        · rcases ift H with ⟨c5, H⟩ | ⟨c5, H⟩
          · rcases ift H with ⟨c6, H⟩ | ⟨c6, H⟩
            · obtain rfl := oi H
              exact qr [.b 2 c1, .b 6 c2, .b 9 c3, .b 14 c4, .b 17 c5, .b 22 c6] <| qt <| ⟨.inl rfl, fnb (.bool true) h (frb (fb_bool))⟩
            · obtain rfl := oi H
              exact qr [.b 2 c1, .b 6 c2, .b 9 c3, .b 14 c4, .b 17 c5, .b 22 c6] <| qt <| ⟨.inl rfl, fnb (.bool (c0 == (95 : Int))) h (frb (fb_bool))⟩
          · obtain rfl := oi H
            exact qr [.b 2 c1, .b 6 c2, .b 9 c3, .b 14 c4, .b 17 c5] <| qt <| ⟨.inl rfl, fnb (.bool (c0 == (95 : Int))) h (frb (fb_bool))⟩
      · rcases ift H with ⟨c7, H⟩ | ⟨c7, H⟩
        · rcases ift H with ⟨c8, H⟩ | ⟨c8, H⟩
          · obtain rfl := oi H
            exact qr [.b 2 c1, .b 6 c2, .b 9 c3, .b 17 c7, .b 22 c8] <| qt <| ⟨.inl rfl, fnb (.bool true) h (frb (fb_bool))⟩
          · obtain rfl := oi H
            exact qr [.b 2 c1, .b 6 c2, .b 9 c3, .b 17 c7, .b 22 c8] <| qt <| ⟨.inl rfl, fnb (.bool (c0 == (95 : Int))) h (frb (fb_bool))⟩
        · obtain rfl := oi H
          exact qr [.b 2 c1, .b 6 c2, .b 9 c3, .b 17 c7] <| qt <| ⟨.inl rfl, fnb (.bool (c0 == (95 : Int))) h (frb (fb_bool))⟩
  · rcases ift H with ⟨c9, H⟩ | ⟨c9, H⟩
    · rcases ift H with ⟨c10, H⟩ | ⟨c10, H⟩
      · obtain rfl := oi H
        exact qr [.b 2 c1, .b 9 c9, .b 14 c10] <| qt <| ⟨.inl rfl, fnb (.bool true) h (frb (fb_bool))⟩
      · rcases ift H with ⟨c11, H⟩ | ⟨c11, H⟩
        · rcases ift H with ⟨c12, H⟩ | ⟨c12, H⟩
          · obtain rfl := oi H
            exact qr [.b 2 c1, .b 9 c9, .b 14 c10, .b 17 c11, .b 22 c12] <| qt <| ⟨.inl rfl, fnb (.bool true) h (frb (fb_bool))⟩
          · obtain rfl := oi H
            exact qr [.b 2 c1, .b 9 c9, .b 14 c10, .b 17 c11, .b 22 c12] <| qt <| ⟨.inl rfl, fnb (.bool (c0 == (95 : Int))) h (frb (fb_bool))⟩
        · obtain rfl := oi H
          exact qr [.b 2 c1, .b 9 c9, .b 14 c10, .b 17 c11] <| qt <| ⟨.inl rfl, fnb (.bool (c0 == (95 : Int))) h (frb (fb_bool))⟩
    · rcases ift H with ⟨c13, H⟩ | ⟨c13, H⟩
      · rcases ift H with ⟨c14, H⟩ | ⟨c14, H⟩
        · obtain rfl := oi H
          exact qr [.b 2 c1, .b 9 c9, .b 17 c13, .b 22 c14] <| qt <| ⟨.inl rfl, fnb (.bool true) h (frb (fb_bool))⟩
        · obtain rfl := oi H
          exact qr [.b 2 c1, .b 9 c9, .b 17 c13, .b 22 c14] <| qt <| ⟨.inl rfl, fnb (.bool (c0 == (95 : Int))) h (frb (fb_bool))⟩
      · obtain rfl := oi H
        exact qr [.b 2 c1, .b 9 c9, .b 17 c13] <| qt <| ⟨.inl rfl, fnb (.bool (c0 == (95 : Int))) h (frb (fb_bool))⟩
end
end Go.Proofs.YtmekcfdllhphlaaDoor

namespace Go.Proofs.YtmekcfdllhphlaaDoor
open Go Go.R
open Go.IntKind (i64 u64 u8 u32)
def ann106 : Ann := mkA [0, 1, 2, 6, 7, 27, 29, 30, 31, 37] [] [1016, 990, 1015, 830, 574, 814, 318, 1015, 830, 1015] [] []
def tree_Word.l0 (m : Nat) (s0 : ByteArray) : Nat → Int → Option (Sum Bool (Int))
  | 0, _ => none
  | k + 1, x0 => if (decide (x0 < (s0.size : Int))) = true then ((bt s0 x0).bind fun v2 => (tree_letter.f m v2).bind fun x1 => if (!x1) = true then (some (.inl false)) else (tree_Word.l0 m s0 k (i64.wrap (x0 + (1 : Int))))) else (some (.inr x0))
def tree_Word.f (m : Nat) (s0 : ByteArray) (first0 : Int) (last0 : Int) : Option (Bool) := if (decide ((s0.size : Int) < (1 : Int))) = true then (some false) else (if (decide ((s0.size : Int) > (16 : Int))) = true then (some false) else ((bt s0 (0 : Int)).bind fun v0 => if (decide (v0 < first0)) = true then (some false) else ((bt s0 (0 : Int)).bind fun v1 => if (decide (v1 > last0)) = true then (some false) else ((tree_Word.l0 m s0 m (0 : Int)).bind fun out0 => match out0 with | .inl r0 => some r0 | .inr x2 => some true))))
def tree_Word.fin (L : Mem) (r : Bool) (s : St) : Prop := ∃ av, resultA Tryd.prog (s.open ann106) Tryd.f106.results.toList = some av ∧ Frb s.h av (.bool r)
def S106 (cf : CallF) (m : Nat) : Prop := ∀ (s0 : ByteArray) (first0 : Int) (last0 : Int) (r : Bool), tree_Word.f m s0 first0 last0 = some r → ∀ h xs, FrzS bigK h xs [.str s0, .int .u8 first0, .int .u8 last0] → cf 106 xs h = some (.bool r, h)
section
variable {cf : CallF} {m : Nat}
theorem tree_Word.l0_ok (L : Mem) (s0 : ByteArray)  (S118_ : S118 cf m) : LoopT Tryd.prog cf ann106 m (sub [1, 1, 0, 1, 0, 0] (codeOf Tryd.f106)) (fun k (σ : Int) => tree_Word.l0 m s0 k σ) (fun σ s => match σ with | x0 => ∃ h0, s = ⟨.str s0 :: Ay5 [.int .i64 (s0.size : Int), .int .i64 x0, .any, .any], [], h0⟩ ∧ Has h0 (L)) (fun out e s => (e = .exit 0 ∧ ∃ x0, .inr x0 = out ∧ ∃ x0_ x29_ x30_ x31_ h0, s = ⟨x0_ :: Ay5 [x29_, x30_, x31_, .any], [], h0⟩ ∧ Has h0 (L)) ∨ (e = .ret ∧ ∃ r, .inl r = out ∧ tree_Word.fin L r s)) := by
  refine lpT (fun _ => rfl) ?_
  rintro k x0 s out ⟨h0, rfl, o0⟩ H
  have H : tree_Word.l0 m s0 (k + 1) x0 = some out := H
  refine q1 <| qq <| qc H (fun c7 H => ?_) (fun c7 H => ?_)
  · refine qk <| qq <| qb 1 <| qq <| q0 <| qq ?_
    obtain ⟨v2, e2, H⟩ := bsi H
    obtain ⟨x1, e3, H⟩ := bsi H
    refine qr [.v 2 (ix_str (k := .i64) U9 e2), .a 3 (S118_ _ _ e3 h0 _ (frs (fr_cons (fr_int) (fr_nil))))] <| qc H (fun c8 H => ?_) (fun c8 H => ?_)
    · exact q1 <| qt <| Or.inr (⟨rfl, _, oi H, fnb (.bool false) h0 (frb (fb_bool))⟩)
    · exact qk <| q0 <| ⟨i64.wrap (x0 + (1 : Int)), ⟨h0, by kernel_rfl, o0⟩, H⟩
  · exact qx 0 <| Or.inl (⟨rfl, x0, oi H, .str s0, .int .i64 (s0.size : Int), .int .i64 x0, .bool (decide (x0 < (s0.size : Int))), h0, by kernel_rfl, o0⟩)
theorem tree_Word_body {ann : FuncId → Ann} (ha : ann 106 = ann106) (S118_ : S118 cf m) (s0 : ByteArray) (first0 : Int) (last0 : Int) (h : AHeap) (L : Mem)  (o : Has h (L)) {out : Bool} (H : tree_Word.f m s0 first0 last0 = some out) :
    ∃ r h', bodyA Tryd.prog ann cf m 106 [.str s0, .int .u8 first0, .int .u8 last0] h = some (r, h') ∧ Frb h' r (.bool out) := by
  refine body_of_ends2 (fn := Tryd.f106) ha Tryd.func106 (by kernel_rfl) (by kernel_rfl) ?_
  refine ends_fin (Q := fun s => tree_Word.fin L out s) (fun _ _ h => h) ?_
  have H : _ = some out := H
  unfold tree_Word.f at H
  show Enz _ cf ann106 m _ ⟨.str s0 :: .int .u8 first0 :: .int .u8 last0 :: Ay7 [], [], h⟩ _
  refine q1 <| qq <| qq ?_
  rcases ift H with ⟨c0, H⟩ | ⟨c0, H⟩
  · obtain rfl := oi H
    exact qr [.b 3 c0] <| qcT <| qq <| q0 <| qt <| ⟨.inl rfl, fnb (.bool false) h (frb (fb_bool))⟩
  · rcases ift H with ⟨c2, H⟩ | ⟨c2, H⟩
    · obtain rfl := oi H
      exact qr [.b 3 c0, .b 8 c2] <| qcT <| qq <| q0 <| qt <| ⟨.inl rfl, fnb (.bool false) h (frb (fb_bool))⟩
    · obtain ⟨v0, e0, H⟩ := bsi H
      rcases ift H with ⟨c4, H⟩ | ⟨c4, H⟩
      · obtain rfl := oi H
        exact qr [.b 3 c0, .b 8 c2, .v 10 (ix_str (k := .i64) U9 e0), .b 14 c4] <| qcT <| qq <| q0 <| qt <| ⟨.inl rfl, fnb (.bool false) h (frb (fb_bool))⟩
      · obtain ⟨v1, e1, H⟩ := bsi H
        refine qr [.b 3 c0, .b 8 c2, .v 10 (ix_str (k := .i64) U9 e0), .b 14 c4, .v 16 (ix_str (k := .i64) U9 e1)] <| qc H (fun c6 H => ?_) (fun c6 H => ?_)
        · obtain rfl := oi H
          exact q1 <| qt <| ⟨.inl rfl, fnb (.bool false) h (frb (fb_bool))⟩
        · refine qk <| qq <| qq <| q0 <| qb 0 ?_
          obtain ⟨out0, e4, H⟩ := bsi H
          refine ql (tree_Word.l0_ok L s0  S118_ (0 : Int) _ _ ⟨h, by kernel_rfl, o⟩ e4) ?_
          rintro e s (⟨rfl, x2, rfl, g0, g1, g2, g3, h1, rfl, o1⟩ | ⟨rfl, r0, rfl, hf0⟩)
          · try dsimp only at H
            obtain rfl := oi H
            exact q1 <| qt <| ⟨.inl rfl, fnb (.bool true) h1 (frb (fb_bool))⟩
          · try dsimp only at H
            obtain rfl := oi H
            exact ⟨.inl rfl, hf0⟩
end
end Go.Proofs.YtmekcfdllhphlaaDoor

namespace Go.Proofs.YtmekcfdllhphlaaDoor
open Go Go.R
open Go.IntKind (i64 u64 u8 u32)
def ann77 : Ann := mkA [0, 2] [] [2, 1] [] []
def tree_Atom.f (m : Nat) (s0 : ByteArray) : Option (Bool) := if (s0.data.toList == (ByteArray.mk #[124]).data.toList) = true then (some true) else (if (s0.data.toList == (ByteArray.mk #[35]).data.toList) = true then (some true) else ((tree_Word.f m s0 (97 : Int) (122 : Int)).bind fun x0 => some x0))
def tree_Atom.fin (L : Mem) (r : Bool) (s : St) : Prop := ∃ av, resultA Tryd.prog (s.open ann77) Tryd.f77.results.toList = some av ∧ Frb s.h av (.bool r)
def S77 (cf : CallF) (m : Nat) : Prop := ∀ (s0 : ByteArray) (r : Bool), tree_Atom.f m s0 = some r → ∀ h xs, FrzS bigK h xs [.str s0] → cf 77 xs h = some (.bool r, h)
section
variable {cf : CallF} {m : Nat}
theorem tree_Atom_body {ann : FuncId → Ann} (ha : ann 77 = ann77) (S106_ : S106 cf m) (s0 : ByteArray) (h : AHeap) (L : Mem)  (o : Has h (L)) {out : Bool} (H : tree_Atom.f m s0 = some out) :
    ∃ r h', bodyA Tryd.prog ann cf m 77 [.str s0] h = some (r, h') ∧ Frb h' r (.bool out) := by
  refine body_of_ends2 (fn := Tryd.f77) ha Tryd.func77 (by kernel_rfl) (by kernel_rfl) ?_
  refine ends_fin (Q := fun s => tree_Atom.fin L out s) (fun _ _ h => h) ?_
  have H : _ = some out := H
  unfold tree_Atom.f at H
  show Enz _ cf ann77 m _ ⟨[.str s0, .any], [], h⟩ _
  refine q1 <| qq ?_
  rcases ift H with ⟨c0, H⟩ | ⟨c0, H⟩
  · obtain rfl := oi H
    exact qr [.b 2 c0] <| qt <| ⟨.inl rfl, fnb (.bool true) h (frb (fb_bool))⟩
  · rcases ift H with ⟨c1, H⟩ | ⟨c1, H⟩
    · obtain rfl := oi H
      exact qr [.b 2 c0, .b 6 c1] <| qt <| ⟨.inl rfl, fnb (.bool true) h (frb (fb_bool))⟩
    · obtain ⟨x0, e0, H⟩ := bsi H
      obtain rfl := oi H
      exact qr [.b 2 c0, .b 6 c1, .a 8 (S106_ _ _ _ _ e0 h _ (frs (fr_cons (fr_str) (fr_cons (fr_int) (fr_cons (fr_int) (fr_nil))))))] <| qt <| ⟨.inl rfl, fnb (.bool x0) h (frb (fb_bool))⟩
end
end Go.Proofs.YtmekcfdllhphlaaDoor

namespace Go.Proofs.YtmekcfdllhphlaaDoor
open Go Go.R
open Go.IntKind (i64 u64 u8 u32)
def ann107 : Ann := mkA [0, 1, 4, 5, 7, 8, 9, 16] [] [252, 204, 140, 196, 68, 251, 204, 251] [] []
def IndexFI.l0 (m : Nat) (s0 : List Int) (f0 : Int → Option (Bool)) : Nat → Int → Option (Sum Int (Int))
  | 0, _ => none
  | k + 1, x0 => if (decide (x0 < (s0.length : Int))) = true then ((ix s0 x0).bind fun v0 => (f0 v0).bind fun r0 => if r0 = true then (some (.inl x0)) else (IndexFI.l0 m s0 f0 k (i64.wrap (x0 + (1 : Int))))) else (some (.inr x0))
def IndexFI.f (m : Nat) (s0 : List Int) (f0 : Int → Option (Bool)) : Option (Int) := (IndexFI.l0 m s0 f0 m (0 : Int)).bind fun out0 => match out0 with | .inl r1 => some r1 | .inr x1 => some (-1 : Int)
def IndexFI.fin (h : AHeap) (r : Int) (s : St) : Prop := resultA Tryd.prog (s.open ann107) Tryd.f107.results.toList = some (.int .i64 r) ∧ s.h = h
def S107 (cf : CallF) (m : Nat) : Prop := ∀ (s0 : List Int) (f0 : Int → Option (Bool)) (r : Int), IndexFI.f m s0 f0 = some r → ∀ h, 0 < h.next → ∀ (g1_ : FuncId) (cap1_ : List AV), canonArg (.fn g1_ cap1_) = .fn g1_ cap1_ → (∀ (a0 : Int) r, f0 a0 = some r → cf g1_ ([.int .i64 a0] ++ cap1_) h = some (.bool r, h)) → ∀ xs, xs.map canonArg = [eInt.fz s0, .fn g1_ cap1_] → cf 107 xs h = some (.int .i64 r, h)
section
variable {cf : CallF} {m : Nat}
theorem IndexFI.l0_ok (h : AHeap) (L : Mem) (g1_ : FuncId) (cap1_ : List AV) (s0 : List Int) (f0 : Int → Option (Bool))  (hc1_ : canonArg (.fn g1_ cap1_) = .fn g1_ cap1_) (Hp1_ : ∀ (a0 : Int) r, f0 a0 = some r → cf g1_ ([.int .i64 a0] ++ cap1_) h = some (.bool r, h))  : LoopT Tryd.prog cf ann107 m (sub [1, 0, 1, 0, 0] (codeOf Tryd.f107)) (fun k (σ : Int) => IndexFI.l0 m s0 f0 k σ) (fun σ s => match σ with | x0 => s = ⟨[eInt.fz s0, .fn g1_ cap1_, .any, .any, .int .i64 (s0.length : Int), .int .i64 x0, .any, .any], [], h⟩ ∧ Has h (L)) (fun out e s => (e = .exit 0 ∧ ∃ x0, .inr x0 = out ∧ ∃ x0_ x1_ x7_ x8_ x9_, s = ⟨[x0_, x1_, .any, .any, x7_, x8_, x9_, .any], [], h⟩ ∧ Has h (L)) ∨ (e = .ret ∧ ∃ r, .inl r = out ∧ IndexFI.fin h r s)) := by
  refine lpT (fun _ => rfl) ?_
  rintro k x0 s out ⟨rfl, o0⟩ H
  have H : IndexFI.l0 m s0 f0 (k + 1) x0 = some out := H
  refine q1 <| qq <| qc H (fun c0 H => ?_) (fun c0 H => ?_)
  · refine qk <| qq <| qb 1 <| qq <| q0 <| qq ?_
    obtain ⟨v0, e0, H⟩ := bsi H
    obtain ⟨r0, e1, H⟩ := bsi H
    refine qr [.v 3 (ia_fz (k := .i64) (E := eInt) (l := s0) T42 e0), .v 4 (ld_fz0  (E := eInt) (l := s0) h A3 e0 rfl), .a 5 (Hp1_ _ _ e1)] <| qc H (fun c1 H => ?_) (fun c1 H => ?_)
    · exact q1 <| qt <| Or.inr (⟨rfl, _, oi H, ⟨by kernel_rfl, by kernel_rfl⟩⟩)
    · exact qk <| q0 <| ⟨i64.wrap (x0 + (1 : Int)), ⟨by kernel_rfl, o0⟩, H⟩
  · exact qx 0 <| Or.inl (⟨rfl, x0, oi H, eInt.fz s0, .fn g1_ cap1_, .int .i64 (s0.length : Int), .int .i64 x0, .bool (decide (x0 < (s0.length : Int))), by kernel_rfl, o0⟩)
theorem IndexFI_body {ann : FuncId → Ann} (ha : ann 107 = ann107)  (s0 : List Int) (f0 : Int → Option (Bool)) (h : AHeap) (L : Mem) (g1_ : FuncId) (cap1_ : List AV)  (hc1_ : canonArg (.fn g1_ cap1_) = .fn g1_ cap1_) (Hp1_ : ∀ (a0 : Int) r, f0 a0 = some r → cf g1_ ([.int .i64 a0] ++ cap1_) h = some (.bool r, h)) (o : Has h (L)) {out : Int} (H : IndexFI.f m s0 f0 = some out) :
    ∃ r h', bodyA Tryd.prog ann cf m 107 [eInt.fz s0, .fn g1_ cap1_] h = some (r, h') ∧ r = (.int .i64 out) ∧ h' = h := by
  refine body_of_ends2 (fn := Tryd.f107) ha Tryd.func107 (by kernel_rfl) (by kernel_rfl) ?_
  refine ends_fin (Q := fun s => IndexFI.fin h out s) (fun _ _ ⟨h1, h2, h3⟩ => ⟨h1, _, h2, rfl, h3⟩) ?_
  have H : _ = some out := H
  unfold IndexFI.f at H
  show Enz _ cf ann107 m _ ⟨eInt.fz s0 :: .fn g1_ cap1_ :: Ay6 [], [], h⟩ _
  refine q1 <| qq <| qq <| q0 <| qb 0 ?_
  obtain ⟨out0, e2, H⟩ := bsi H
  refine ql (IndexFI.l0_ok h L g1_ cap1_ s0 f0  hc1_ Hp1_  (0 : Int) _ _ ⟨by kernel_rfl, o⟩ e2) ?_
  rintro e s (⟨rfl, x1, rfl, g0, g1, g2, g3, g4, rfl, o1⟩ | ⟨rfl, r1, rfl, hf0⟩)
  · try dsimp only at H
    obtain rfl := oi H
    exact q1 <| qt <| ⟨.inl rfl, ⟨by kernel_rfl, by kernel_rfl⟩⟩
  · try dsimp only at H
    obtain rfl := oi H
    exact ⟨.inl rfl, hf0⟩
end
end Go.Proofs.YtmekcfdllhphlaaDoor

namespace Go.Proofs.YtmekcfdllhphlaaDoor
open Go Go.R
open Go.IntKind (i64 u64 u8 u32)
def ann78 : Ann := mkA [0, 1, 4] [] [4, 3] [] []
def ContainsFI.f (m : Nat) (s0 : List Int) (f0 : Int → Option (Bool)) : Option (Bool) := (IndexFI.f m s0 f0).bind fun x0 => some (decide (x0 ≥ (0 : Int)))
def ContainsFI.fin (h : AHeap) (r : Bool) (s : St) : Prop := resultA Tryd.prog (s.open ann78) Tryd.f78.results.toList = some (.bool r) ∧ s.h = h
def S78 (cf : CallF) (m : Nat) : Prop := ∀ (s0 : List Int) (f0 : Int → Option (Bool)) (r : Bool), ContainsFI.f m s0 f0 = some r → ∀ h, 0 < h.next → ∀ (g1_ : FuncId) (cap1_ : List AV), canonArg (.fn g1_ cap1_) = .fn g1_ cap1_ → (∀ (a0 : Int) r, f0 a0 = some r → cf g1_ ([.int .i64 a0] ++ cap1_) h = some (.bool r, h)) → ∀ xs, xs.map canonArg = [eInt.fz s0, .fn g1_ cap1_] → cf 78 xs h = some (.bool r, h)
section
variable {cf : CallF} {m : Nat}
theorem ContainsFI_body {ann : FuncId → Ann} (ha : ann 78 = ann78) (S107_ : S107 cf m) (s0 : List Int) (f0 : Int → Option (Bool)) (h : AHeap) (L : Mem) (g1_ : FuncId) (cap1_ : List AV)  (hc1_ : canonArg (.fn g1_ cap1_) = .fn g1_ cap1_) (Hp1_ : ∀ (a0 : Int) r, f0 a0 = some r → cf g1_ ([.int .i64 a0] ++ cap1_) h = some (.bool r, h)) (o : Has h (L)) {out : Bool} (H : ContainsFI.f m s0 f0 = some out) :
    ∃ r h', bodyA Tryd.prog ann cf m 78 [eInt.fz s0, .fn g1_ cap1_] h = some (r, h') ∧ r = (.bool out) ∧ h' = h := by
  refine body_of_ends2 (fn := Tryd.f78) ha Tryd.func78 (by kernel_rfl) (by kernel_rfl) ?_
  refine ends_fin (Q := fun s => ContainsFI.fin h out s) (fun _ _ ⟨h1, h2, h3⟩ => ⟨h1, _, h2, rfl, h3⟩) ?_
  have H : _ = some out := H
  unfold ContainsFI.f at H
  show Enz _ cf ann78 m _ ⟨[eInt.fz s0, .fn g1_ cap1_, .any], [], h⟩ _
  refine q1 <| qq ?_
  obtain ⟨x0, e0, H⟩ := bsi H
  obtain rfl := oi H
  exact qr [.a 2 (S107_ _ _ _ e0 h (Has.pos o) g1_ cap1_ hc1_ Hp1_ _ (can_cons (can_pure (pu_fz (E := eInt))) (can_cons (hc1_) (can_nil))))] <| qt <| ⟨.inl rfl, ⟨by kernel_rfl, by kernel_rfl⟩⟩
end
end Go.Proofs.YtmekcfdllhphlaaDoor

namespace Go.Proofs.YtmekcfdllhphlaaDoor
open Go Go.R
open Go.IntKind (i64 u64 u8 u32)
def ann79 : Ann := mkA [0, 1, 3] [] [4, 3] [] []
def tree_node_1.f (m : Nat) (a0 : Int) (x0 : Int) : Option (Bool) := if (decide (a0 < (0 : Int))) = true then (some true) else (some (decide (a0 ≥ x0)))
def tree_node_1.fin (h : AHeap) (r : Bool) (s : St) : Prop := resultA Tryd.prog (s.open ann79) Tryd.f79.results.toList = some (.bool r) ∧ s.h = h
def S79 (cf : CallF) (m : Nat) : Prop := ∀ (a0 : Int) (x0 : Int) (r : Bool), tree_node_1.f m a0 x0 = some r → ∀ h L (qad_x0_ ad_x0 : Nat), Has h L → L[qad_x0_]? = some (ad_x0, .ob [.int .i64 x0]) → cf 79 [.int .i64 a0, .ptr ad_x0 0] h = some (.bool r, h)
section
variable {cf : CallF} {m : Nat}
theorem tree_node_1_body {ann : FuncId → Ann} (ha : ann 79 = ann79)  (a0 : Int) (x0 : Int) (h : AHeap) (L : Mem)  {qad_x0_ ad_x0 : Nat} (hqad_x0_ : L[qad_x0_]? = some (ad_x0, .ob [.int .i64 x0])) (o : Has h (L)) {out : Bool} (H : tree_node_1.f m a0 x0 = some out) :
    ∃ r h', bodyA Tryd.prog ann cf m 79 [.int .i64 a0, .ptr ad_x0 0] h = some (r, h') ∧ r = (.bool out) ∧ h' = h := by
  refine body_of_ends2 (fn := Tryd.f79) ha Tryd.func79 (by kernel_rfl) (by kernel_rfl) ?_
  refine ends_fin (Q := fun s => tree_node_1.fin h out s) (fun _ _ ⟨h1, h2, h3⟩ => ⟨h1, _, h2, rfl, h3⟩) ?_
  have H : _ = some out := H
  unfold tree_node_1.f at H
  show Enz _ cf ann79 m _ ⟨[.int .i64 a0, .ptr ad_x0 0, .any], [], h⟩ _
  refine q1 <| qq ?_
  rcases ift H with ⟨c0, H⟩ | ⟨c0, H⟩
  · obtain rfl := oi H
    exact qr [.b 2 c0] <| qt <| ⟨.inl rfl, ⟨by kernel_rfl, by kernel_rfl⟩⟩
  · obtain rfl := oi H
    exact qr [.b 2 c0, .v 4 (show loadH Tryd.prog h 3 (.ptr ad_x0 0) = some (.int .i64 x0) from ld_ob (q := qad_x0_) (cs := [.int .i64 x0]) o hqad_x0_ (by kernel_rfl))] <| qt <| ⟨.inl rfl, ⟨by kernel_rfl, by kernel_rfl⟩⟩
end
end Go.Proofs.YtmekcfdllhphlaaDoor

namespace Go.Proofs.YtmekcfdllhphlaaDoor
open Go Go.R
open Go.IntKind (i64 u64 u8 u32)
def ann80 : Ann := mkA [0, 2] [] [2, 1] [] []
def tree_Names.f (m : Nat) (s0 : ByteArray) : Option (Bool) := if (s0.data.toList == (ByteArray.mk #[112, 114, 111, 99]).data.toList) = true then (some true) else (if (s0.data.toList == (ByteArray.mk #[99, 101, 108, 108]).data.toList) = true then (some true) else (some (s0.data.toList == (ByteArray.mk #[112, 111, 114, 116]).data.toList)))
def tree_Names.fin (L : Mem) (r : Bool) (s : St) : Prop := ∃ av, resultA Tryd.prog (s.open ann80) Tryd.f80.results.toList = some av ∧ Frb s.h av (.bool r)
def S80 (cf : CallF) (m : Nat) : Prop := ∀ (s0 : ByteArray) (r : Bool), tree_Names.f m s0 = some r → ∀ h xs, FrzS bigK h xs [.str s0] → cf 80 xs h = some (.bool r, h)
section
variable {cf : CallF} {m : Nat}
theorem tree_Names_body {ann : FuncId → Ann} (ha : ann 80 = ann80)  (s0 : ByteArray) (h : AHeap) (L : Mem)  (o : Has h (L)) {out : Bool} (H : tree_Names.f m s0 = some out) :
    ∃ r h', bodyA Tryd.prog ann cf m 80 [.str s0] h = some (r, h') ∧ Frb h' r (.bool out) := by
  refine body_of_ends2 (fn := Tryd.f80) ha Tryd.func80 (by kernel_rfl) (by kernel_rfl) ?_
  refine ends_fin (Q := fun s => tree_Names.fin L out s) (fun _ _ h => h) ?_
  have H : _ = some out := H
  unfold tree_Names.f at H
  show Enz _ cf ann80 m _ ⟨[.str s0, .any], [], h⟩ _
  refine q1 <| qq ?_
  rcases ift H with ⟨c0, H⟩ | ⟨c0, H⟩
  · obtain rfl := oi H
    exact qr [.b 2 c0] <| qt <| ⟨.inl rfl, fnb (.bool true) h (frb (fb_bool))⟩
  · rcases ift H with ⟨c1, H⟩ | ⟨c1, H⟩
    · obtain rfl := oi H
      exact qr [.b 2 c0, .b 6 c1] <| qt <| ⟨.inl rfl, fnb (.bool true) h (frb (fb_bool))⟩
    · obtain rfl := oi H
      exact qr [.b 2 c0, .b 6 c1] <| qt <| ⟨.inl rfl, fnb (.bool (s0.data.toList == (ByteArray.mk #[112, 111, 114, 116]).data.toList)) h (frb (fb_bool))⟩
end
end Go.Proofs.YtmekcfdllhphlaaDoor

namespace Go.Proofs.YtmekcfdllhphlaaDoor
open Go Go.R
open Go.IntKind (i64 u64 u8 u32)
def ann62 : Ann := mkA [0, 1, 2, 3, 4, 6, 7, 23, 44, 60, 89] [2] [2035, 2003, 1939, 2031, 1875, 2031, 1747, 2031, 1491, 2031, 1019, 2031, 2031] [] []
def tree_node.f (m : Nat) (n0 : VNode) (size0 : Int) : Option (Bool) := if (n0.kind == (0 : Int)) = true then (if (decide (n0.int ≥ (0 : Int))) = true then (if (n0.label.data.toList == (ByteArray.mk #[]).data.toList) = true then (some ((n0.args.length : Int) == (0 : Int))) else (some false)) else (some false)) else (if (n0.kind == (1 : Int)) = true then (if (decide (n0.int ≥ (-1099511627776 : Int))) = true then (if (decide (n0.int ≤ (1099511627776 : Int))) = true then (if (n0.label.data.toList == (ByteArray.mk #[]).data.toList) = true then (some ((n0.args.length : Int) == (0 : Int))) else (some false)) else (some false)) else (some false)) else (if (n0.kind == (2 : Int)) = true then (if (n0.int == (0 : Int)) = true then ((tree_Atom.f m n0.label).bind fun x0 => if x0 = true then (some ((n0.args.length : Int) == (0 : Int))) else (some false)) else (some false)) else (if (n0.kind == (3 : Int)) = true then (if (n0.int == (0 : Int)) = true then ((tree_Atom.f m n0.label).bind fun x1 => if x1 = true then (if (decide ((n0.args.length : Int) ≥ (1 : Int))) = true then (if (decide ((n0.args.length : Int) ≤ (8 : Int))) = true then ((ContainsFI.f m n0.args (fun y0 => tree_node_1.f m y0 size0)).bind fun x2 => some (!x2)) else (some false)) else (some false)) else (some false)) else (some false)) else (if (n0.kind == (4 : Int)) = true then (if (decide (n0.int ≥ (0 : Int))) = true then ((tree_Names.f m n0.label).bind fun x3 => if x3 = true then (some ((n0.args.length : Int) == (0 : Int))) else (some false)) else (some false)) else (some false)))))
def tree_node.fin (L : Mem) (r : Bool) (s : St) : Prop := ∃ av, resultA Tryd.prog (s.open ann62) Tryd.f62.results.toList = some av ∧ Frb s.h av (.bool r)
def S62 (cf : CallF) (m : Nat) : Prop := ∀ (n0 : VNode) (size0 : Int) (r : Bool), tree_node.f m n0 size0 = some r → ∀ h xs, FrzS bigK h xs [.agg [.int .i64 n0.kind, .int .i64 n0.int, .str n0.label, eInt.fz n0.args], .int .i64 size0] → cf 62 xs h = some (.bool r, h)
section
variable {cf : CallF} {m : Nat}
theorem tree_node_body {ann : FuncId → Ann} (ha : ann 62 = ann62) (S77_ : S77 cf m) (S78_ : S78 cf m) (S79_ : S79 cf m) (S80_ : S80 cf m) (n0 : VNode) (size0 : Int) (h : AHeap) (L : Mem)  (o : Has h (L)) {out : Bool} (H : tree_node.f m n0 size0 = some out) :
    ∃ r h', bodyA Tryd.prog ann cf m 62 [.agg [.int .i64 n0.kind, .int .i64 n0.int, .str n0.label, eInt.fz n0.args], .int .i64 size0] h = some (r, h') ∧ Frb h' r (.bool out) := by
  refine body_of_ends2 (fn := Tryd.f62) ha Tryd.func62 (by kernel_rfl) (by kernel_rfl) ?_
  refine ends_fin (Q := fun s => tree_node.fin L out s) (fun _ _ h => h) ?_
  have H : _ = some out := H
  unfold tree_node.f at H
  show Enz _ cf ann62 m _ ⟨.agg [.int .i64 n0.kind, .int .i64 n0.int, .str n0.label, eInt.fz n0.args] :: .int .i64 size0 :: Ay9 [], [none], h⟩ _
  refine qq ?_
  obtain ⟨ad0, h0, e0, o0⟩ := bx_new (cs := [.int .i64 size0]) o (by kernel_rfl)
  refine qr [.a 1 e0] <| qq <| qq <| q0 <| qb 0 <| qq <| q0 <| qc H (fun c0 H => ?_) (fun c0 H => ?_)
  · refine qq ?_
    rcases ift H with ⟨c1, H⟩ | ⟨c1, H⟩
    · rcases ift H with ⟨c2, H⟩ | ⟨c2, H⟩
      · refine qr [.b 3 c1, .b 8 c2] ?_
        have o1 : Has h0 (L) := Has.del o0 0
        obtain rfl := oi H
        exact qt <| ⟨.inl rfl, fnb (.bool ((n0.args.length : Int) == (0 : Int))) h0 (frb (fb_bool))⟩
      · refine qr [.b 3 c1, .b 8 c2] ?_
        have o2 : Has h0 (L) := Has.del o0 0
        obtain rfl := oi H
        exact qt <| ⟨.inl rfl, fnb (.bool false) h0 (frb (fb_bool))⟩
    · refine qr [.b 3 c1] ?_
      have o3 : Has h0 (L) := Has.del o0 0
      obtain rfl := oi H
      exact qt <| ⟨.inl rfl, fnb (.bool false) h0 (frb (fb_bool))⟩
  · refine q1 <| qc H (fun c3 H => ?_) (fun c3 H => ?_)
    · refine qq ?_
      rcases ift H with ⟨c4, H⟩ | ⟨c4, H⟩
      · rcases ift H with ⟨c5, H⟩ | ⟨c5, H⟩
        · rcases ift H with ⟨c6, H⟩ | ⟨c6, H⟩
          · refine qr [.b 3 c4, .b 8 c5, .b 13 c6] ?_
            have o4 : Has h0 (L) := Has.del o0 0
            obtain rfl := oi H
            exact qt <| ⟨.inl rfl, fnb (.bool ((n0.args.length : Int) == (0 : Int))) h0 (frb (fb_bool))⟩
          · refine qr [.b 3 c4, .b 8 c5, .b 13 c6] ?_
            have o5 : Has h0 (L) := Has.del o0 0
            obtain rfl := oi H
            exact qt <| ⟨.inl rfl, fnb (.bool false) h0 (frb (fb_bool))⟩
        · refine qr [.b 3 c4, .b 8 c5] ?_
          have o6 : Has h0 (L) := Has.del o0 0
          obtain rfl := oi H
          exact qt <| ⟨.inl rfl, fnb (.bool false) h0 (frb (fb_bool))⟩
      · refine qr [.b 3 c4] ?_
        have o7 : Has h0 (L) := Has.del o0 0
        obtain rfl := oi H
        exact qt <| ⟨.inl rfl, fnb (.bool false) h0 (frb (fb_bool))⟩
    · refine q1 <| qc H (fun c7 H => ?_) (fun c7 H => ?_)
      · refine qq ?_
        rcases ift H with ⟨c8, H⟩ | ⟨c8, H⟩
        · obtain ⟨x0, e1, H⟩ := bsi H
          rcases ift H with ⟨c9, H⟩ | ⟨c9, H⟩
          · refine qr [.b 3 c8, .a 6 (S77_ _ _ e1 h0 _ (frs (fr_cons (fr_str) (fr_nil)))), .b 8 c9] ?_
            have o8 : Has h0 (L) := Has.del o0 0
            obtain rfl := oi H
            exact qt <| ⟨.inl rfl, fnb (.bool ((n0.args.length : Int) == (0 : Int))) h0 (frb (fb_bool))⟩
          · refine qr [.b 3 c8, .a 6 (S77_ _ _ e1 h0 _ (frs (fr_cons (fr_str) (fr_nil)))), .b 8 c9] ?_
            have o9 : Has h0 (L) := Has.del o0 0
            obtain rfl := oi H
            exact qt <| ⟨.inl rfl, fnb (.bool false) h0 (frb (fb_bool))⟩
        · refine qr [.b 3 c8] ?_
          have o10 : Has h0 (L) := Has.del o0 0
          obtain rfl := oi H
          exact qt <| ⟨.inl rfl, fnb (.bool false) h0 (frb (fb_bool))⟩
      · refine q1 <| qc H (fun c10 H => ?_) (fun c10 H => ?_)
        · refine qq ?_
          rcases ift H with ⟨c11, H⟩ | ⟨c11, H⟩
          · obtain ⟨x1, e2, H⟩ := bsi H
            rcases ift H with ⟨c12, H⟩ | ⟨c12, H⟩
            · rcases ift H with ⟨c13, H⟩ | ⟨c13, H⟩
              · rcases ift H with ⟨c14, H⟩ | ⟨c14, H⟩
                · obtain ⟨x2, e3, H⟩ := bsi H
                  refine qr [.b 3 c11, .a 6 (S77_ _ _ e2 h0 _ (frs (fr_cons (fr_str) (fr_nil)))), .b 8 c12, .b 14 c13, .b 20 c14, .a 24 (S78_ _ _ _ e3 h0 (Has.pos o0) 79 [.ptr ad0 0] rfl (fun y0 r hr => S79_ y0 _ r hr h0 _ 0 _ o0 rfl) _ (can_cons (can_pure (pu_fz (E := eInt))) (can_cons ((rfl : canonArg (.fn 79 [.ptr ad0 0]) = _)) (can_nil))))] ?_
                  have o11 : Has h0 (L) := Has.del o0 0
                  obtain rfl := oi H
                  exact qt <| ⟨.inl rfl, fnb (.bool (!x2)) h0 (frb (fb_bool))⟩
                · refine qr [.b 3 c11, .a 6 (S77_ _ _ e2 h0 _ (frs (fr_cons (fr_str) (fr_nil)))), .b 8 c12, .b 14 c13, .b 20 c14] ?_
                  have o12 : Has h0 (L) := Has.del o0 0
                  obtain rfl := oi H
                  exact qt <| ⟨.inl rfl, fnb (.bool false) h0 (frb (fb_bool))⟩
              · refine qr [.b 3 c11, .a 6 (S77_ _ _ e2 h0 _ (frs (fr_cons (fr_str) (fr_nil)))), .b 8 c12, .b 14 c13] ?_
                have o13 : Has h0 (L) := Has.del o0 0
                obtain rfl := oi H
                exact qt <| ⟨.inl rfl, fnb (.bool false) h0 (frb (fb_bool))⟩
            · refine qr [.b 3 c11, .a 6 (S77_ _ _ e2 h0 _ (frs (fr_cons (fr_str) (fr_nil)))), .b 8 c12] ?_
              have o14 : Has h0 (L) := Has.del o0 0
              obtain rfl := oi H
              exact qt <| ⟨.inl rfl, fnb (.bool false) h0 (frb (fb_bool))⟩
          · refine qr [.b 3 c11] ?_
            have o15 : Has h0 (L) := Has.del o0 0
            obtain rfl := oi H
            exact qt <| ⟨.inl rfl, fnb (.bool false) h0 (frb (fb_bool))⟩
        · refine q1 ?_
          have o16 : Has h0 (L) := Has.del o0 0
          refine qc H (fun c15 H => ?_) (fun c15 H => ?_)
          · refine qq ?_
            rcases ift H with ⟨c16, H⟩ | ⟨c16, H⟩
            · obtain ⟨x3, e4, H⟩ := bsi H
              rcases ift H with ⟨c17, H⟩ | ⟨c17, H⟩
              · obtain rfl := oi H
                exact qr [.b 3 c16, .a 6 (S80_ _ _ e4 h0 _ (frs (fr_cons (fr_str) (fr_nil)))), .b 8 c17] <| qt <| ⟨.inl rfl, fnb (.bool ((n0.args.length : Int) == (0 : Int))) h0 (frb (fb_bool))⟩
              · obtain rfl := oi H
                exact qr [.b 3 c16, .a 6 (S80_ _ _ e4 h0 _ (frs (fr_cons (fr_str) (fr_nil)))), .b 8 c17] <| qt <| ⟨.inl rfl, fnb (.bool false) h0 (frb (fb_bool))⟩
            · obtain rfl := oi H
              exact qr [.b 3 c16] <| qt <| ⟨.inl rfl, fnb (.bool false) h0 (frb (fb_bool))⟩
          · obtain rfl := oi H
            exact qk <| qq <| q0 <| qt <| ⟨.inl rfl, fnb (.bool false) h0 (frb (fb_bool))⟩
end
end Go.Proofs.YtmekcfdllhphlaaDoor

namespace Go.Proofs.YtmekcfdllhphlaaDoor
open Go Go.R
open Go.IntKind (i64 u64 u8 u32)
def ann52 : Ann := mkA [0, 1, 4, 5, 7, 8, 9, 16] [] [252, 204, 140, 196, 68, 251, 204, 251] [] []
def IndexFN.l0 (m : Nat) (s0 : List VNode) (f0 : VNode → Option (Bool)) : Nat → Int → Option (Sum Int (Int))
  | 0, _ => none
  | k + 1, x0 => if (decide (x0 < (s0.length : Int))) = true then ((ix s0 x0).bind fun v0 => (f0 v0).bind fun r0 => if r0 = true then (some (.inl x0)) else (IndexFN.l0 m s0 f0 k (i64.wrap (x0 + (1 : Int))))) else (some (.inr x0))
def IndexFN.f (m : Nat) (s0 : List VNode) (f0 : VNode → Option (Bool)) : Option (Int) := (IndexFN.l0 m s0 f0 m (0 : Int)).bind fun out0 => match out0 with | .inl r1 => some r1 | .inr x1 => some (-1 : Int)
def IndexFN.fin (h : AHeap) (r : Int) (s : St) : Prop := resultA Tryd.prog (s.open ann52) Tryd.f52.results.toList = some (.int .i64 r) ∧ s.h = h
def S52 (cf : CallF) (m : Nat) : Prop := ∀ (s0 : List VNode) (f0 : VNode → Option (Bool)) (r : Int), IndexFN.f m s0 f0 = some r → ∀ h, 0 < h.next → ∀ (g1_ : FuncId) (cap1_ : List AV), canonArg (.fn g1_ cap1_) = .fn g1_ cap1_ → (∀ (a0 : VNode) r, f0 a0 = some r → cf g1_ ([.agg [.int .i64 a0.kind, .int .i64 a0.int, .str a0.label, eInt.fz a0.args]] ++ cap1_) h = some (.bool r, h)) → ∀ xs, xs.map canonArg = [eNode.fz s0, .fn g1_ cap1_] → cf 52 xs h = some (.int .i64 r, h)
section
variable {cf : CallF} {m : Nat}
theorem IndexFN.l0_ok (h : AHeap) (L : Mem) (g1_ : FuncId) (cap1_ : List AV) (s0 : List VNode) (f0 : VNode → Option (Bool))  (hc1_ : canonArg (.fn g1_ cap1_) = .fn g1_ cap1_) (Hp1_ : ∀ (a0 : VNode) r, f0 a0 = some r → cf g1_ ([.agg [.int .i64 a0.kind, .int .i64 a0.int, .str a0.label, eInt.fz a0.args]] ++ cap1_) h = some (.bool r, h))  : LoopT Tryd.prog cf ann52 m (sub [1, 0, 1, 0, 0] (codeOf Tryd.f52)) (fun k (σ : Int) => IndexFN.l0 m s0 f0 k σ) (fun σ s => match σ with | x0 => s = ⟨[eNode.fz s0, .fn g1_ cap1_, .any, .any, .int .i64 (s0.length : Int), .int .i64 x0, .any, .any], [], h⟩ ∧ Has h (L)) (fun out e s => (e = .exit 0 ∧ ∃ x0, .inr x0 = out ∧ ∃ x0_ x1_ x7_ x8_ x9_, s = ⟨[x0_, x1_, .any, .any, x7_, x8_, x9_, .any], [], h⟩ ∧ Has h (L)) ∨ (e = .ret ∧ ∃ r, .inl r = out ∧ IndexFN.fin h r s)) := by
  refine lpT (fun _ => rfl) ?_
  rintro k x0 s out ⟨rfl, o0⟩ H
  have H : IndexFN.l0 m s0 f0 (k + 1) x0 = some out := H
  refine q1 <| qq <| qc H (fun c0 H => ?_) (fun c0 H => ?_)
  · refine qk <| qq <| qb 1 <| qq <| q0 <| qq ?_
    obtain ⟨v0, e0, H⟩ := bsi H
    obtain ⟨r0, e1, H⟩ := bsi H
    refine qr [.v 3 (ia_fz (k := .i64) (E := eNode) (l := s0) T29 e0), .v 4 (ld_fzA  (E := eNode) (l := s0) h A48 Z48 e0), .a 5 (Hp1_ _ _ e1)] <| qc H (fun c1 H => ?_) (fun c1 H => ?_)
    · exact q1 <| qt <| Or.inr (⟨rfl, _, oi H, ⟨by kernel_rfl, by kernel_rfl⟩⟩)
    · exact qk <| q0 <| ⟨i64.wrap (x0 + (1 : Int)), ⟨by kernel_rfl, o0⟩, H⟩
  · exact qx 0 <| Or.inl (⟨rfl, x0, oi H, eNode.fz s0, .fn g1_ cap1_, .int .i64 (s0.length : Int), .int .i64 x0, .bool (decide (x0 < (s0.length : Int))), by kernel_rfl, o0⟩)
theorem IndexFN_body {ann : FuncId → Ann} (ha : ann 52 = ann52)  (s0 : List VNode) (f0 : VNode → Option (Bool)) (h : AHeap) (L : Mem) (g1_ : FuncId) (cap1_ : List AV)  (hc1_ : canonArg (.fn g1_ cap1_) = .fn g1_ cap1_) (Hp1_ : ∀ (a0 : VNode) r, f0 a0 = some r → cf g1_ ([.agg [.int .i64 a0.kind, .int .i64 a0.int, .str a0.label, eInt.fz a0.args]] ++ cap1_) h = some (.bool r, h)) (o : Has h (L)) {out : Int} (H : IndexFN.f m s0 f0 = some out) :
    ∃ r h', bodyA Tryd.prog ann cf m 52 [eNode.fz s0, .fn g1_ cap1_] h = some (r, h') ∧ r = (.int .i64 out) ∧ h' = h := by
  refine body_of_ends2 (fn := Tryd.f52) ha Tryd.func52 (by kernel_rfl) (by kernel_rfl) ?_
  refine ends_fin (Q := fun s => IndexFN.fin h out s) (fun _ _ ⟨h1, h2, h3⟩ => ⟨h1, _, h2, rfl, h3⟩) ?_
  have H : _ = some out := H
  unfold IndexFN.f at H
  show Enz _ cf ann52 m _ ⟨eNode.fz s0 :: .fn g1_ cap1_ :: Ay6 [], [], h⟩ _
  refine q1 <| qq <| qq <| q0 <| qb 0 ?_
  obtain ⟨out0, e2, H⟩ := bsi H
  refine ql (IndexFN.l0_ok h L g1_ cap1_ s0 f0  hc1_ Hp1_  (0 : Int) _ _ ⟨by kernel_rfl, o⟩ e2) ?_
  rintro e s (⟨rfl, x1, rfl, g0, g1, g2, g3, g4, rfl, o1⟩ | ⟨rfl, r1, rfl, hf0⟩)
  · try dsimp only at H
    obtain rfl := oi H
    exact q1 <| qt <| ⟨.inl rfl, ⟨by kernel_rfl, by kernel_rfl⟩⟩
  · try dsimp only at H
    obtain rfl := oi H
    exact ⟨.inl rfl, hf0⟩
end
end Go.Proofs.YtmekcfdllhphlaaDoor

namespace Go.Proofs.YtmekcfdllhphlaaDoor
open Go Go.R
open Go.IntKind (i64 u64 u8 u32)
def ann34 : Ann := mkA [0, 1, 4] [] [4, 3] [] []
def ContainsFN.f (m : Nat) (s0 : List VNode) (f0 : VNode → Option (Bool)) : Option (Bool) := (IndexFN.f m s0 f0).bind fun x0 => some (decide (x0 ≥ (0 : Int)))
def ContainsFN.fin (h : AHeap) (r : Bool) (s : St) : Prop := resultA Tryd.prog (s.open ann34) Tryd.f34.results.toList = some (.bool r) ∧ s.h = h
def S34 (cf : CallF) (m : Nat) : Prop := ∀ (s0 : List VNode) (f0 : VNode → Option (Bool)) (r : Bool), ContainsFN.f m s0 f0 = some r → ∀ h, 0 < h.next → ∀ (g1_ : FuncId) (cap1_ : List AV), canonArg (.fn g1_ cap1_) = .fn g1_ cap1_ → (∀ (a0 : VNode) r, f0 a0 = some r → cf g1_ ([.agg [.int .i64 a0.kind, .int .i64 a0.int, .str a0.label, eInt.fz a0.args]] ++ cap1_) h = some (.bool r, h)) → ∀ xs, xs.map canonArg = [eNode.fz s0, .fn g1_ cap1_] → cf 34 xs h = some (.bool r, h)
section
variable {cf : CallF} {m : Nat}
theorem ContainsFN_body {ann : FuncId → Ann} (ha : ann 34 = ann34) (S52_ : S52 cf m) (s0 : List VNode) (f0 : VNode → Option (Bool)) (h : AHeap) (L : Mem) (g1_ : FuncId) (cap1_ : List AV)  (hc1_ : canonArg (.fn g1_ cap1_) = .fn g1_ cap1_) (Hp1_ : ∀ (a0 : VNode) r, f0 a0 = some r → cf g1_ ([.agg [.int .i64 a0.kind, .int .i64 a0.int, .str a0.label, eInt.fz a0.args]] ++ cap1_) h = some (.bool r, h)) (o : Has h (L)) {out : Bool} (H : ContainsFN.f m s0 f0 = some out) :
    ∃ r h', bodyA Tryd.prog ann cf m 34 [eNode.fz s0, .fn g1_ cap1_] h = some (r, h') ∧ r = (.bool out) ∧ h' = h := by
  refine body_of_ends2 (fn := Tryd.f34) ha Tryd.func34 (by kernel_rfl) (by kernel_rfl) ?_
  refine ends_fin (Q := fun s => ContainsFN.fin h out s) (fun _ _ ⟨h1, h2, h3⟩ => ⟨h1, _, h2, rfl, h3⟩) ?_
  have H : _ = some out := H
  unfold ContainsFN.f at H
  show Enz _ cf ann34 m _ ⟨[eNode.fz s0, .fn g1_ cap1_, .any], [], h⟩ _
  refine q1 <| qq ?_
  obtain ⟨x0, e0, H⟩ := bsi H
  obtain rfl := oi H
  exact qr [.a 2 (S52_ _ _ _ e0 h (Has.pos o) g1_ cap1_ hc1_ Hp1_ _ (can_cons (can_pure (pu_fz (E := eNode))) (can_cons (hc1_) (can_nil))))] <| qt <| ⟨.inl rfl, ⟨by kernel_rfl, by kernel_rfl⟩⟩
end
end Go.Proofs.YtmekcfdllhphlaaDoor

namespace Go.Proofs.YtmekcfdllhphlaaDoor
open Go Go.R
open Go.IntKind (i64 u64 u8 u32)
def ann51 : Ann := mkA [0, 1, 4, 5, 7, 8, 9, 16] [] [252, 204, 140, 196, 68, 251, 204, 251] [] []
def IndexFT.l0 (m : Nat) (s0 : List VTree) (f0 : VTree → Option (Bool)) : Nat → Int → Option (Sum Int (Int))
  | 0, _ => none
  | k + 1, x0 => if (decide (x0 < (s0.length : Int))) = true then ((ix s0 x0).bind fun v0 => (f0 v0).bind fun r0 => if r0 = true then (some (.inl x0)) else (IndexFT.l0 m s0 f0 k (i64.wrap (x0 + (1 : Int))))) else (some (.inr x0))
def IndexFT.f (m : Nat) (s0 : List VTree) (f0 : VTree → Option (Bool)) : Option (Int) := (IndexFT.l0 m s0 f0 m (0 : Int)).bind fun out0 => match out0 with | .inl r1 => some r1 | .inr x1 => some (-1 : Int)
def IndexFT.fin (h : AHeap) (r : Int) (s : St) : Prop := resultA Tryd.prog (s.open ann51) Tryd.f51.results.toList = some (.int .i64 r) ∧ s.h = h
def S51 (cf : CallF) (m : Nat) : Prop := ∀ (s0 : List VTree) (f0 : VTree → Option (Bool)) (r : Int), IndexFT.f m s0 f0 = some r → ∀ h, 0 < h.next → ∀ (g1_ : FuncId) (cap1_ : List AV), canonArg (.fn g1_ cap1_) = .fn g1_ cap1_ → (∀ (a0 : VTree) r, f0 a0 = some r → cf g1_ ([.agg [eNode.fz a0.nodes, .int .i64 a0.root]] ++ cap1_) h = some (.bool r, h)) → ∀ xs, xs.map canonArg = [eTree.fz s0, .fn g1_ cap1_] → cf 51 xs h = some (.int .i64 r, h)
section
variable {cf : CallF} {m : Nat}
theorem IndexFT.l0_ok (h : AHeap) (L : Mem) (g1_ : FuncId) (cap1_ : List AV) (s0 : List VTree) (f0 : VTree → Option (Bool))  (hc1_ : canonArg (.fn g1_ cap1_) = .fn g1_ cap1_) (Hp1_ : ∀ (a0 : VTree) r, f0 a0 = some r → cf g1_ ([.agg [eNode.fz a0.nodes, .int .i64 a0.root]] ++ cap1_) h = some (.bool r, h))  : LoopT Tryd.prog cf ann51 m (sub [1, 0, 1, 0, 0] (codeOf Tryd.f51)) (fun k (σ : Int) => IndexFT.l0 m s0 f0 k σ) (fun σ s => match σ with | x0 => s = ⟨[eTree.fz s0, .fn g1_ cap1_, .any, .any, .int .i64 (s0.length : Int), .int .i64 x0, .any, .any], [], h⟩ ∧ Has h (L)) (fun out e s => (e = .exit 0 ∧ ∃ x0, .inr x0 = out ∧ ∃ x0_ x1_ x7_ x8_ x9_, s = ⟨[x0_, x1_, .any, .any, x7_, x8_, x9_, .any], [], h⟩ ∧ Has h (L)) ∨ (e = .ret ∧ ∃ r, .inl r = out ∧ IndexFT.fin h r s)) := by
  refine lpT (fun _ => rfl) ?_
  rintro k x0 s out ⟨rfl, o0⟩ H
  have H : IndexFT.l0 m s0 f0 (k + 1) x0 = some out := H
  refine q1 <| qq <| qc H (fun c0 H => ?_) (fun c0 H => ?_)
  · refine qk <| qq <| qb 1 <| qq <| q0 <| qq ?_
    obtain ⟨v0, e0, H⟩ := bsi H
    obtain ⟨r0, e1, H⟩ := bsi H
    refine qr [.v 3 (ia_fz (k := .i64) (E := eTree) (l := s0) T22 e0), .v 4 (ld_fzA  (E := eTree) (l := s0) h A31 Z31 e0), .a 5 (Hp1_ _ _ e1)] <| qc H (fun c1 H => ?_) (fun c1 H => ?_)
    · exact q1 <| qt <| Or.inr (⟨rfl, _, oi H, ⟨by kernel_rfl, by kernel_rfl⟩⟩)
    · exact qk <| q0 <| ⟨i64.wrap (x0 + (1 : Int)), ⟨by kernel_rfl, o0⟩, H⟩
  · exact qx 0 <| Or.inl (⟨rfl, x0, oi H, eTree.fz s0, .fn g1_ cap1_, .int .i64 (s0.length : Int), .int .i64 x0, .bool (decide (x0 < (s0.length : Int))), by kernel_rfl, o0⟩)
theorem IndexFT_body {ann : FuncId → Ann} (ha : ann 51 = ann51)  (s0 : List VTree) (f0 : VTree → Option (Bool)) (h : AHeap) (L : Mem) (g1_ : FuncId) (cap1_ : List AV)  (hc1_ : canonArg (.fn g1_ cap1_) = .fn g1_ cap1_) (Hp1_ : ∀ (a0 : VTree) r, f0 a0 = some r → cf g1_ ([.agg [eNode.fz a0.nodes, .int .i64 a0.root]] ++ cap1_) h = some (.bool r, h)) (o : Has h (L)) {out : Int} (H : IndexFT.f m s0 f0 = some out) :
    ∃ r h', bodyA Tryd.prog ann cf m 51 [eTree.fz s0, .fn g1_ cap1_] h = some (r, h') ∧ r = (.int .i64 out) ∧ h' = h := by
  refine body_of_ends2 (fn := Tryd.f51) ha Tryd.func51 (by kernel_rfl) (by kernel_rfl) ?_
  refine ends_fin (Q := fun s => IndexFT.fin h out s) (fun _ _ ⟨h1, h2, h3⟩ => ⟨h1, _, h2, rfl, h3⟩) ?_
  have H : _ = some out := H
  unfold IndexFT.f at H
  show Enz _ cf ann51 m _ ⟨eTree.fz s0 :: .fn g1_ cap1_ :: Ay6 [], [], h⟩ _
  refine q1 <| qq <| qq <| q0 <| qb 0 ?_
  obtain ⟨out0, e2, H⟩ := bsi H
  refine ql (IndexFT.l0_ok h L g1_ cap1_ s0 f0  hc1_ Hp1_  (0 : Int) _ _ ⟨by kernel_rfl, o⟩ e2) ?_
  rintro e s (⟨rfl, x1, rfl, g0, g1, g2, g3, g4, rfl, o1⟩ | ⟨rfl, r1, rfl, hf0⟩)
  · try dsimp only at H
    obtain rfl := oi H
    exact q1 <| qt <| ⟨.inl rfl, ⟨by kernel_rfl, by kernel_rfl⟩⟩
  · try dsimp only at H
    obtain rfl := oi H
    exact ⟨.inl rfl, hf0⟩
end
end Go.Proofs.YtmekcfdllhphlaaDoor

namespace Go.Proofs.YtmekcfdllhphlaaDoor
open Go Go.R
open Go.IntKind (i64 u64 u8 u32)
def ann32 : Ann := mkA [0, 1, 4] [] [4, 3] [] []
def ContainsFT.f (m : Nat) (s0 : List VTree) (f0 : VTree → Option (Bool)) : Option (Bool) := (IndexFT.f m s0 f0).bind fun x0 => some (decide (x0 ≥ (0 : Int)))
def ContainsFT.fin (h : AHeap) (r : Bool) (s : St) : Prop := resultA Tryd.prog (s.open ann32) Tryd.f32.results.toList = some (.bool r) ∧ s.h = h
def S32 (cf : CallF) (m : Nat) : Prop := ∀ (s0 : List VTree) (f0 : VTree → Option (Bool)) (r : Bool), ContainsFT.f m s0 f0 = some r → ∀ h, 0 < h.next → ∀ (g1_ : FuncId) (cap1_ : List AV), canonArg (.fn g1_ cap1_) = .fn g1_ cap1_ → (∀ (a0 : VTree) r, f0 a0 = some r → cf g1_ ([.agg [eNode.fz a0.nodes, .int .i64 a0.root]] ++ cap1_) h = some (.bool r, h)) → ∀ xs, xs.map canonArg = [eTree.fz s0, .fn g1_ cap1_] → cf 32 xs h = some (.bool r, h)
section
variable {cf : CallF} {m : Nat}
theorem ContainsFT_body {ann : FuncId → Ann} (ha : ann 32 = ann32) (S51_ : S51 cf m) (s0 : List VTree) (f0 : VTree → Option (Bool)) (h : AHeap) (L : Mem) (g1_ : FuncId) (cap1_ : List AV)  (hc1_ : canonArg (.fn g1_ cap1_) = .fn g1_ cap1_) (Hp1_ : ∀ (a0 : VTree) r, f0 a0 = some r → cf g1_ ([.agg [eNode.fz a0.nodes, .int .i64 a0.root]] ++ cap1_) h = some (.bool r, h)) (o : Has h (L)) {out : Bool} (H : ContainsFT.f m s0 f0 = some out) :
    ∃ r h', bodyA Tryd.prog ann cf m 32 [eTree.fz s0, .fn g1_ cap1_] h = some (r, h') ∧ r = (.bool out) ∧ h' = h := by
  refine body_of_ends2 (fn := Tryd.f32) ha Tryd.func32 (by kernel_rfl) (by kernel_rfl) ?_
  refine ends_fin (Q := fun s => ContainsFT.fin h out s) (fun _ _ ⟨h1, h2, h3⟩ => ⟨h1, _, h2, rfl, h3⟩) ?_
  have H : _ = some out := H
  unfold ContainsFT.f at H
  show Enz _ cf ann32 m _ ⟨[eTree.fz s0, .fn g1_ cap1_, .any], [], h⟩ _
  refine q1 <| qq ?_
  obtain ⟨x0, e0, H⟩ := bsi H
  obtain rfl := oi H
  exact qr [.a 2 (S51_ _ _ _ e0 h (Has.pos o) g1_ cap1_ hc1_ Hp1_ _ (can_cons (can_pure (pu_fz (E := eTree))) (can_cons (hc1_) (can_nil))))] <| qt <| ⟨.inl rfl, ⟨by kernel_rfl, by kernel_rfl⟩⟩
end
end Go.Proofs.YtmekcfdllhphlaaDoor

namespace Go.Proofs.YtmekcfdllhphlaaDoor
open Go Go.R
open Go.IntKind (i64 u64 u8 u32)
def letterB (c : Int) : Bool := decide (97 ≤ c ∧ c ≤ 122) || decide (65 ≤ c ∧ c ≤ 90) || decide (48 ≤ c ∧ c ≤ 57) || c == 95
theorem letter_spec {m : Nat} (c : Int) : tree_letter.f m c = some (letterB c) := by
  unfold tree_letter.f
  by_cases h1 : 97 ≤ c <;> by_cases h2 : c ≤ 122 <;> by_cases h3 : 65 ≤ c <;> by_cases h4 : c ≤ 90 <;> by_cases h5 : 48 ≤ c <;> by_cases h6 : c ≤ 57 <;> simp [letterB, h1, h2, h3, h4, h5, h6] <;> omega
theorem bt_some {s : ByteArray} {i : Nat} (h : i < s.size) : ∃ c : UInt8, s.data.toList[i]? = some c ∧ bt s (i : Int) = some (c.toNat : Int) := by
  have h' : i < s.data.toList.length := by simpa using h
  refine ⟨s.data.toList[i], List.getElem?_eq_getElem h', ?_⟩
  unfold bt; rw [if_pos (by omega), Int.toNat_natCast, List.getElem?_eq_getElem h']; rfl
theorem word_l0 {m : Nat} {s : ByteArray} (hs : s.size ≤ 16) : ∀ (f i : Nat), s.size - i < f → i ≤ s.size →
    ∃ o, tree_Word.l0 m s f (i : Int) = some o ∧ ((∃ x, o = .inr x) ∧ ((s.data.toList.drop i).all fun c => letterB (c.toNat : Int)) = true ∨ o = .inl false ∧ ((s.data.toList.drop i).all fun c => letterB (c.toNat : Int)) = false)
  | 0, i, hf, _ => absurd hf (by omega)
  | f + 1, i, hf, hi => by
    unfold tree_Word.l0
    by_cases h : i < s.size
    · obtain ⟨c, hc, hb⟩ := bt_some h
      obtain ⟨h4, h5⟩ := List.getElem?_eq_some_iff.1 hc
      have hd : s.data.toList.drop i = c :: s.data.toList.drop (i + 1) := by rw [← h5]; exact List.drop_eq_getElem_cons h4
      rw [if_pos (by simp only [decide_eq_true_eq]; omega), hb, Option.bind_some, letter_spec, Option.bind_some, hd, List.all_cons]
      cases hl : letterB (c.toNat : Int) with
      | false => exact ⟨_, rfl, .inr ⟨rfl, rfl⟩⟩
      | true =>
        obtain ⟨o, h1, h2⟩ := word_l0 (m := m) hs f (i + 1) (by omega) (by omega)
        rw [if_neg (by simp), i64_id (by omega) (by omega), show (i : Int) + 1 = ((i + 1 : Nat) : Int) by omega, h1]
        exact ⟨o, rfl, by simpa using h2⟩
    · refine ⟨_, by rw [if_neg (by simp only [decide_eq_true_eq]; omega)], .inl ⟨⟨_, rfl⟩, ?_⟩⟩
      rw [List.drop_eq_nil_of_le (by simp; omega)]; rfl
def wordB (s : ByteArray) (lo hi : Int) : Bool := match s.data.toList with
  | [] => false
  | c :: cs => decide (cs.length ≤ 15) && decide (lo ≤ (c.toNat : Int)) && decide ((c.toNat : Int) ≤ hi) && ((c :: cs).all fun c => letterB (c.toNat : Int))
theorem word_spec {m : Nat} (hm : 20 ≤ m) (s : ByteArray) (lo hi : Int) : tree_Word.f m s lo hi = some (wordB s lo hi) := by
  have hsz : s.size = s.data.toList.length := by simp
  unfold tree_Word.f wordB
  cases hl : s.data.toList with
  | nil => rw [if_pos (by rw [hl, List.length_nil] at hsz; simp only [decide_eq_true_eq]; omega)]
  | cons c cs =>
    rw [hl, List.length_cons] at hsz
    rw [if_neg (by simp only [decide_eq_true_eq]; omega)]
    dsimp only
    by_cases h16 : cs.length ≤ 15
    · obtain ⟨c', h1, h2⟩ := bt_some (s := s) (i := 0) (by omega)
      rw [hl] at h1
      simp only [List.getElem?_cons_zero, Option.some.injEq] at h1
      subst h1
      have h2 : bt s 0 = _ := h2
      rw [if_neg (by simp only [decide_eq_true_eq]; omega), h2, Option.bind_some]
      by_cases h3 : (c.toNat : Int) < lo
      · rw [if_pos (by simpa using h3)]
        simp only [Option.some.injEq]
        rw [show decide (lo ≤ (c.toNat : Int)) = false by simp; omega]; simp
      rw [if_neg (by simpa using h3), Option.bind_some]
      by_cases h4 : (c.toNat : Int) > hi
      · rw [if_pos (by simpa using h4)]
        simp only [Option.some.injEq]
        rw [show decide ((c.toNat : Int) ≤ hi) = false by simp; omega]; simp
      rw [if_neg (by simpa using h4)]
      obtain ⟨o, k1, k2⟩ := word_l0 (m := m) (s := s) (by omega) m 0 (by omega) (by omega)
      have k1 : tree_Word.l0 m s m 0 = _ := k1
      rw [k1, Option.bind_some]
      rw [List.drop_zero, hl] at k2
      rw [show decide (lo ≤ (c.toNat : Int)) = true by simp; omega, show decide ((c.toNat : Int) ≤ hi) = true by simp; omega, show decide (cs.length ≤ 15) = true by simpa using h16]
      simp only [Bool.true_and]
      rcases k2 with ⟨⟨x, rfl⟩, k⟩ | ⟨rfl, k⟩
      · rw [k]
      · rw [k]
    · rw [if_pos (by simp only [decide_eq_true_eq]; omega), show decide (cs.length ≤ 15) = false by simp; omega]; rfl
def atomB (s : ByteArray) : Bool := s.data.toList == [124] || s.data.toList == [35] || wordB s 97 122
theorem atom_spec {m : Nat} (hm : 20 ≤ m) (s : ByteArray) : tree_Atom.f m s = some (atomB s) := by
  unfold tree_Atom.f atomB
  show (if (s.data.toList == [124]) = true then _ else if (s.data.toList == [35]) = true then _ else _) = _
  cases h1 : s.data.toList == [124] with
  | true => rfl
  | false =>
    cases h2 : s.data.toList == [35] with
    | true => rfl
    | false => rw [word_spec hm]; rfl
theorem atom_size {s : ByteArray} (h : atomB s = true) : 1 ≤ s.size ∧ s.size ≤ 16 := by
  have hsz : s.size = s.data.toList.length := by simp
  unfold atomB at h
  simp only [Bool.or_eq_true, beq_iff_eq] at h
  rcases h with (h | h) | h
  · rw [h] at hsz; simp at hsz; omega
  · rw [h] at hsz; simp at hsz; omega
  · unfold wordB at h
    split at h
    · cases h
    · rename_i c cs hl
      rw [hl] at hsz
      simp only [Bool.and_eq_true, decide_eq_true_eq] at h
      simp at hsz; omega
def nameB (s : ByteArray) : Bool := s.data.toList == [112, 114, 111, 99] || s.data.toList == [99, 101, 108, 108] || s.data.toList == [112, 111, 114, 116]
theorem name_spec {m : Nat} (s : ByteArray) : tree_Names.f m s = some (nameB s) := by
  unfold tree_Names.f nameB
  show (if (s.data.toList == [112, 114, 111, 99]) = true then _ else if (s.data.toList == [99, 101, 108, 108]) = true then _ else some (s.data.toList == [112, 111, 114, 116])) = _
  cases h1 : s.data.toList == [112, 114, 111, 99] with
  | true => rfl
  | false =>
    cases h2 : s.data.toList == [99, 101, 108, 108] with
    | true => rfl
    | false => rfl
theorem indexI {m : Nat} {s : List Int} {f0 : Int → Option Bool} {g : Int → Bool} (hs : s.length < 2 ^ 40) (C : ∀ x ∈ s, f0 x = some (g x)) : ∀ (f i : Nat), s.length - i < f → i ≤ s.length →
    ∃ o, IndexFI.l0 m s f0 f (i : Int) = some o ∧ ((∃ x, o = .inr x) ∧ (s.drop i).any g = false ∨ (∃ x : Nat, o = .inl (x : Int)) ∧ (s.drop i).any g = true)
  | 0, i, hf, _ => absurd hf (by omega)
  | f + 1, i, hf, hi => by
    have p40 : (2 : Nat) ^ 40 = 1099511627776 := by decide
    unfold IndexFI.l0
    by_cases h : i < s.length
    · have hx : ix s (i : Int) = some s[i] := by unfold ix; rw [if_pos (by omega)]; simp [h]
      rw [if_pos (by simp only [decide_eq_true_eq]; omega), hx, Option.bind_some, C _ (List.getElem_mem h), Option.bind_some, List.drop_eq_getElem_cons h, List.any_cons]
      cases g s[i] with
      | true => exact ⟨_, rfl, .inr ⟨⟨i, rfl⟩, rfl⟩⟩
      | false =>
        obtain ⟨o, h1, h2⟩ := indexI (m := m) hs C f (i + 1) (by omega) (by omega)
        rw [if_neg (by simp), i64_id (by omega) (by omega), show (i : Int) + 1 = ((i + 1 : Nat) : Int) by omega, h1]
        exact ⟨o, rfl, by simpa using h2⟩
    · refine ⟨_, by rw [if_neg (by simp only [decide_eq_true_eq]; omega)], .inl ⟨⟨_, rfl⟩, ?_⟩⟩
      rw [List.drop_eq_nil_of_le (by omega)]; rfl
theorem containsI {m : Nat} {s : List Int} {f0 : Int → Option Bool} {g : Int → Bool} (hs : s.length < 2 ^ 40) (hm : s.length < m) (C : ∀ x ∈ s, f0 x = some (g x)) : ContainsFI.f m s f0 = some (s.any g) := by
  obtain ⟨o, h1, h2⟩ := indexI (m := m) hs C m 0 (by omega) (by omega)
  have h1 : IndexFI.l0 m s f0 m 0 = _ := h1
  unfold ContainsFI.f IndexFI.f
  rw [h1, Option.bind_some]
  rw [List.drop_zero] at h2
  rcases h2 with ⟨⟨x, rfl⟩, k⟩ | ⟨⟨x, rfl⟩, k⟩
  · rw [k]; rfl
  · rw [k]
    simp only [Option.bind_some, Option.some.injEq]
    simp
theorem indexN {m : Nat} {s : List VNode} {f0 : VNode → Option Bool} {g : VNode → Bool} (hs : s.length < 2 ^ 40) (C : ∀ x ∈ s, f0 x = some (g x)) : ∀ (f i : Nat), s.length - i < f → i ≤ s.length →
    ∃ o, IndexFN.l0 m s f0 f (i : Int) = some o ∧ ((∃ x, o = .inr x) ∧ (s.drop i).any g = false ∨ (∃ x : Nat, o = .inl (x : Int)) ∧ (s.drop i).any g = true)
  | 0, i, hf, _ => absurd hf (by omega)
  | f + 1, i, hf, hi => by
    have p40 : (2 : Nat) ^ 40 = 1099511627776 := by decide
    unfold IndexFN.l0
    by_cases h : i < s.length
    · have hx : ix s (i : Int) = some s[i] := by unfold ix; rw [if_pos (by omega)]; simp [h]
      rw [if_pos (by simp only [decide_eq_true_eq]; omega), hx, Option.bind_some, C _ (List.getElem_mem h), Option.bind_some, List.drop_eq_getElem_cons h, List.any_cons]
      cases g s[i] with
      | true => exact ⟨_, rfl, .inr ⟨⟨i, rfl⟩, rfl⟩⟩
      | false =>
        obtain ⟨o, h1, h2⟩ := indexN (m := m) hs C f (i + 1) (by omega) (by omega)
        rw [if_neg (by simp), i64_id (by omega) (by omega), show (i : Int) + 1 = ((i + 1 : Nat) : Int) by omega, h1]
        exact ⟨o, rfl, by simpa using h2⟩
    · refine ⟨_, by rw [if_neg (by simp only [decide_eq_true_eq]; omega)], .inl ⟨⟨_, rfl⟩, ?_⟩⟩
      rw [List.drop_eq_nil_of_le (by omega)]; rfl
theorem containsN {m : Nat} {s : List VNode} {f0 : VNode → Option Bool} {g : VNode → Bool} (hs : s.length < 2 ^ 40) (hm : s.length < m) (C : ∀ x ∈ s, f0 x = some (g x)) : ContainsFN.f m s f0 = some (s.any g) := by
  obtain ⟨o, h1, h2⟩ := indexN (m := m) hs C m 0 (by omega) (by omega)
  have h1 : IndexFN.l0 m s f0 m 0 = _ := h1
  unfold ContainsFN.f IndexFN.f
  rw [h1, Option.bind_some]
  rw [List.drop_zero] at h2
  rcases h2 with ⟨⟨x, rfl⟩, k⟩ | ⟨⟨x, rfl⟩, k⟩
  · rw [k]; rfl
  · rw [k]
    simp only [Option.bind_some, Option.some.injEq]
    simp
theorem indexT {m : Nat} {s : List VTree} {f0 : VTree → Option Bool} {g : VTree → Bool} (hs : s.length < 2 ^ 40) (C : ∀ x ∈ s, f0 x = some (g x)) : ∀ (f i : Nat), s.length - i < f → i ≤ s.length →
    ∃ o, IndexFT.l0 m s f0 f (i : Int) = some o ∧ ((∃ x, o = .inr x) ∧ (s.drop i).any g = false ∨ (∃ x : Nat, o = .inl (x : Int)) ∧ (s.drop i).any g = true)
  | 0, i, hf, _ => absurd hf (by omega)
  | f + 1, i, hf, hi => by
    have p40 : (2 : Nat) ^ 40 = 1099511627776 := by decide
    unfold IndexFT.l0
    by_cases h : i < s.length
    · have hx : ix s (i : Int) = some s[i] := by unfold ix; rw [if_pos (by omega)]; simp [h]
      rw [if_pos (by simp only [decide_eq_true_eq]; omega), hx, Option.bind_some, C _ (List.getElem_mem h), Option.bind_some, List.drop_eq_getElem_cons h, List.any_cons]
      cases g s[i] with
      | true => exact ⟨_, rfl, .inr ⟨⟨i, rfl⟩, rfl⟩⟩
      | false =>
        obtain ⟨o, h1, h2⟩ := indexT (m := m) hs C f (i + 1) (by omega) (by omega)
        rw [if_neg (by simp), i64_id (by omega) (by omega), show (i : Int) + 1 = ((i + 1 : Nat) : Int) by omega, h1]
        exact ⟨o, rfl, by simpa using h2⟩
    · refine ⟨_, by rw [if_neg (by simp only [decide_eq_true_eq]; omega)], .inl ⟨⟨_, rfl⟩, ?_⟩⟩
      rw [List.drop_eq_nil_of_le (by omega)]; rfl
theorem containsT {m : Nat} {s : List VTree} {f0 : VTree → Option Bool} {g : VTree → Bool} (hs : s.length < 2 ^ 40) (hm : s.length < m) (C : ∀ x ∈ s, f0 x = some (g x)) : ContainsFT.f m s f0 = some (s.any g) := by
  obtain ⟨o, h1, h2⟩ := indexT (m := m) hs C m 0 (by omega) (by omega)
  have h1 : IndexFT.l0 m s f0 m 0 = _ := h1
  unfold ContainsFT.f IndexFT.f
  rw [h1, Option.bind_some]
  rw [List.drop_zero] at h2
  rcases h2 with ⟨⟨x, rfl⟩, k⟩ | ⟨⟨x, rfl⟩, k⟩
  · rw [k]; rfl
  · rw [k]
    simp only [Option.bind_some, Option.some.injEq]
    simp
def nodeB (n : VNode) (size : Int) : Bool :=
  if n.kind = 0 then decide (0 ≤ n.int) && n.label.data.toList == [] && n.args.isEmpty
  else if n.kind = 1 then decide (-1099511627776 ≤ n.int) && decide (n.int ≤ 1099511627776) && n.label.data.toList == [] && n.args.isEmpty
  else if n.kind = 2 then n.int == 0 && atomB n.label && n.args.isEmpty
  else if n.kind = 3 then n.int == 0 && atomB n.label && decide (1 ≤ n.args.length) && decide (n.args.length ≤ 8) && n.args.all fun a => decide (0 ≤ a) && decide (a < size)
  else if n.kind = 4 then decide (0 ≤ n.int) && nameB n.label && n.args.isEmpty
  else false
theorem len0 (l : List Int) : ((l.length : Int) == (0 : Int)) = l.isEmpty := by cases l <;> simp; omega
theorem node_spec {m : Nat} (hm : 20 ≤ m) (n : VNode) (size : Int) : tree_node.f m n size = some (nodeB n size) := by
  unfold tree_node.f nodeB
  by_cases k0 : n.kind = 0
  · rw [if_pos (by simpa using k0), if_pos k0]
    by_cases h1 : 0 ≤ n.int
    · rw [if_pos (by simpa using h1), show decide (0 ≤ n.int) = true by simpa using h1]
      show (if (n.label.data.toList == []) = true then _ else _) = _
      cases n.label.data.toList == [] with
      | true => rw [if_pos rfl, len0]; rfl
      | false => rfl
    · rw [if_neg (by simpa using h1), show decide (0 ≤ n.int) = false by simp; omega]; rfl
  rw [if_neg (by simpa using k0), if_neg k0]
  by_cases k1 : n.kind = 1
  · rw [if_pos (by simpa using k1), if_pos k1]
    by_cases h1 : -1099511627776 ≤ n.int
    · rw [if_pos (by simpa using h1), show decide (-1099511627776 ≤ n.int) = true by simpa using h1]
      by_cases h3 : n.int ≤ 1099511627776
      · rw [if_pos (by simpa using h3), show decide (n.int ≤ 1099511627776) = true by simpa using h3]
        show (if (n.label.data.toList == []) = true then _ else _) = _
        cases n.label.data.toList == [] with
        | true => rw [if_pos rfl, len0]; rfl
        | false => rfl
      · rw [if_neg (by simpa using h3), show decide (n.int ≤ 1099511627776) = false by simp; omega]; rfl
    · rw [if_neg (by simpa using h1), show decide (-1099511627776 ≤ n.int) = false by simp; omega]; rfl
  rw [if_neg (by simpa using k1), if_neg k1]
  by_cases k2 : n.kind = 2
  · rw [if_pos (by simpa using k2), if_pos k2]
    cases h1 : n.int == 0 with
    | false => rfl
    | true =>
      rw [if_pos rfl, atom_spec hm, Option.bind_some]
      cases atomB n.label with
      | false => rfl
      | true => rw [if_pos rfl, len0]; rfl
  rw [if_neg (by simpa using k2), if_neg k2]
  by_cases k3 : n.kind = 3
  · rw [if_pos (by simpa using k3), if_pos k3]
    cases h1 : n.int == 0 with
    | false => rfl
    | true =>
      rw [if_pos rfl, atom_spec hm, Option.bind_some]
      cases atomB n.label with
      | false => rfl
      | true =>
        rw [if_pos rfl]
        by_cases g1 : 1 ≤ n.args.length
        · rw [if_pos (by simp only [decide_eq_true_eq]; omega), show decide (1 ≤ n.args.length) = true by simpa using g1]
          by_cases g2 : n.args.length ≤ 8
          · rw [if_pos (by simp only [decide_eq_true_eq]; omega), show decide (n.args.length ≤ 8) = true by simpa using g2]
            rw [containsI (g := fun a => !(decide (0 ≤ a) && decide (a < size))) (by omega) (by omega) (fun a _ => by
              unfold tree_node_1.f
              by_cases w : a < 0
              · rw [if_pos (by simpa using w), show decide (0 ≤ a) = false by simp; omega]; rfl
              · rw [if_neg (by simpa using w), show decide (0 ≤ a) = true by simp; omega]
                by_cases w2 : a < size
                · rw [show decide (a ≥ size) = false from decide_eq_false (by omega), show decide (a < size) = true from decide_eq_true w2]; rfl
                · rw [show decide (a ≥ size) = true from decide_eq_true (by omega), show decide (a < size) = false from decide_eq_false w2]; rfl), Option.bind_some]
            simp [List.not_any_eq_all_not]
          · rw [if_neg (by simp only [decide_eq_true_eq]; omega), show decide (n.args.length ≤ 8) = false from decide_eq_false g2]; rfl
        · rw [if_neg (by simp only [decide_eq_true_eq]; omega), show decide (1 ≤ n.args.length) = false from decide_eq_false g1]; rfl
  rw [if_neg (by simpa using k3), if_neg k3]
  by_cases k4 : n.kind = 4
  · rw [if_pos (by simpa using k4), if_pos k4]
    by_cases h1 : 0 ≤ n.int
    · rw [if_pos (by simpa using h1), show decide (0 ≤ n.int) = true by simpa using h1, name_spec, Option.bind_some]
      cases nameB n.label with
      | false => rfl
      | true => rw [if_pos rfl, len0]; rfl
    · rw [if_neg (by simpa using h1), show decide (0 ≤ n.int) = false by simp; omega]; rfl
  rw [if_neg (by simpa using k4), if_neg k4]
end Go.Proofs.YtmekcfdllhphlaaDoor

namespace Go.Proofs.YtmekcfdllhphlaaDoor
open Go Go.R
open Go.IntKind (i64 u64 u8 u32)
def ann119 : Ann := mkA [0, 1, 2, 3, 8, 9, 14, 34] [] [224, 160, 224, 192, 64, 192, 192] [] []
def insertionSortC.l1 (m : Nat) (a0 : Int) (cmp0 : Int → Int → Option (Int)) : Nat → (List Int) → Int → Option ((List Int) × Int)
  | 0, _, _ => none
  | k + 1, data2, j0 => if (decide (j0 > a0)) = true then ((ix data2 j0).bind fun v0 => (ix data2 (i64.wrap (j0 - (1 : Int)))).bind fun v1 => (cmp0 v0 v1).bind fun r0 => if (decide (r0 < (0 : Int))) = true then ((ix data2 (i64.wrap (j0 - (1 : Int)))).bind fun v2 => (ix data2 j0).bind fun v3 => (ix data2 j0).bind fun v4 => (ix (data2.set j0.toNat v2) (i64.wrap (j0 - (1 : Int)))).bind fun v5 => insertionSortC.l1 m a0 cmp0 k ((data2.set j0.toNat v2).set (i64.wrap (j0 - (1 : Int))).toNat v3) (i64.wrap (j0 - (1 : Int)))) else (some ((data2, j0)))) else (some ((data2, j0)))
def insertionSortC.l0 (m : Nat) (a0 : Int) (b0 : Int) (cmp0 : Int → Int → Option (Int)) : Nat → (List Int) → Int → Option ((List Int) × Int)
  | 0, _, _ => none
  | k + 1, data1, i0 => if (decide (i0 < b0)) = true then ((insertionSortC.l1 m a0 cmp0 m data1 i0).bind fun out0 => match out0 with | (data3, j1) => insertionSortC.l0 m a0 b0 cmp0 k data3 (i64.wrap (i0 + (1 : Int)))) else (some ((data1, i0)))
def insertionSortC.f (m : Nat) (data0 : List Int) (a0 : Int) (b0 : Int) (cmp0 : Int → Int → Option (Int)) : Option ((List Int)) := (insertionSortC.l0 m a0 b0 cmp0 m data0 (i64.wrap (a0 + (1 : Int)))).bind fun out1 => match out1 with | (data4, i1) => some data4
def insertionSortC.fin (L : Mem) (ad0 : Nat) (data0 : List Int) (a0 : Int) (b0 : Int) (cmp0 : Int → Int → Option (Int)) (r : (List Int)) (s : St) : Prop := resultA Tryd.prog (s.open ann119) Tryd.f119.results.toList = some (.tup []) ∧ Has s.h ((ad0, .sl data0.length 1 (eInt.l r)) :: L)
def S119 (cf : CallF) (m : Nat) : Prop := ∀ (data0 : List Int) (a0 : Int) (b0 : Int) (cmp0 : Int → Int → Option (Int)) (r : (List Int)), insertionSortC.f m data0 a0 b0 cmp0 = some r → ∀ h L (n_data0 : Nat) (ad0 : Nat), Has h ((ad0, .sl n_data0 1 (eInt.l data0)) :: L) → ∀ (g3_ : FuncId) (cap3_ : List AV), canonArg (.fn g3_ cap3_) = .fn g3_ cap3_ → (∀ h K, Has h (K ++ L) → ∀ (a0 : Int) (a1 : Int) r, cmp0 a0 a1 = some r → cf g3_ ([.int .i64 a0, .int .i64 a1] ++ cap3_) h = some (.int .i64 r, h)) → ∀ xs, xs.map canonArg = [.rs ad0 0 n_data0 1, .int .i64 a0, .int .i64 b0, .fn g3_ cap3_] → ∃ h', cf 119 xs h = some (.tup [], h') ∧ Has h' ((ad0, .sl n_data0 1 (eInt.l r)) :: L)
section
variable {cf : CallF} {m : Nat}
theorem insertionSortC.l1_ok (L : Mem) (ad0 : Nat) (g3_ : FuncId) (cap3_ : List AV) (data0 : List Int) (a0 : Int) (b0 : Int) (cmp0 : Int → Int → Option (Int)) (i0 : Int)  (hc3_ : canonArg (.fn g3_ cap3_) = .fn g3_ cap3_) (Hp3_ : ∀ h K, Has h (K ++ L) → ∀ (a0 : Int) (a1 : Int) r, cmp0 a0 a1 = some r → cf g3_ ([.int .i64 a0, .int .i64 a1] ++ cap3_) h = some (.int .i64 r, h))  : LoopT Tryd.prog cf ann119 m (sub [1, 0, 0, 1, 0, 0, 1, 0, 0] (codeOf Tryd.f119)) (fun k (σ : (List Int) × Int) => insertionSortC.l1 m a0 cmp0 k σ.1 σ.2) (fun σ s => match σ with | (data2, j0) => ∃ h1, s = ⟨[.rs ad0 0 data0.length 1, .int .i64 a0, .int .i64 b0, .fn g3_ cap3_, .int .i64 i0, .int .i64 j0, .any, .any], [], h1⟩ ∧ Has h1 ((ad0, .sl data0.length 1 (eInt.l data2)) :: L)) (fun out e s => (e = .exit 2 ∧ ∃ data2 j0, (data2, j0) = out ∧ ∃ x9_ x34_ h1, s = ⟨[.rs ad0 0 data0.length 1, .int .i64 a0, .int .i64 b0, .fn g3_ cap3_, .int .i64 i0, x9_, .any, x34_], [], h1⟩ ∧ Has h1 ((ad0, .sl data0.length 1 (eInt.l data2)) :: L))) := by
  refine lpT (fun _ => rfl) ?_
  rintro k ⟨data2, j0⟩ s out ⟨h1, rfl, o1⟩ H
  have H : insertionSortC.l1 m a0 cmp0 (k + 1) data2 j0 = some out := H
  refine qq <| qq ?_
  rcases ift H with ⟨c1, H⟩ | ⟨c1, H⟩
  · obtain ⟨v0, e0, H⟩ := bsi H
    obtain ⟨v1, e1, H⟩ := bsi H
    obtain ⟨r0, e2, H⟩ := bsi H
    refine qr [.b 3 c1, .v 7 (ia_ownL (k := .i64) (E := eInt) (l := data2) (q := 0) T42 o1 rfl e0), .v 8 (ld_own0  (E := eInt) (l := data2) (q := 0) o1 rfl A3 e0 rfl), .v 12 (ia_ownL (k := .i64) (E := eInt) (l := data2) (q := 0) T42 o1 rfl e1), .v 13 (ld_own0  (E := eInt) (l := data2) (q := 0) o1 rfl A3 e1 rfl), .a 14 (Hp3_ h1 [(ad0, .sl data0.length 1 (eInt.l data2))] o1 _ _ _ e2)] <| qc H (fun c2 H => ?_) (fun c2 H => ?_)
    · refine qk <| qq <| qb 3 ?_
      obtain ⟨v2, e3, H⟩ := bsi H
      obtain ⟨v3, e4, H⟩ := bsi H
      obtain ⟨v4, e5, H⟩ := bsi H
      obtain ⟨h2, e6, o2⟩ := st_own (P := Tryd.prog) (tf := 3) (E := eInt) (l := data2) (q := 0) (v := v2) (x := .int .i64 v2) o1 rfl Z3 e5 rfl rfl
      obtain ⟨v5, e7, H⟩ := bsi H
      obtain ⟨h3, e8, o3⟩ := st_own (P := Tryd.prog) (tf := 3) (E := eInt) (l := (data2.set j0.toNat v2)) (q := 0) (v := v3) (x := .int .i64 v3) o2 rfl Z3 e7 rfl rfl
      exact qr [.v 8 (ia_ownL (k := .i64) (E := eInt) (l := data2) (q := 0) T42 o1 rfl e3), .v 9 (ld_own0  (E := eInt) (l := data2) (q := 0) o1 rfl A3 e3 rfl), .v 12 (ia_ownL (k := .i64) (E := eInt) (l := data2) (q := 0) T42 o1 rfl e4), .v 13 (ld_own0  (E := eInt) (l := data2) (q := 0) o1 rfl A3 e4 rfl), .v 14 (ia_ownL (k := .i64) (E := eInt) (l := data2) (q := 0) T42 o1 rfl e5), .w 15 e6, .v 16 (ia_ownL (k := .i64) (E := eInt) (l := (data2.set j0.toNat v2)) (q := 0) T42 o2 rfl e7), .w 17 e8] <| q0 <| ⟨((data2.set j0.toNat v2).set (i64.wrap (j0 - (1 : Int))).toNat v3, i64.wrap (j0 - (1 : Int))), ⟨h3, by kernel_rfl, o3⟩, H⟩
    · exact qx 2 <| ⟨rfl, data2, j0, oi H, .int .i64 j0, .bool (decide (r0 < (0 : Int))), h1, by kernel_rfl, o1⟩
  · exact qr [.b 3 c1] <| qcF <| qx 2 <| ⟨rfl, data2, j0, oi H, .int .i64 j0, .bool false, h1, by kernel_rfl, o1⟩
theorem insertionSortC.l0_ok (L : Mem) (ad0 : Nat) (g3_ : FuncId) (cap3_ : List AV) (data0 : List Int) (a0 : Int) (b0 : Int) (cmp0 : Int → Int → Option (Int))  (hc3_ : canonArg (.fn g3_ cap3_) = .fn g3_ cap3_) (Hp3_ : ∀ h K, Has h (K ++ L) → ∀ (a0 : Int) (a1 : Int) r, cmp0 a0 a1 = some r → cf g3_ ([.int .i64 a0, .int .i64 a1] ++ cap3_) h = some (.int .i64 r, h))  : LoopT Tryd.prog cf ann119 m (sub [1, 0, 0] (codeOf Tryd.f119)) (fun k (σ : (List Int) × Int) => insertionSortC.l0 m a0 b0 cmp0 k σ.1 σ.2) (fun σ s => match σ with | (data1, i0) => ∃ h0, s = ⟨.rs ad0 0 data0.length 1 :: .int .i64 a0 :: .int .i64 b0 :: .fn g3_ cap3_ :: .int .i64 i0 :: Ay3 [], [], h0⟩ ∧ Has h0 ((ad0, .sl data0.length 1 (eInt.l data1)) :: L)) (fun out e s => (e = .exit 0 ∧ ∃ data1 i0, (data1, i0) = out ∧ ∃ x0_ x1_ x2_ x3_ x8_ x14_ h0, s = ⟨[x0_, x1_, x2_, x3_, x8_, .any, x14_, .any], [], h0⟩ ∧ Has h0 ((ad0, .sl data0.length 1 (eInt.l data1)) :: L))) := by
  refine lpT (fun _ => rfl) ?_
  rintro k ⟨data1, i0⟩ s out ⟨h0, rfl, o0⟩ H
  have H : insertionSortC.l0 m a0 b0 cmp0 (k + 1) data1 i0 = some out := H
  refine qq <| qq <| q0 <| qc H (fun c0 H => ?_) (fun c0 H => ?_)
  · refine qk <| qq <| qb 1 <| qq <| q0 <| qb 2 ?_
    obtain ⟨out0, e9, H⟩ := bsi H
    refine ql (insertionSortC.l1_ok L ad0 g3_ cap3_ data0 a0 b0 cmp0 i0  hc3_ Hp3_  (data1, i0) _ _ ⟨h0, by kernel_rfl, o0⟩ e9) ?_
    rintro e s ⟨rfl, data3, j1, rfl, g0, g1, h4, rfl, o4⟩
    try dsimp only at H
    exact q0 <| ⟨(data3, i64.wrap (i0 + (1 : Int))), ⟨h4, by kernel_rfl, o4⟩, H⟩
  · exact qx 0 <| ⟨rfl, data1, i0, oi H, .rs ad0 0 data0.length 1, .int .i64 a0, .int .i64 b0, .fn g3_ cap3_, .int .i64 i0, .bool (decide (i0 < b0)), h0, by kernel_rfl, o0⟩
theorem insertionSortC_body {ann : FuncId → Ann} (ha : ann 119 = ann119)  (data0 : List Int) (a0 : Int) (b0 : Int) (cmp0 : Int → Int → Option (Int)) (h : AHeap) (L : Mem) (ad0 : Nat) (g3_ : FuncId) (cap3_ : List AV)  (hc3_ : canonArg (.fn g3_ cap3_) = .fn g3_ cap3_) (Hp3_ : ∀ h K, Has h (K ++ L) → ∀ (a0 : Int) (a1 : Int) r, cmp0 a0 a1 = some r → cf g3_ ([.int .i64 a0, .int .i64 a1] ++ cap3_) h = some (.int .i64 r, h)) (o : Has h ((ad0, .sl data0.length 1 (eInt.l data0)) :: L)) {out : (List Int)} (H : insertionSortC.f m data0 a0 b0 cmp0 = some out) :
    ∃ r h', bodyA Tryd.prog ann cf m 119 [.rs ad0 0 data0.length 1, .int .i64 a0, .int .i64 b0, .fn g3_ cap3_] h = some (r, h') ∧ r = .tup [] ∧ Has h' ((ad0, .sl data0.length 1 (eInt.l out)) :: L) := by
  refine body_of_ends2 (fn := Tryd.f119) ha Tryd.func119 (by kernel_rfl) (by kernel_rfl) ?_
  refine ends_fin (Q := fun s => insertionSortC.fin L ad0 data0 a0 b0 cmp0 out s) (fun _ _ ⟨h1, h2, h3⟩ => ⟨h1, _, h2, rfl, h3⟩) ?_
  have H : _ = some out := H
  unfold insertionSortC.f at H
  show Enz _ cf ann119 m _ ⟨.rs ad0 0 data0.length 1 :: .int .i64 a0 :: .int .i64 b0 :: .fn g3_ cap3_ :: Ay4 [], [], h⟩ _
  refine q1 <| qb 0 ?_
  obtain ⟨out1, e10, H⟩ := bsi H
  refine ql (insertionSortC.l0_ok L ad0 g3_ cap3_ data0 a0 b0 cmp0  hc3_ Hp3_  (data0, i64.wrap (a0 + (1 : Int))) _ _ ⟨h, by kernel_rfl, o⟩ e10) ?_
  rintro e s ⟨rfl, data4, i1, rfl, g2, g3, g4, g5, g6, g7, h5, rfl, o5⟩
  try dsimp only at H
  obtain rfl := oi H
  exact ⟨.inr rfl, ⟨by kernel_rfl, he o5⟩⟩
end
end Go.Proofs.YtmekcfdllhphlaaDoor

namespace Go.Proofs.YtmekcfdllhphlaaDoor
open Go Go.R
open Go.IntKind (i64 u64 u8 u32)
structure Mv (lo hi : Nat) (l d : List Int) : Prop where
  perm : d.Perm l
  out : ∀ k, k < lo ∨ hi ≤ k → gt d k = gt l k
  im : ∀ k, lo ≤ k → k < hi → ∃ k', lo ≤ k' ∧ k' < hi ∧ gt d k = gt l k'
theorem Mv.refl {lo hi : Nat} {l : List Int} : Mv lo hi l l := ⟨List.Perm.refl _, fun _ _ => rfl, fun k h1 h2 => ⟨k, h1, h2, rfl⟩⟩
theorem Mv.trans {lo hi : Nat} {l d e : List Int} (a : Mv lo hi l d) (b : Mv lo hi d e) : Mv lo hi l e :=
  ⟨b.perm.trans a.perm, fun k hk => (b.out k hk).trans (a.out k hk), fun k h1 h2 => by
    obtain ⟨k', g1, g2, g3⟩ := b.im k h1 h2
    obtain ⟨k'', g4, g5, g6⟩ := a.im k' g1 g2
    exact ⟨k'', g4, g5, g3.trans g6⟩⟩
theorem Mv.length {lo hi : Nat} {l d : List Int} (a : Mv lo hi l d) : d.length = l.length := a.perm.length_eq
theorem Mv.wide {lo hi lo' hi' : Nat} {l d : List Int} (a : Mv lo hi l d) (h1 : lo' ≤ lo) (h2 : hi ≤ hi') : Mv lo' hi' l d :=
  ⟨a.perm, fun k hk => a.out k (by omega), fun k h3 h4 => by
    by_cases h : lo ≤ k ∧ k < hi
    · obtain ⟨k', g1, g2, g3⟩ := a.im k h.1 h.2
      exact ⟨k', by omega, by omega, g3⟩
    · exact ⟨k, h3, h4, a.out k (by omega)⟩⟩
theorem mv_swp {lo hi i j : Nat} {l : List Int} (hi1 : lo ≤ i) (hi2 : i < hi) (hj1 : lo ≤ j) (hj2 : j < hi) (h : hi ≤ l.length) : Mv lo hi l (swp l i j) :=
  ⟨swp_perm (by omega) (by omega), fun k hk => by rw [gt_swp (by omega) (by omega), if_neg (by omega), if_neg (by omega)], fun k h1 h2 => by
    rw [gt_swp (by omega) (by omega)]
    split
    · exact ⟨i, hi1, hi2, rfl⟩
    split
    · exact ⟨j, hj1, hj2, rfl⟩
    · exact ⟨k, h1, h2, rfl⟩⟩
def Cm (cmp : Int → Int → Option Int) (c : Int → Int → Int) (l : List Int) : Prop := ∀ x ∈ l, ∀ y ∈ l, cmp x y = some (c x y)
theorem Cm.perm {cmp c l d} (h : Cm cmp c l) (p : List.Perm d l) : Cm cmp c d := fun x hx y hy => h x (p.mem_iff.1 hx) y (p.mem_iff.1 hy)
theorem Cm.at {cmp c} {l : List Int} (h : Cm cmp c l) {i j : Nat} (hi : i < l.length) (hj : j < l.length) : cmp (gt l i) (gt l j) = some (c (gt l i) (gt l j)) := h _ (gt_mem hi) _ (gt_mem hj)
structure Ord (c : Int → Int → Int) (l : List Int) : Prop where
  tr : ∀ x ∈ l, ∀ y ∈ l, ∀ z ∈ l, 0 ≤ c y x → 0 ≤ c z y → 0 ≤ c z x
  asy : ∀ x ∈ l, ∀ y ∈ l, c x y < 0 → 0 ≤ c y x
theorem Ord.perm {c l d} (h : Ord c l) (p : List.Perm d l) : Ord c d := ⟨fun x hx y hy z hz => h.tr x (p.mem_iff.1 hx) y (p.mem_iff.1 hy) z (p.mem_iff.1 hz), fun x hx y hy => h.asy x (p.mem_iff.1 hx) y (p.mem_iff.1 hy)⟩
def Sg (c : Int → Int → Int) (l : List Int) (a b : Nat) : Prop := ∀ i j, a ≤ i → i < j → j < b → 0 ≤ c (gt l j) (gt l i)
theorem ins_l1 {m : Nat} {a i : Nat} {cmp : Int → Int → Option Int} {c : Int → Int → Int} : ∀ (f j : Nat) (d : List Int), j - a < f → a ≤ j → j ≤ i → i < d.length → d.length < 2 ^ 40 → Cm cmp c d →
    ∃ d' x, insertionSortC.l1 m (a : Int) cmp f d (j : Int) = some (d', x) ∧ Mv a (i + 1) d d' ∧
      (Ord c d → (∀ x y, a ≤ x → x < y → y ≤ i → x ≠ j → y ≠ j → 0 ≤ c (gt d y) (gt d x)) → (∀ y, j < y → y ≤ i → 0 ≤ c (gt d y) (gt d j)) → Sg c d' a (i + 1))
  | 0, j, d, hf, _, _, _, _, _ => absurd hf (by omega)
  | f + 1, j, d, hf, h1, h2, h3, hs, C => by
    have p40 : (2 : Nat) ^ 40 = 1099511627776 := by decide
    unfold insertionSortC.l1
    by_cases h : a < j
    · have e1 : i64.wrap ((j : Int) - 1) = ((j - 1 : Nat) : Int) := by rw [i64_id (by omega) (by omega)]; omega
      rw [if_pos (by simp; omega), e1, ix_gt (by omega), ix_gt (by omega), Option.bind_some, Option.bind_some, C.at (by omega) (by omega), Option.bind_some]
      by_cases hc : c (gt d j) (gt d (j - 1)) < 0
      · rw [if_pos (by simpa using hc), Option.bind_some, Option.bind_some, Option.bind_some, Int.toNat_natCast, Int.toNat_natCast, ix_gt (by simp; omega), Option.bind_some]
        obtain ⟨d', x, k1, k2, k3⟩ := ins_l1 (m := m) (a := a) (i := i) (cmp := cmp) (c := c) f (j - 1) (swp d j (j - 1)) (by omega) (by omega) (by omega) (by rw [swp_length]; omega) (by rw [swp_length]; omega) (C.perm (swp_perm (by omega) (by omega)))
        refine ⟨d', x, k1, (mv_swp (by omega) (by omega) (by omega) (by omega) (by omega)).trans k2, fun O g1 g2 => k3 (O.perm (swp_perm (by omega) (by omega))) (fun x y x1 x2 x3 x4 x5 => ?_) (fun y y1 y2 => ?_)⟩
        · rw [gt_swp (by omega) (by omega), gt_swp (by omega) (by omega), if_neg x5, if_neg x4]
          by_cases hy : y = j
          · subst hy
            rw [if_pos rfl, if_neg (by omega)]
            exact g1 _ _ (by omega) (by omega) (by omega) (by omega) (by omega)
          · rw [if_neg hy]
            by_cases hx : x = j
            · subst hx
              rw [if_pos rfl]
              exact g1 _ _ (by omega) (by omega) (by omega) (by omega) (by omega)
            · rw [if_neg hx]
              exact g1 _ _ (by omega) (by omega) (by omega) (by omega) (by omega)
        · rw [gt_swp (by omega) (by omega), gt_swp (by omega) (by omega), if_neg (by omega), if_pos rfl]
          by_cases hy : y = j
          · subst hy
            rw [if_pos rfl]
            exact O.asy _ (gt_mem (by omega)) _ (gt_mem (by omega)) hc
          · rw [if_neg hy]
            exact g2 _ (by omega) (by omega)
      · rw [if_neg (by simpa using hc)]
        refine ⟨d, j, rfl, Mv.refl, fun O g1 g2 x y x1 x2 x3 => ?_⟩
        have hc : 0 ≤ c (gt d j) (gt d (j - 1)) := by omega
        by_cases hx : x = j
        · subst hx; exact g2 _ x2 (by omega)
        · by_cases hy : y = j
          · subst hy
            by_cases hx1 : x = y - 1
            · subst hx1; exact hc
            · exact O.tr _ (gt_mem (by omega)) (gt d (y - 1)) (gt_mem (by omega)) _ (gt_mem (by omega)) (g1 _ _ x1 (by omega) (by omega) hx (by omega)) hc
          · exact g1 _ _ x1 x2 (by omega) hx hy
    · have : j = a := by omega
      subst this
      rw [if_neg (by simp)]
      refine ⟨d, j, rfl, Mv.refl, fun O g1 g2 x y x1 x2 x3 => ?_⟩
      by_cases hx : x = j
      · subst hx; exact g2 _ x2 (by omega)
      · exact g1 _ _ x1 x2 (by omega) hx (by omega)
theorem ins_l0 {m : Nat} {a b : Nat} {cmp : Int → Int → Option Int} {c : Int → Int → Int} (hm : 2 ^ 41 ≤ m) : ∀ (f i : Nat) (d : List Int), b - i < f → a < i → b ≤ d.length → d.length < 2 ^ 40 → Cm cmp c d →
    ∃ d' x, insertionSortC.l0 m (a : Int) (b : Int) cmp f d (i : Int) = some (d', x) ∧ Mv a b d d' ∧ (Ord c d → Sg c d a i → Sg c d' a b)
  | 0, i, d, hf, _, _, _, _ => absurd hf (by omega)
  | f + 1, i, d, hf, h1, h2, hs, C => by
    have p40 : (2 : Nat) ^ 40 = 1099511627776 := by decide
    have p41 : (2 : Nat) ^ 41 = 2199023255552 := by decide
    unfold insertionSortC.l0
    by_cases h : i < b
    · obtain ⟨d1, x1, k1, k2, k3⟩ := ins_l1 (m := m) (a := a) (i := i) (cmp := cmp) (c := c) m i d (by omega) (by omega) (by omega) (by omega) hs C
      have e3 : i64.wrap ((i : Int) + 1) = ((i + 1 : Nat) : Int) := by rw [i64_id (by omega) (by omega)]; omega
      rw [if_pos (by simp; omega), k1, Option.bind_some]
      dsimp only
      rw [e3]
      have hl := k2.length
      obtain ⟨d', x, g1, g2, g3⟩ := ins_l0 (a := a) (b := b) (cmp := cmp) (c := c) hm f (i + 1) d1 (by omega) (by omega) (by omega) (by omega) (C.perm k2.perm)
      exact ⟨d', x, g1, (k2.wide (Nat.le_refl _) (by omega)).trans g2, fun O S => g3 (O.perm k2.perm) (k3 O (fun x y q1 q2 q3 q4 q5 => S x y q1 q2 (by omega)) (fun y q1 q2 => absurd q1 (by omega)))⟩
    · exact ⟨d, i, by rw [if_neg (by simp; omega)], Mv.refl, fun O S x y q1 q2 q3 => S x y q1 q2 (by omega)⟩
theorem ins_spec {m : Nat} {a b : Nat} {cmp : Int → Int → Option Int} {c : Int → Int → Int} (hm : 2 ^ 41 ≤ m) {l : List Int} (ha : a ≤ l.length) (hb : b ≤ l.length) (hs : l.length < 2 ^ 40) (C : Cm cmp c l) :
    ∃ d, insertionSortC.f m l (a : Int) (b : Int) cmp = some d ∧ Mv a b l d ∧ (Ord c l → Sg c d a b) := by
  have p40 : (2 : Nat) ^ 40 = 1099511627776 := by decide
  have p41 : (2 : Nat) ^ 41 = 2199023255552 := by decide
  have e3 : i64.wrap ((a : Int) + 1) = ((a + 1 : Nat) : Int) := by rw [i64_id (by omega) (by omega)]; omega
  obtain ⟨d', x, g1, g2, g3⟩ := ins_l0 (a := a) (b := b) (cmp := cmp) (c := c) hm m (a + 1) l (by omega) (by omega) hb hs C
  exact ⟨d', by unfold insertionSortC.f; rw [e3, g1]; rfl, g2, fun O => g3 O fun x y q1 q2 q3 => absurd q3 (by omega)⟩
end Go.Proofs.YtmekcfdllhphlaaDoor

