/- Part of the proof: Q55, Q60, Q44, PR3, PR4, PR5, Q21, Q42, Q36, Q31, Q35, Q33, Q14, Q41, Q19, PR6, PR7, PT1, PT2, PR8, PR9, PT3, PT4, PT5, PT11, Q16, Q18, Q4, PR10, PT12, Q23, Q111, Q86, Q69, Q48. -/
import Derived.Test.YtmekcfdllhphlaaDoorK8
set_option linter.unusedVariables false
set_option linter.unusedSimpArgs false
set_option maxRecDepth 100000
namespace Go.Proofs.YtmekcfdllhphlaaDoor
open Go Go.R
open Go.IntKind (i64 u64 u8 u32)
def ann55 : Ann := mkA [0, 1, 3, 5, 14, 15, 22, 26, 41, 47, 60, 61, 62, 63] [3] [16378, 16378, 16362, 16330, 16383, 16298, 16250, 16383, 16383, 16106, 16383, 15866, 16378, 16378, 9214, 1022, 9206, 9214, 9214] [] []
def wr_node.l0 (m : Nat) (n0 : VNode) : Nat → Int → (List Int) → Option (Int × (List Int))
  | 0, _, _ => none
  | k + 1, x6, w1 => if (decide (x6 < (n0.args.length : Int))) = true then ((ix n0.args x6).bind fun v0 => (wr_number.f m w1 (u64.wrap v0)).bind fun x7 => wr_node.l0 m n0 k (i64.wrap (x6 + (1 : Int))) x7) else (some ((x6, w1)))
def wr_node.f (m : Nat) (w0 : List Int) (n0 : VNode) : Option ((List Int)) := (wB1 w0 ([u8.wrap n0.kind])).bind fun bs0 => if (n0.kind == (0 : Int)) = true then ((wr_number.f m bs0 (u64.wrap n0.int)).bind fun x0 => some x0) else (if (n0.kind == (1 : Int)) = true then (if (decide (n0.int < (0 : Int))) = true then ((wr_number.f m bs0 (u64.wrap (u64.wrap (u64.wrap (i64.wrap (0 - n0.int)) * (2 : Int)) - (1 : Int)))).bind fun x1 => some x1) else ((wr_number.f m bs0 (u64.wrap (u64.wrap n0.int * (2 : Int)))).bind fun x2 => some x2)) else (if (n0.kind == (2 : Int)) = true then ((wr_text.f m bs0 n0.label).bind fun x3 => some x3) else (if (n0.kind == (3 : Int)) = true then ((wr_text.f m bs0 n0.label).bind fun x4 => (wr_number.f m x4 (u64.wrap (n0.args.length : Int))).bind fun x5 => (wr_node.l0 m n0 m (0 : Int) x5).bind fun out0 => match out0 with | (x8, w2) => some w2) else (some bs0))))
def wr_node.fin (L : Mem) (ad_w0 : Nat) (is_w0_0 : Nat) (w0 : List Int) (n0 : VNode) (r : (List Int)) (s : St) : Prop := ∃ iw0_0 : Nat, resultA Tryd.prog (s.open ann55) Tryd.f55.results.toList = some (.tup []) ∧ Has s.h ((ad_w0, .ob [.rs iw0_0 0 r.length 1, .int .i64 (0 : Int), .int .i8 (0 : Int)]) :: (iw0_0, .row 5 (eByte.l r)) :: L)
def S55 (cf : CallF) (m : Nat) : Prop := ∀ (w0 : List Int) (n0 : VNode) (r : (List Int)), wr_node.f m w0 n0 = some r → ∀ h L (ad_w0 : Nat) (is_w0_0 : Nat), Has h ((ad_w0, .ob [.rs is_w0_0 0 w0.length 1, .int .i64 (0 : Int), .int .i8 (0 : Int)]) :: (is_w0_0, .row 5 (eByte.l w0)) :: L) → ∀ xs, xs.map canonArg = [.ptr ad_w0 0, .agg [.int .i64 n0.kind, .int .i64 n0.int, .str n0.label, eInt.fz n0.args]] → ∃ iw0_0 h', cf 55 xs h = some (.tup [], h') ∧ Has h' ((ad_w0, .ob [.rs iw0_0 0 r.length 1, .int .i64 (0 : Int), .int .i8 (0 : Int)]) :: (iw0_0, .row 5 (eByte.l r)) :: L)
section
variable {cf : CallF} {m : Nat}
theorem wr_node.l0_ok (L : Mem) (ad_w0 : Nat) (is_w0_0 : Nat) (w0 : List Int) (n0 : VNode)  (S54_ : S54 cf m) : LoopT Tryd.prog cf ann55 m (sub [1, 1, 1, 0, 1, 1, 1, 1, 1, 1, 1, 0, 1, 1, 1, 0, 0] (codeOf Tryd.f55)) (fun k (σ : Int × (List Int)) => wr_node.l0 m n0 k σ.1 σ.2) (fun σ s => match σ with | (x6, w1) => ∃ ad7 h7, s = ⟨.ptr ad_w0 0 :: Ay9 [eInt.fz n0.args, .int .i64 (n0.args.length : Int), .int .i64 x6, .any], [none], h7⟩ ∧ Has h7 ((ad_w0, .ob [.rs ad7 0 w1.length 1, .int .i64 (0 : Int), .int .i8 (0 : Int)]) :: (ad7, .row 5 (eByte.l w1)) :: L)) (fun out e s => (e = .exit 1 ∧ ∃ x6 w1, (x6, w1) = out ∧ ∃ x0_ x60_ x61_ x62_ x63_ ad7 h7, s = ⟨x0_ :: Ay9 [x60_, x61_, x62_, x63_], [none], h7⟩ ∧ Has h7 ((ad_w0, .ob [.rs ad7 0 w1.length 1, .int .i64 (0 : Int), .int .i8 (0 : Int)]) :: (ad7, .row 5 (eByte.l w1)) :: L))) := by
  refine lpT (fun _ => rfl) ?_
  rintro k ⟨x6, w1⟩ s out ⟨ad7, h7, rfl, o7⟩ H
  have H : wr_node.l0 m n0 (k + 1) x6 w1 = some out := H
  refine q1 <| qq <| qc H (fun c5 H => ?_) (fun c5 H => ?_)
  · refine qk <| qq <| qb 2 <| qq ?_
    obtain ⟨v0, e14, H⟩ := bsi H
    refine qr [.v 0 (ia_fz (k := .i64) (E := eInt) (l := n0.args) T42 e14), .v 1 (ld_fz0  (E := eInt) (l := n0.args) h7 A3 e14 rfl)] ?_
    obtain ⟨x7, e15, H⟩ := bsi H
    obtain ⟨ad8, h8, e16, o8⟩ := S54_ _ _ _ e15 h7 _ _ _ (o7)  [.ptr ad_w0 0, .int .u64 (u64.wrap v0)] (can_cons (rfl) (can_cons (can_pure (pu_int)) (can_nil)))
    exact qr [.a 3 e16] <| q0 <| ⟨(i64.wrap (x6 + (1 : Int)), x7), ⟨ad8, h8, by kernel_rfl, o8⟩, H⟩
  · exact qx 1 <| ⟨rfl, x6, w1, oi H, .ptr ad_w0 0, eInt.fz n0.args, .int .i64 (n0.args.length : Int), .int .i64 x6, .bool (decide (x6 < (n0.args.length : Int))), ad7, h7, by kernel_rfl, o7⟩
theorem wr_node_body {ann : FuncId → Ann} (ha : ann 55 = ann55) (S53_ : S53 cf m) (S54_ : S54 cf m) (S74_ : S74 cf m) (w0 : List Int) (n0 : VNode) (h : AHeap) (L : Mem) (ad_w0 : Nat) (is_w0_0 : Nat)  (o : Has h ((ad_w0, .ob [.rs is_w0_0 0 w0.length 1, .int .i64 (0 : Int), .int .i8 (0 : Int)]) :: (is_w0_0, .row 5 (eByte.l w0)) :: L)) {out : (List Int)} (H : wr_node.f m w0 n0 = some out) :
    ∃ r h', bodyA Tryd.prog ann cf m 55 [.ptr ad_w0 0, .agg [.int .i64 n0.kind, .int .i64 n0.int, .str n0.label, eInt.fz n0.args]] h = some (r, h') ∧ ∃ iw0_0 : Nat, r = .tup [] ∧ Has h' ((ad_w0, .ob [.rs iw0_0 0 out.length 1, .int .i64 (0 : Int), .int .i8 (0 : Int)]) :: (iw0_0, .row 5 (eByte.l out)) :: L) := by
  refine body_of_ends2 (fn := Tryd.f55) ha Tryd.func55 (by kernel_rfl) (by kernel_rfl) ?_
  refine ends_fin (Q := fun s => wr_node.fin L ad_w0 is_w0_0 w0 n0 out s) (fun _ _ ⟨h1, iw0_0, h2, h3⟩ => ⟨h1, _, h2, iw0_0, rfl, h3⟩) ?_
  have H : _ = some out := H
  unfold wr_node.f at H
  show Enz _ cf ann55 m _ ⟨.ptr ad_w0 0 :: .agg [.int .i64 n0.kind, .int .i64 n0.int, .str n0.label, eInt.fz n0.args] :: Ay12 [], [none], h⟩ _
  refine q1 <| qq ?_
  obtain ⟨bs0, e0, H⟩ := bsi H
  obtain ⟨ad0, h0, e1, o0⟩ := wb_own1 (bs := w0) S53_ o e0
  refine qr [.a 6 e1] <| qq <| q0 <| qb 0 <| qq <| q0 <| qc H (fun c0 H => ?_) (fun c0 H => ?_)
  · obtain ⟨x0, e2, H⟩ := bsi H
    obtain ⟨ad1, h1, e3, o1⟩ := S54_ _ _ _ e2 h0 _ _ _ (o0)  [.ptr ad_w0 0, .int .u64 (u64.wrap n0.int)] (can_cons (rfl) (can_cons (can_pure (pu_int)) (can_nil)))
    obtain rfl := oi H
    exact qr [.a 4 e3] <| ⟨.inr rfl, ⟨ad1, by kernel_rfl, he o1⟩⟩
  · refine q1 <| qc H (fun c1 H => ?_) (fun c1 H => ?_)
    · refine q1 <| qc H (fun c2 H => ?_) (fun c2 H => ?_)
      · obtain ⟨x1, e4, H⟩ := bsi H
        obtain ⟨ad2, h2, e5, o2⟩ := S54_ _ _ _ e4 h0 _ _ _ (o0)  [.ptr ad_w0 0, .int .u64 (u64.wrap (u64.wrap (u64.wrap (i64.wrap (0 - n0.int)) * (2 : Int)) - (1 : Int)))] (can_cons (rfl) (can_cons (can_pure (pu_int)) (can_nil)))
        obtain rfl := oi H
        exact qr [.a 7 e5] <| ⟨.inr rfl, ⟨ad2, by kernel_rfl, he o2⟩⟩
      · obtain ⟨x2, e6, H⟩ := bsi H
        obtain ⟨ad3, h3, e7, o3⟩ := S54_ _ _ _ e6 h0 _ _ _ (o0)  [.ptr ad_w0 0, .int .u64 (u64.wrap (u64.wrap n0.int * (2 : Int)))] (can_cons (rfl) (can_cons (can_pure (pu_int)) (can_nil)))
        obtain rfl := oi H
        exact qr [.a 5 e7] <| ⟨.inr rfl, ⟨ad3, by kernel_rfl, he o3⟩⟩
    · refine q1 <| qc H (fun c3 H => ?_) (fun c3 H => ?_)
      · obtain ⟨x3, e8, H⟩ := bsi H
        obtain ⟨ad4, h4, e9, o4⟩ := S74_ _ _ _ e8 h0 _ _ _ (o0)  [.ptr ad_w0 0, .str n0.label] (can_cons (rfl) (can_cons (can_pure (pu_str)) (can_nil)))
        obtain rfl := oi H
        exact qr [.a 3 e9] <| ⟨.inr rfl, ⟨ad4, by kernel_rfl, he o4⟩⟩
      · refine q1 <| qc H (fun c4 H => ?_) (fun c4 H => ?_)
        · refine qq ?_
          obtain ⟨x4, e10, H⟩ := bsi H
          obtain ⟨ad5, h5, e11, o5⟩ := S74_ _ _ _ e10 h0 _ _ _ (o0)  [.ptr ad_w0 0, .str n0.label] (can_cons (rfl) (can_cons (can_pure (pu_str)) (can_nil)))
          refine qr [.a 3 e11] <| qq ?_
          obtain ⟨x5, e12, H⟩ := bsi H
          obtain ⟨ad6, h6, e13, o6⟩ := S54_ _ _ _ e12 h5 _ _ _ (o5)  [.ptr ad_w0 0, .int .u64 (u64.wrap (n0.args.length : Int))] (can_cons (rfl) (can_cons (can_pure (pu_int)) (can_nil)))
          refine qr [.a 5 e13] <| qq <| q0 <| qb 1 ?_
          obtain ⟨out0, e17, H⟩ := bsi H
          refine ql (wr_node.l0_ok L ad_w0 is_w0_0 w0 n0  S54_ ((0 : Int), x5) _ _ ⟨ad6, h6, by kernel_rfl, o6⟩ e17) ?_
          rintro e s ⟨rfl, x8, w2, rfl, g0, g1, g2, g3, g4, ad9, h9, rfl, o9⟩
          try dsimp only at H
          obtain rfl := oi H
          exact ⟨.inr rfl, ⟨ad9, by kernel_rfl, he o9⟩⟩
        · obtain rfl := oi H
          exact qk <| ⟨.inr rfl, ⟨ad0, by kernel_rfl, he o0⟩⟩
end
end Go.Proofs.YtmekcfdllhphlaaDoor

namespace Go.Proofs.YtmekcfdllhphlaaDoor
open Go Go.R
open Go.IntKind (i64 u64 u8 u32)
end Go.Proofs.YtmekcfdllhphlaaDoor

namespace Go.Proofs.YtmekcfdllhphlaaDoor
open Go Go.R
open Go.IntKind (i64 u64 u8 u32)
end Go.Proofs.YtmekcfdllhphlaaDoor

namespace Go.Proofs.YtmekcfdllhphlaaDoor
open Go Go.R
open Go.IntKind (i64 u64 u8 u32)
theorem strBytes_len (s : ByteArray) : (strBytes s).length = s.size := by simp [strBytes]
theorem encN_len : ∀ (k n : Nat), n < 128 ^ (k + 1) → (encN n).length ≤ k + 1
  | k, n, h => by
    by_cases h1 : n < 128
    · rw [encN_small h1]; simp
    · cases k with
      | zero => simp at h; omega
      | succ k =>
        have hd : n / 128 < 128 ^ (k + 1) := by
          rw [Nat.div_lt_iff_lt_mul (by omega)]
          calc n < 128 ^ (k + 1 + 1) := h
            _ = _ := by rw [Nat.pow_succ]
        have := encN_len k (n / 128) hd
        rw [encN_big h1]; simp; omega
theorem encN_len64 {n : Nat} (h : n < 2 ^ 64) : (encN n).length ≤ 10 := encN_len 9 n (by omega)
def encS (s : ByteArray) : List Int := encN s.size ++ strBytes s
theorem wtext {m : Nat} {w : List Int} {s : ByteArray} (hm : 11 ≤ m) (hs : s.size ≠ 0) (hw : w ≠ []) (hl : w.length + s.size + 20 ≤ 140737488355328) : wr_text.f m w s = some (w ++ encS s) := by
  unfold wr_text.f
  have h1 : s.size < 2 ^ 64 := by omega
  have h2 := encN_len64 h1
  rw [u64_id (by omega) (by omega), wnum hm h1 hw (by omega), Option.bind_some, wB1_some (by simp [hw]) (fun h => hs (by rw [← strBytes_len, h]; rfl)) (by simp [strBytes_len]; omega), Option.bind_some, List.append_assoc]
  rfl
structure WNode (n : VNode) : Prop where
  kind : n.kind = 0 ∧ (0 ≤ n.int ∧ n.int < 2 ^ 63) ∧ n.label = ByteArray.mk #[] ∧ n.args = [] ∨ n.kind = 1 ∧ (-(2 ^ 62) ≤ n.int ∧ n.int < 2 ^ 62) ∧ n.label = ByteArray.mk #[] ∧ n.args = [] ∨ n.kind = 2 ∧ n.int = 0 ∧ n.args = [] ∨ n.kind = 3 ∧ n.int = 0
  label : 2 ≤ n.kind → n.label.size ≠ 0 ∧ n.label.size < 2 ^ 40
  args : n.args.length ≤ 8 ∧ ∀ a ∈ n.args, 0 ≤ a ∧ a < 2 ^ 63
def zig (x : Int) : Nat := if x < 0 then ((-x) * 2 - 1).toNat else (x * 2).toNat
def encNode (n : VNode) : List Int :=
  n.kind :: (if n.kind = 0 then encN n.int.toNat else if n.kind = 1 then encN (zig n.int) else if n.kind = 2 then encS n.label else encS n.label ++ encN n.args.length ++ (n.args.map fun a => encN a.toNat).flatten)
theorem wargs {m : Nat} (hm : 11 ≤ m) (n0 : VNode) (ha : ∀ a ∈ n0.args, 0 ≤ a ∧ a < 2 ^ 63) (hlen : n0.args.length ≤ 8) : ∀ (l : List Int) (f i : Nat) (w : List Int), l.length < f → n0.args.drop i = l → i ≤ 8 → w ≠ [] → w.length + 20 * l.length + 20 ≤ 140737488355328 →
    ∃ x, wr_node.l0 m n0 f (i : Int) w = some (x, w ++ (l.map fun a => encN a.toNat).flatten)
  | l, 0, i, w, hf, _, _, _, _ => absurd hf (by omega)
  | [], f + 1, i, w, hf, hd, hi, hw, hl => by
    have : n0.args.length ≤ i := by
      have := congrArg List.length hd
      simp at this
      omega
    refine ⟨i, ?_⟩
    unfold wr_node.l0
    rw [if_neg (by simp; omega)]
    simp
  | a :: l, f + 1, i, w, hf, hd, hi, hw, hl => by
    have hi2 : i < n0.args.length := by
      have := congrArg List.length hd
      simp at this
      omega
    have hg : n0.args[i]? = some a := by
      have := congrArg (·[0]?) hd
      simpa using this
    have ham : a ∈ n0.args := List.mem_of_getElem? hg
    obtain ⟨h1, h2⟩ := ha a ham
    obtain ⟨b, rfl⟩ : ∃ b : Nat, a = (b : Int) := ⟨a.toNat, by omega⟩
    have hd2 : n0.args.drop (i + 1) = l := by
      rw [← List.tail_drop, hd]; rfl
    have e1 : (encN b).length ≤ 10 := encN_len64 (by omega)
    simp only [List.length_cons] at hf hl
    obtain ⟨x, ih⟩ := wargs hm n0 ha hlen l f (i + 1) (w ++ encN b) (by omega) hd2 (by omega) (by simp [hw]) (by simp; omega)
    refine ⟨x, ?_⟩
    unfold wr_node.l0
    have hix : ix n0.args (i : Int) = some (b : Int) := by unfold ix; rw [if_pos (by omega)]; exact hg
    rw [if_pos (by simp; omega), hix, Option.bind_some, u64_id h1 (by omega), wnum hm (by omega) hw (by omega), Option.bind_some, i64_id (by omega) (by omega)]
    rw [show ((i : Int) + 1) = ((i + 1 : Nat) : Int) by omega]
    rw [ih, List.map_cons, List.flatten_cons, List.append_assoc, Int.toNat_natCast]
end Go.Proofs.YtmekcfdllhphlaaDoor

namespace Go.Proofs.YtmekcfdllhphlaaDoor
open Go Go.R
open Go.IntKind (i64 u64 u8 u32)
theorem zig_neg {x : Int} (h : x < 0) (h2 : -(2 ^ 62) ≤ x) : u64.wrap (u64.wrap (u64.wrap (i64.wrap (0 - x)) * 2) - 1) = (zig x : Int) := by
  have : (2 : Int) ^ 62 = 4611686018427387904 := by decide
  rw [i64_id (by omega) (by omega), u64_id (x := 0 - x) (by omega) (by omega), u64_id (x := (0 - x) * 2) (by omega) (by omega), u64_id (by omega) (by omega)]
  unfold zig
  rw [if_pos h]
  omega
theorem zig_pos {x : Int} (h : ¬ x < 0) (h2 : x < 2 ^ 62) : u64.wrap (u64.wrap x * 2) = (zig x : Int) := by
  have : (2 : Int) ^ 62 = 4611686018427387904 := by decide
  rw [u64_id (x := x) (by omega) (by omega), u64_id (by omega) (by omega)]
  unfold zig
  rw [if_neg h]
  omega
theorem zig_lt {x : Int} (h1 : -(2 ^ 62) ≤ x) (h2 : x < 2 ^ 62) : zig x < 2 ^ 63 := by
  have : (2 : Int) ^ 62 = 4611686018427387904 := by decide
  have : (2 : Nat) ^ 63 = 9223372036854775808 := by decide
  unfold zig
  split <;> omega
theorem wnode {m : Nat} {w : List Int} {n : VNode} (hm : 11 ≤ m) (W : WNode n) (hl : w.length + n.label.size + 1000 ≤ 140737488355328) (hw : w ≠ []) : wr_node.f m w n = some (w ++ encNode n) := by
  have p63 : (2 : Nat) ^ 63 = 9223372036854775808 := by decide
  have q63 : (2 : Int) ^ 63 = 9223372036854775808 := by decide
  have p64 : (2 : Nat) ^ 64 = 18446744073709551616 := by decide
  have hk : 0 ≤ n.kind ∧ n.kind ≤ 3 := by rcases W.kind with h | h | h | h <;> (have := h.1; omega)
  unfold wr_node.f
  rw [u8_wrap, show n.kind % 256 = n.kind by omega, wB1_some hw (by simp) (by simp; omega), Option.bind_some]
  rcases W.kind with ⟨h, hi, _, _⟩ | ⟨h, hi, _, _⟩ | ⟨h, hi, _⟩ | ⟨h, hi⟩
  · obtain ⟨b, hb⟩ : ∃ b : Nat, n.int = (b : Int) := ⟨n.int.toNat, by omega⟩
    rw [show encNode n = 0 :: encN b by simp [encNode, h, hb], h, if_pos (by decide), u64_id (by omega) (by omega), hb, wnum hm (by omega) (by simp) (by simp; omega), Option.bind_some]
    simp
  · have hz := zig_lt hi.1 hi.2
    rw [show encNode n = 1 :: encN (zig n.int) by simp [encNode, h], h, if_neg (by decide), if_pos (by decide)]
    by_cases hn : n.int < 0
    · rw [if_pos (by simpa using hn), zig_neg hn hi.1, wnum hm (by omega) (by simp) (by simp; omega), Option.bind_some]
      simp
    · rw [if_neg (by simpa using hn), zig_pos hn hi.2, wnum hm (by omega) (by simp) (by simp; omega), Option.bind_some]
      simp
  · obtain ⟨g1, g2⟩ := W.label (by omega)
    rw [show encNode n = 2 :: encS n.label by simp [encNode, h], h, if_neg (by decide), if_neg (by decide), if_pos (by decide), wtext hm g1 (by simp) (by simp; omega), Option.bind_some]
    simp
  · obtain ⟨g1, g2⟩ := W.label (by omega)
    obtain ⟨g3, g4⟩ := W.args
    have e1 : (encS n.label).length ≤ 10 + n.label.size := by
      unfold encS
      have := encN_len64 (n := n.label.size) (by omega)
      simp [strBytes_len]; omega
    have e2 : (encN n.args.length).length ≤ 10 := encN_len64 (by omega)
    rw [show encNode n = 3 :: (encS n.label ++ encN n.args.length ++ (n.args.map fun a => encN a.toNat).flatten) by simp [encNode, h], h, if_neg (by decide), if_neg (by decide), if_neg (by decide), if_pos (by decide), wtext hm g1 (by simp) (by simp; omega), Option.bind_some,
      u64_id (by omega) (by omega), wnum hm (by omega) (by simp) (by simp; omega), Option.bind_some]
    obtain ⟨x, hx⟩ := wargs hm n g4 g3 n.args m 0 (w ++ [3] ++ encS n.label ++ encN n.args.length) (by omega) rfl (by omega) (by simp) (by simp; omega)
    have hx : wr_node.l0 m n m (0 : Int) (w ++ [3] ++ encS n.label ++ encN n.args.length) = _ := hx
    rw [hx, Option.bind_some]
    simp
end Go.Proofs.YtmekcfdllhphlaaDoor

namespace Go.Proofs.YtmekcfdllhphlaaDoor
open Go Go.R
open Go.IntKind (i64 u64 u8 u32)
end Go.Proofs.YtmekcfdllhphlaaDoor

namespace Go.Proofs.YtmekcfdllhphlaaDoor
open Go Go.R
open Go.IntKind (i64 u64 u8 u32)
def ann21 : Ann := mkA [0, 2, 3, 5, 6, 7, 8, 9, 16, 17] [] [1022, 1018, 907, 779, 899, 907, 651, 139, 651, 651, 907, 1021] [] []
def pickle_Sum.l1 (m : Nat)  : Nat → Int → Int → Option (Int × Int)
  | 0, _, _ => none
  | k + 1, crc1, x1 => if (decide (x1 < (8 : Int))) = true then (pickle_Sum.l1 m k (bitsXor .u32 (shR .u32 crc1 1) (bitsAnd .u32 (3988292384 : Int) (u32.wrap (0 - (bitsAnd .u32 crc1 (1 : Int)))))) (i64.wrap (x1 + (1 : Int)))) else (some ((crc1, x1)))
def pickle_Sum.l0 (m : Nat) (b0 : List Int) : Nat → Int → Int → Option (Int × Int)
  | 0, _, _ => none
  | k + 1, crc0, x0 => if (decide (x0 < (b0.length : Int))) = true then ((ix b0 x0).bind fun v0 => (pickle_Sum.l1 m m (bitsXor .u32 crc0 (u32.wrap v0)) (0 : Int)).bind fun out0 => match out0 with | (crc2, x2) => pickle_Sum.l0 m b0 k crc2 (i64.wrap (x0 + (1 : Int)))) else (some ((crc0, x0)))
def pickle_Sum.f (m : Nat) (b0 : List Int) : Option (Int) := (pickle_Sum.l0 m b0 m (4294967295 : Int) (0 : Int)).bind fun out1 => match out1 with | (crc3, x3) => some (i64.wrap (compl .u32 crc3))
def pickle_Sum.fin (L : Mem) (r : Int) (s : St) : Prop := ∃ av, resultA Tryd.prog (s.open ann21) Tryd.f21.results.toList = some av ∧ Frb s.h av (.int .i64 r)
def S21 (cf : CallF) (m : Nat) : Prop := ∀ (b0 : List Int) (r : Int), pickle_Sum.f m b0 = some r → ∀ h xs, FrzS bigK h xs [eByte.fz b0] → cf 21 xs h = some (.int .i64 r, h)
section
variable {cf : CallF} {m : Nat}
theorem pickle_Sum.l1_ok (L : Mem) (b0 : List Int) (x0 : Int)   : LoopT Tryd.prog cf ann21 m (sub [1, 1, 0, 1, 0, 0, 1, 1, 0, 0, 1, 1, 1, 0, 0] (codeOf Tryd.f21)) (fun k (σ : Int × Int) => pickle_Sum.l1 m k σ.1 σ.2) (fun σ s => match σ with | (crc1, x1) => ∃ h1, s = ⟨[.any, .any, .int .u32 crc1, .any, eByte.fz b0, .int .i64 (b0.length : Int), .int .i64 x0, .any, .int .i64 x1, .any], [], h1⟩ ∧ Has h1 (L)) (fun out e s => (e = .exit 2 ∧ ∃ crc1 x1, (crc1, x1) = out ∧ ∃ x16_ x17_ h1, s = ⟨[.any, .any, .int .u32 crc1, .any, eByte.fz b0, .int .i64 (b0.length : Int), .int .i64 x0, .any, x16_, x17_], [], h1⟩ ∧ Has h1 (L))) := by
  refine lpT (fun _ => rfl) ?_
  rintro k ⟨crc1, x1⟩ s out ⟨h1, rfl, o1⟩ H
  have H : pickle_Sum.l1 m (k + 1) crc1 x1 = some out := H
  refine q1 <| qq <| qc H (fun c1 H => ?_) (fun c1 H => ?_)
  · exact qk <| qq <| qb 3 <| q0 <| q0 <| ⟨(bitsXor .u32 (shR .u32 crc1 1) (bitsAnd .u32 (3988292384 : Int) (u32.wrap (0 - (bitsAnd .u32 crc1 (1 : Int))))), i64.wrap (x1 + (1 : Int))), ⟨h1, by kernel_rfl, o1⟩, H⟩
  · exact qx 2 <| ⟨rfl, crc1, x1, oi H, .int .i64 x1, .bool (decide (x1 < (8 : Int))), h1, by kernel_rfl, o1⟩
theorem pickle_Sum.l0_ok (L : Mem) (b0 : List Int)   : LoopT Tryd.prog cf ann21 m (sub [1, 1, 0, 1, 0, 0] (codeOf Tryd.f21)) (fun k (σ : Int × Int) => pickle_Sum.l0 m b0 k σ.1 σ.2) (fun σ s => match σ with | (crc0, x0) => ∃ h0, s = ⟨.any :: .any :: .int .u32 crc0 :: .any :: eByte.fz b0 :: .int .i64 (b0.length : Int) :: .int .i64 x0 :: Ay3 [], [], h0⟩ ∧ Has h0 (L)) (fun out e s => (e = .exit 0 ∧ ∃ crc0 x0, (crc0, x0) = out ∧ ∃ x6_ x7_ x8_ x9_ h0, s = ⟨[.any, .any, .int .u32 crc0, .any, x6_, x7_, x8_, x9_, .any, .any], [], h0⟩ ∧ Has h0 (L))) := by
  refine lpT (fun _ => rfl) ?_
  rintro k ⟨crc0, x0⟩ s out ⟨h0, rfl, o0⟩ H
  have H : pickle_Sum.l0 m b0 (k + 1) crc0 x0 = some out := H
  refine q1 <| qq <| qc H (fun c0 H => ?_) (fun c0 H => ?_)
  · refine qk <| qq <| qb 1 <| qq ?_
    obtain ⟨v0, e0, H⟩ := bsi H
    refine qr [.v 0 (ia_fz (k := .i64) (E := eByte) (l := b0) T25 e0), .v 1 (ld_fz0  (E := eByte) (l := b0) h0 A5 e0 rfl)] <| qq <| q0 <| qq <| q0 <| qb 2 ?_
    obtain ⟨out0, e1, H⟩ := bsi H
    refine ql (pickle_Sum.l1_ok L b0 x0   (bitsXor .u32 crc0 (u32.wrap v0), (0 : Int)) _ _ ⟨h0, by kernel_rfl, o0⟩ e1) ?_
    rintro e s ⟨rfl, crc2, x2, rfl, g0, g1, h2, rfl, o2⟩
    try dsimp only at H
    exact q0 <| ⟨(crc2, i64.wrap (x0 + (1 : Int))), ⟨h2, by kernel_rfl, o2⟩, H⟩
  · exact qx 0 <| ⟨rfl, crc0, x0, oi H, eByte.fz b0, .int .i64 (b0.length : Int), .int .i64 x0, .bool (decide (x0 < (b0.length : Int))), h0, by kernel_rfl, o0⟩
theorem pickle_Sum_body {ann : FuncId → Ann} (ha : ann 21 = ann21)  (b0 : List Int) (h : AHeap) (L : Mem)  (o : Has h (L)) {out : Int} (H : pickle_Sum.f m b0 = some out) :
    ∃ r h', bodyA Tryd.prog ann cf m 21 [eByte.fz b0] h = some (r, h') ∧ Frb h' r (.int .i64 out) := by
  refine body_of_ends2 (fn := Tryd.f21) ha Tryd.func21 (by kernel_rfl) (by kernel_rfl) ?_
  refine ends_fin (Q := fun s => pickle_Sum.fin L out s) (fun _ _ h => h) ?_
  have H : _ = some out := H
  unfold pickle_Sum.f at H
  show Enz _ cf ann21 m _ ⟨eByte.fz b0 :: Ay9 [], [], h⟩ _
  refine q1 <| qq <| q0 <| qq <| qq <| q0 <| qb 0 ?_
  obtain ⟨out1, e2, H⟩ := bsi H
  refine ql (pickle_Sum.l0_ok L b0   ((4294967295 : Int), (0 : Int)) _ _ ⟨h, by kernel_rfl, o⟩ e2) ?_
  rintro e s ⟨rfl, crc3, x3, rfl, g2, g3, g4, g5, h3, rfl, o3⟩
  try dsimp only at H
  obtain rfl := oi H
  exact q1 <| qt <| ⟨.inl rfl, fnb (.int .i64 (i64.wrap (compl .u32 crc3))) h3 (frb (fb_int))⟩
end
end Go.Proofs.YtmekcfdllhphlaaDoor

namespace Go.Proofs.YtmekcfdllhphlaaDoor
open Go Go.R
open Go.IntKind (i64 u64 u8 u32)
def ann42 : Ann := mkA [0, 2, 3] [17] [6, 3, 5] [] [(0, [(2, none, 1)])]
def pickle_check.f (m : Nat) (b0 : List Int) : Option ((List Int)) := (pickle_Sum.f m b0).bind fun x0 => some ([u8.wrap x0, u8.wrap (shR .i64 x0 8), u8.wrap (shR .i64 x0 16), u8.wrap (shR .i64 x0 24)])
def pickle_check.fin (L : Mem) (r : (List Int)) (s : St) : Prop := ∃ av, resultA Tryd.prog (s.open ann42) Tryd.f42.results.toList = some av ∧ Frb s.h av (eByte.fz r)
def S42 (cf : CallF) (m : Nat) : Prop := ∀ (b0 : List Int) (r : (List Int)), pickle_check.f m b0 = some r → ∀ h xs, FrzS bigK h xs [eByte.fz b0] → cf 42 xs h = some (eByte.fz r, h)
section
variable {cf : CallF} {m : Nat}
theorem pickle_check_body {ann : FuncId → Ann} (ha : ann 42 = ann42) (S21_ : S21 cf m) (b0 : List Int) (h : AHeap) (L : Mem)  (o : Has h (L)) {out : (List Int)} (H : pickle_check.f m b0 = some out) :
    ∃ r h', bodyA Tryd.prog ann cf m 42 [eByte.fz b0] h = some (r, h') ∧ Frb h' r (eByte.fz out) := by
  refine body_of_ends2 (fn := Tryd.f42) ha Tryd.func42 (by kernel_rfl) (by kernel_rfl) ?_
  refine ends_fin (Q := fun s => pickle_check.fin L out s) (fun _ _ h => h) ?_
  have H : _ = some out := H
  unfold pickle_check.f at H
  show Enz _ cf ann42 m _ ⟨[eByte.fz b0, .any, .any], [none], h⟩ _
  refine q1 <| qq ?_
  obtain ⟨x0, e0, H⟩ := bsi H
  refine qr [.a 1 (S21_ _ _ e0 h _ (frs (fr_cons (fr_fz (E := eByte)) (fr_nil))))] <| qq ?_
  obtain ⟨ad0, h0, e1, o0⟩ := lit_new (E := eByte) (l := [u8.wrap x0, u8.wrap (shR .i64 x0 8), u8.wrap (shR .i64 x0 16), u8.wrap (shR .i64 x0 24)]) (cs := [.int .u8 (u8.wrap x0), .int .u8 (u8.wrap (shR .i64 x0 8)), .int .u8 (u8.wrap (shR .i64 x0 16)), .int .u8 (u8.wrap (shR .i64 x0 24))]) o (by kernel_rfl)
  obtain rfl := oi H
  exact qr [.a 11 e1] <| qt <| ⟨.inl rfl, fnb (.rs ad0 0 (([u8.wrap x0, u8.wrap (shR .i64 x0 8), u8.wrap (shR .i64 x0 16), u8.wrap (shR .i64 x0 24)] : List Int).length) 1) h0 (frb (fb_rs (E := eByte) (l := ([u8.wrap x0, u8.wrap (shR .i64 x0 8), u8.wrap (shR .i64 x0 16), u8.wrap (shR .i64 x0 24)])) (q := 0) o0 rfl (fun _ => rfl)))⟩
end
end Go.Proofs.YtmekcfdllhphlaaDoor

namespace Go.Proofs.YtmekcfdllhphlaaDoor
open Go Go.R
open Go.IntKind (i64 u64 u8 u32)
def ann36 : Ann := mkA [0, 2, 3, 5, 7, 8, 24, 25, 26, 27, 37, 38, 39, 40] [5, 7] [16382, 16378, 16378, 16378, 16378, 15931, 15419, 15923, 15923, 8763, 571, 8747, 8763, 8763, 15931, 16351, 16381] [] []
def pickle_write.l1 (m : Nat) (v0 : VTree) : Nat → Int → (List Int) → Option (Int × (List Int))
  | 0, _, _ => none
  | k + 1, x3, buf1 => if (decide (x3 < (v0.nodes.length : Int))) = true then ((ix v0.nodes x3).bind fun v1 => (wr_node.f m buf1 v1).bind fun x4 => pickle_write.l1 m v0 k (i64.wrap (x3 + (1 : Int))) x4) else (some ((x3, buf1)))
def pickle_write.l0 (m : Nat) (list0 : List VTree) : Nat → Int → (List Int) → Option (Int × (List Int))
  | 0, _, _ => none
  | k + 1, x1, buf0 => if (decide (x1 < (list0.length : Int))) = true then ((ix list0 x1).bind fun v0 => (wr_number.f m buf0 (u64.wrap (v0.nodes.length : Int))).bind fun x2 => (pickle_write.l1 m v0 m (0 : Int) x2).bind fun out0 => match out0 with | (x5, buf2) => pickle_write.l0 m list0 k (i64.wrap (x1 + (1 : Int))) buf2) else (some ((x1, buf0)))
def pickle_write.f (m : Nat) (list0 : List VTree) : Option ((List Int)) := (wB ([]) ([(76 : Int)])).bind fun bs0 => (wB1 bs0 ([(1 : Int)])).bind fun bs1 => (wr_number.f m bs1 (u64.wrap (list0.length : Int))).bind fun x0 => (pickle_write.l0 m list0 m (0 : Int) x0).bind fun out1 => match out1 with | (x6, buf3) => (bufLen buf3).bind fun u0 => (pickle_check.f m buf3).bind fun x7 => (app 1 buf3 x7).bind fun x8 => some x8
def pickle_write.fin (L : Mem) (r : (List Int)) (s : St) : Prop := ∃ av, resultA Tryd.prog (s.open ann36) Tryd.f36.results.toList = some av ∧ Frb s.h av (eByte.fz r)
def S36 (cf : CallF) (m : Nat) : Prop := ∀ (list0 : List VTree) (r : (List Int)), pickle_write.f m list0 = some r → ∀ h xs, FrzS bigK h xs [eTree.fz list0] → cf 36 xs h = some (eByte.fz r, h)
section
variable {cf : CallF} {m : Nat}
theorem pickle_write.l1_ok (L : Mem) (list0 : List VTree) (ad0 : Nat) (x1 : Int) (v0 : VTree)  (S55_ : S55 cf m) : LoopT Tryd.prog cf ann36 m (sub [1, 1, 1, 1, 1, 0, 1, 0, 0, 1, 1, 0, 0, 1, 1, 1, 0, 0] (codeOf Tryd.f36)) (fun k (σ : Int × (List Int)) => pickle_write.l1 m v0 k σ.1 σ.2) (fun σ s => match σ with | (x3, buf1) => ∃ ad6 h6, s = ⟨.any :: .any :: .ptr ad0 0 :: Ay3 [eTree.fz list0, .int .i64 (list0.length : Int), .int .i64 x1, .any, eNode.fz v0.nodes, .int .i64 (v0.nodes.length : Int), .int .i64 x3, .any], [none, none], h6⟩ ∧ Has h6 ((ad0, .ob [.rs ad6 0 buf1.length 1, .int .i64 (0 : Int), .int .i8 (0 : Int)]) :: (ad6, .row 5 (eByte.l buf1)) :: L)) (fun out e s => (e = .exit 2 ∧ ∃ x3 buf1, (x3, buf1) = out ∧ ∃ x37_ x38_ x39_ x40_ ad6 h6, s = ⟨.any :: .any :: .ptr ad0 0 :: Ay3 [eTree.fz list0, .int .i64 (list0.length : Int), .int .i64 x1, .any, x37_, x38_, x39_, x40_], [none, none], h6⟩ ∧ Has h6 ((ad0, .ob [.rs ad6 0 buf1.length 1, .int .i64 (0 : Int), .int .i8 (0 : Int)]) :: (ad6, .row 5 (eByte.l buf1)) :: L))) := by
  refine lpT (fun _ => rfl) ?_
  rintro k ⟨x3, buf1⟩ s out ⟨ad6, h6, rfl, o6⟩ H
  have H : pickle_write.l1 m v0 (k + 1) x3 buf1 = some out := H
  refine q1 <| qq <| qc H (fun c1 H => ?_) (fun c1 H => ?_)
  · refine qk <| qq <| qb 3 <| qq ?_
    obtain ⟨v1, e10, H⟩ := bsi H
    refine qr [.v 0 (ia_fz (k := .i64) (E := eNode) (l := v0.nodes) T29 e10), .v 1 (ld_fzA  (E := eNode) (l := v0.nodes) h6 A48 Z48 e10)] ?_
    obtain ⟨x4, e11, H⟩ := bsi H
    obtain ⟨ad7, h7, e12, o7⟩ := S55_ _ _ _ e11 h6 _ _ _ (o6)  [.ptr ad0 0, .agg [.int .i64 v1.kind, .int .i64 v1.int, .str v1.label, eInt.fz v1.args]] (can_cons (rfl) (can_cons (can_pure (pu_agg (pu_cons (pu_int) (pu_cons (pu_int) (pu_cons (pu_str) (pu_cons (pu_fz (E := eInt)) (pu_nil))))))) (can_nil)))
    exact qr [.a 2 e12] <| q0 <| ⟨(i64.wrap (x3 + (1 : Int)), x4), ⟨ad7, h7, by kernel_rfl, o7⟩, H⟩
  · exact qx 2 <| ⟨rfl, x3, buf1, oi H, eNode.fz v0.nodes, .int .i64 (v0.nodes.length : Int), .int .i64 x3, .bool (decide (x3 < (v0.nodes.length : Int))), ad6, h6, by kernel_rfl, o6⟩
theorem pickle_write.l0_ok (L : Mem) (list0 : List VTree) (ad0 : Nat)  (S54_ : S54 cf m) (S55_ : S55 cf m) : LoopT Tryd.prog cf ann36 m (sub [1, 1, 1, 1, 1, 0, 1, 0, 0] (codeOf Tryd.f36)) (fun k (σ : Int × (List Int)) => pickle_write.l0 m list0 k σ.1 σ.2) (fun σ s => match σ with | (x1, buf0) => ∃ ad4 h4, s = ⟨.any :: .any :: .ptr ad0 0 :: Ay3 (eTree.fz list0 :: .int .i64 (list0.length : Int) :: .int .i64 x1 :: Ay5 []), [none, none], h4⟩ ∧ Has h4 ((ad0, .ob [.rs ad4 0 buf0.length 1, .int .i64 (0 : Int), .int .i8 (0 : Int)]) :: (ad4, .row 5 (eByte.l buf0)) :: L)) (fun out e s => (e = .exit 0 ∧ ∃ x1 buf0, (x1, buf0) = out ∧ ∃ x24_ x25_ x26_ x27_ ad4 h4, s = ⟨.any :: .any :: .ptr ad0 0 :: Ay3 (x24_ :: x25_ :: x26_ :: x27_ :: Ay4 []), [none, none], h4⟩ ∧ Has h4 ((ad0, .ob [.rs ad4 0 buf0.length 1, .int .i64 (0 : Int), .int .i8 (0 : Int)]) :: (ad4, .row 5 (eByte.l buf0)) :: L))) := by
  refine lpT (fun _ => rfl) ?_
  rintro k ⟨x1, buf0⟩ s out ⟨ad4, h4, rfl, o4⟩ H
  have H : pickle_write.l0 m list0 (k + 1) x1 buf0 = some out := H
  refine q1 <| qq <| qc H (fun c0 H => ?_) (fun c0 H => ?_)
  · refine qk <| qq <| qb 1 <| qq ?_
    obtain ⟨v0, e7, H⟩ := bsi H
    refine qr [.v 0 (ia_fz (k := .i64) (E := eTree) (l := list0) T22 e7), .v 1 (ld_fzA  (E := eTree) (l := list0) h4 A31 Z31 e7)] <| qq ?_
    obtain ⟨x2, e8, H⟩ := bsi H
    obtain ⟨ad5, h5, e9, o5⟩ := S54_ _ _ _ e8 h4 _ _ _ (o4)  [.ptr ad0 0, .int .u64 (u64.wrap (v0.nodes.length : Int))] (can_cons (rfl) (can_cons (can_pure (pu_int)) (can_nil)))
    refine qr [.a 5 e9] <| qq <| q0 <| qb 2 ?_
    obtain ⟨out0, e13, H⟩ := bsi H
    refine ql (pickle_write.l1_ok L list0 ad0 x1 v0  S55_ ((0 : Int), x2) _ _ ⟨ad5, h5, by kernel_rfl, o5⟩ e13) ?_
    rintro e s ⟨rfl, x5, buf2, rfl, g0, g1, g2, g3, ad8, h8, rfl, o8⟩
    try dsimp only at H
    exact q0 <| ⟨(i64.wrap (x1 + (1 : Int)), buf2), ⟨ad8, h8, by kernel_rfl, o8⟩, H⟩
  · exact qx 0 <| ⟨rfl, x1, buf0, oi H, eTree.fz list0, .int .i64 (list0.length : Int), .int .i64 x1, .bool (decide (x1 < (list0.length : Int))), ad4, h4, by kernel_rfl, o4⟩
theorem pickle_write_body {ann : FuncId → Ann} (ha : ann 36 = ann36) (S42_ : S42 cf m) (S53_ : S53 cf m) (S54_ : S54 cf m) (S55_ : S55 cf m) (S56_ : S56 cf m) (list0 : List VTree) (h : AHeap) (L : Mem)  (o : Has h (L)) {out : (List Int)} (H : pickle_write.f m list0 = some out) :
    ∃ r h', bodyA Tryd.prog ann cf m 36 [eTree.fz list0] h = some (r, h') ∧ Frb h' r (eByte.fz out) := by
  refine body_of_ends2 (fn := Tryd.f36) ha Tryd.func36 (by kernel_rfl) (by kernel_rfl) ?_
  refine ends_fin (Q := fun s => pickle_write.fin L out s) (fun _ _ h => h) ?_
  have H : _ = some out := H
  unfold pickle_write.f at H
  show Enz _ cf ann36 m _ ⟨eTree.fz list0 :: Ay13 [], [none, none], h⟩ _
  refine q1 <| qq ?_
  obtain ⟨ad0, h0, e0, o0⟩ := bx_new (cs := [.nils, .int .i64 (0 : Int), .int .i8 (0 : Int)]) o (by kernel_rfl)
  refine qr [.a 1 e0] <| qq ?_
  obtain ⟨bs0, e1, H⟩ := bsi H
  obtain ⟨ad1, h1, e2, o1⟩ := wb_new S53_ o0 e1
  refine qr [.a 3 e2] <| qq ?_
  obtain ⟨bs1, e3, H⟩ := bsi H
  obtain ⟨ad2, h2, e4, o2⟩ := wb_own1 (bs := bs0) S53_ o1 e3
  refine qr [.a 3 e4] <| qq ?_
  obtain ⟨x0, e5, H⟩ := bsi H
  obtain ⟨ad3, h3, e6, o3⟩ := S54_ _ _ _ e5 h2 _ _ _ (o2)  [.ptr ad0 0, .int .u64 (u64.wrap (list0.length : Int))] (can_cons (rfl) (can_cons (can_pure (pu_int)) (can_nil)))
  refine qr [.a 4 e6] <| qq <| qq <| q0 <| qb 0 ?_
  obtain ⟨out1, e14, H⟩ := bsi H
  refine ql (pickle_write.l0_ok L list0 ad0  S54_ S55_ ((0 : Int), x0) _ _ ⟨ad3, h3, by kernel_rfl, o3⟩ e14) ?_
  rintro e s ⟨rfl, x6, buf3, rfl, g4, g5, g6, g7, ad9, h9, rfl, o9⟩
  try dsimp only at H
  refine qq ?_
  obtain ⟨u0, e15, H⟩ := bsi H
  obtain ⟨h10, e16, o10⟩ := by_own1 (bs := buf3) S56_ o9 e15
  refine qr [.a 3 e16] ?_
  have o11 : Has h10 ((ad9, .sl buf3.length 1 (eByte.l buf3)) :: L) := Has.del o10 0
  refine qq ?_
  obtain ⟨x7, e17, H⟩ := bsi H
  obtain ⟨x8, e18, H⟩ := bsi H
  obtain ⟨ad10, h11, e19, o12⟩ := ap_own (P := Tryd.prog) (E := eByte) (l := buf3) (q := 0) (t2 := 25) (x := eByte.fz x7) (l2 := x7) T25 o11 rfl (cells_fz (E := eByte) (l2 := x7) _) rfl e18
  obtain rfl := oi H
  exact qr [.a 2 (S42_ _ _ e17 h10 _ (frs (fr_cons (fr_rs (E := eByte) (l := buf3) (q := 0) o11 rfl (fun _ => rfl)) (fr_nil)))), .a 3 e19] <| qt <| ⟨.inl rfl, fnb (.rs ad10 0 x8.length 1) h11 (frb (fb_rs (E := eByte) (l := x8) (q := 0) o12 rfl (fun _ => rfl)))⟩
end
end Go.Proofs.YtmekcfdllhphlaaDoor

namespace Go.Proofs.YtmekcfdllhphlaaDoor
open Go Go.R
open Go.IntKind (i64 u64 u8 u32)
def ann31 : Ann := mkA [0, 1, 2, 3, 6] [1, 2] [25, 9, 19, 19] [] []
def tree_Least.f (m : Nat) (t0 : VTree) : Option (VTree × Int) := (tree_Valid.f m t0).bind fun x0 => if (!x0) = true then (some ((VTree.mk ([]) (0 : Int)), (2 : Int))) else ((tree_least.f m t0).bind fun x1 => some (x1, (0 : Int)))
def tree_Least.fin (L : Mem) (r : VTree × Int) (s : St) : Prop := ∃ av, resultA Tryd.prog (s.open ann31) Tryd.f31.results.toList = some av ∧ Frz s.h av (.tup [.agg [eNode.fz r.1.nodes, .int .i64 r.1.root], .int .i64 r.2])
def S31 (cf : CallF) (m : Nat) : Prop := ∀ (t0 : VTree) (r : VTree × Int), tree_Least.f m t0 = some r → ∀ h xs, PureS xs [.agg [eNode.fz t0.nodes, .int .i64 t0.root]] → cf 31 xs h = some (.tup [.agg [eNode.fz r.1.nodes, .int .i64 r.1.root], .int .i64 r.2], h)
section
variable {cf : CallF} {m : Nat}
theorem tree_Least_body {ann : FuncId → Ann} (ha : ann 31 = ann31) (S45_ : S45 cf m) (S47_ : S47 cf m) (t0 : VTree) (h : AHeap) (L : Mem)  (o : Has h (L)) {out : VTree × Int} (H : tree_Least.f m t0 = some out) :
    ∃ r h', bodyA Tryd.prog ann cf m 31 [.agg [eNode.fz t0.nodes, .int .i64 t0.root]] h = some (r, h') ∧ Frz h' r (.tup [.agg [eNode.fz out.1.nodes, .int .i64 out.1.root], .int .i64 out.2]) := by
  refine body_of_ends2 (fn := Tryd.f31) ha Tryd.func31 (by kernel_rfl) (by kernel_rfl) ?_
  refine ends_fin (Q := fun s => tree_Least.fin L out s) (fun _ _ h => h) ?_
  have H : _ = some out := H
  unfold tree_Least.f at H
  show Enz _ cf ann31 m _ ⟨.agg [eNode.fz t0.nodes, .int .i64 t0.root] :: Ay4 [], [none, none], h⟩ _
  refine q1 <| qq <| qq ?_
  obtain ⟨x0, e0, H⟩ := bsi H
  refine qr [.a 1 (S45_ _ _ e0 h _ (frs (fr_cons (fr_agg (fr_cons (fr_fz (E := eNode)) (fr_cons (fr_int) (fr_nil)))) (fr_nil))))] <| qc H (fun c0 H => ?_) (fun c0 H => ?_)
  · obtain rfl := oi H
    exact q1 <| qt <| ⟨.inl rfl, fnz (.tup [.agg [.nils, .int .i64 (0 : Int)], .int .i64 (2 : Int)]) h (frz (fr_tup (fr_cons (fr_agg (fr_cons (fr_nils) (fr_cons (fr_int) (fr_nil)))) (fr_cons (fr_int) (fr_nil)))))⟩
  · refine qk <| qq ?_
    obtain ⟨x1, e1, H⟩ := bsi H
    obtain rfl := oi H
    exact qr [.a 1 (S47_ _ _ e1 h _ (pu_cons (pu_agg (pu_cons (pu_fz (E := eNode)) (pu_cons (pu_int) (pu_nil)))) (pu_nil)))] <| qt <| ⟨.inl rfl, fnz (.tup [.agg [eNode.fz x1.nodes, .int .i64 x1.root], .int .i64 (0 : Int)]) h (frz (fr_tup (fr_cons (fr_agg (fr_cons (fr_fz) (fr_cons (fr_int) (fr_nil)))) (fr_cons (fr_int) (fr_nil)))))⟩
end
end Go.Proofs.YtmekcfdllhphlaaDoor

namespace Go.Proofs.YtmekcfdllhphlaaDoor
open Go Go.R
open Go.IntKind (i64 u64 u8 u32)
def ann35 : Ann := mkA [0, 1, 2] [1] [5, 3] [] []
def pickle_named.f (m : Nat) (n0 : VNode) : Option (Bool) := some (n0.kind == (4 : Int))
def pickle_named.fin (L : Mem) (r : Bool) (s : St) : Prop := ∃ av, resultA Tryd.prog (s.open ann35) Tryd.f35.results.toList = some av ∧ Frb s.h av (.bool r)
def S35 (cf : CallF) (m : Nat) : Prop := ∀ (n0 : VNode) (r : Bool), pickle_named.f m n0 = some r → ∀ h xs, FrzS bigK h xs [.agg [.int .i64 n0.kind, .int .i64 n0.int, .str n0.label, eInt.fz n0.args]] → cf 35 xs h = some (.bool r, h)
section
variable {cf : CallF} {m : Nat}
theorem pickle_named_body {ann : FuncId → Ann} (ha : ann 35 = ann35)  (n0 : VNode) (h : AHeap) (L : Mem)  (o : Has h (L)) {out : Bool} (H : pickle_named.f m n0 = some out) :
    ∃ r h', bodyA Tryd.prog ann cf m 35 [.agg [.int .i64 n0.kind, .int .i64 n0.int, .str n0.label, eInt.fz n0.args]] h = some (r, h') ∧ Frb h' r (.bool out) := by
  refine body_of_ends2 (fn := Tryd.f35) ha Tryd.func35 (by kernel_rfl) (by kernel_rfl) ?_
  refine ends_fin (Q := fun s => pickle_named.fin L out s) (fun _ _ h => h) ?_
  have H : _ = some out := H
  unfold pickle_named.f at H
  show Enz _ cf ann35 m _ ⟨[.agg [.int .i64 n0.kind, .int .i64 n0.int, .str n0.label, eInt.fz n0.args], .any, .any], [none], h⟩ _
  obtain rfl := oi H
  exact q1 <| qq <| q0 <| qt <| ⟨.inl rfl, fnb (.bool (n0.kind == (4 : Int))) h (frb (fb_bool))⟩
end
end Go.Proofs.YtmekcfdllhphlaaDoor

namespace Go.Proofs.YtmekcfdllhphlaaDoor
open Go Go.R
open Go.IntKind (i64 u64 u8 u32)
def ann33 : Ann := mkA [0, 1, 2] [1] [5, 3] [] []
def pickle_Put_1.f (m : Nat) (t0 : VTree) : Option (Bool) := (ContainsFN.f m t0.nodes (fun y0 => pickle_named.f m y0)).bind fun x0 => some x0
def pickle_Put_1.fin (L : Mem) (r : Bool) (s : St) : Prop := ∃ av, resultA Tryd.prog (s.open ann33) Tryd.f33.results.toList = some av ∧ Frb s.h av (.bool r)
def S33 (cf : CallF) (m : Nat) : Prop := ∀ (t0 : VTree) (r : Bool), pickle_Put_1.f m t0 = some r → ∀ h xs, FrzS bigK h xs [.agg [eNode.fz t0.nodes, .int .i64 t0.root]] → cf 33 xs h = some (.bool r, h)
section
variable {cf : CallF} {m : Nat}
theorem pickle_Put_1_body {ann : FuncId → Ann} (ha : ann 33 = ann33) (S34_ : S34 cf m) (S35_ : S35 cf m) (t0 : VTree) (h : AHeap) (L : Mem)  (o : Has h (L)) {out : Bool} (H : pickle_Put_1.f m t0 = some out) :
    ∃ r h', bodyA Tryd.prog ann cf m 33 [.agg [eNode.fz t0.nodes, .int .i64 t0.root]] h = some (r, h') ∧ Frb h' r (.bool out) := by
  refine body_of_ends2 (fn := Tryd.f33) ha Tryd.func33 (by kernel_rfl) (by kernel_rfl) ?_
  refine ends_fin (Q := fun s => pickle_Put_1.fin L out s) (fun _ _ h => h) ?_
  have H : _ = some out := H
  unfold pickle_Put_1.f at H
  show Enz _ cf ann33 m _ ⟨[.agg [eNode.fz t0.nodes, .int .i64 t0.root], .any, .any], [none], h⟩ _
  refine q1 <| qq ?_
  obtain ⟨x0, e0, H⟩ := bsi H
  obtain rfl := oi H
  exact qr [.a 2 (S34_ _ _ _ e0 h (Has.pos o) 35 [] rfl (fun y0 r hr => S35_ y0 r hr h _ (frs (fr_cons (fr_agg (fr_cons (fr_int) (fr_cons (fr_int) (fr_cons (fr_str) (fr_cons (fr_fz (E := eInt)) (fr_nil)))))) (fr_nil)))) _ (can_cons (can_pure (pu_fz (E := eNode))) (can_cons ((rfl : canonArg (.fn 35 []) = _)) (can_nil))))] <| qt <| ⟨.inl rfl, fnb (.bool x0) h (frb (fb_bool))⟩
end
end Go.Proofs.YtmekcfdllhphlaaDoor

namespace Go.Proofs.YtmekcfdllhphlaaDoor
open Go Go.R
open Go.IntKind (i64 u64 u8 u32)
def ann14 : Ann := mkA [0, 2, 3, 4, 6, 7, 8, 9, 12, 13, 14, 15, 16, 25, 32, 37] [6, 7] [65534, 65278, 65529, 65526, 61943, 57847, 61927, 61847, 53719, 65529, 61943, 61943, 49143, 65529, 65407, 32639, 65529, 65529] [(12, [(4, none, 0)])] [(3, [(4, none, 2)])]
def pickle_Put.l0 (m : Nat) (list0 : List VTree) : Nat → (List VTree) → Int → Option (Sum ((List Int) × Int) ((List VTree) × Int))
  | 0, _, _ => none
  | k + 1, least0, x0 => if (decide (x0 < (list0.length : Int))) = true then ((ix list0 x0).bind fun v0 => (tree_Least.f m v0).bind fun x1 => if (!(x1.2 == (0 : Int))) = true then (some (.inl ([], (2 : Int)))) else ((app 32 least0 ([x1.1])).bind fun x2 => pickle_Put.l0 m list0 k x2 (i64.wrap (x0 + (1 : Int))))) else (some (.inr (least0, x0)))
def pickle_Put.f (m : Nat) (list0 : List VTree) : Option ((List Int) × Int) := if (decide ((list0.length : Int) > (8 : Int))) = true then (some ([], (3 : Int))) else ((pickle_Put.l0 m list0 m ([] : List VTree) (0 : Int)).bind fun out0 => match out0 with | .inl r0 => some r0 | .inr (least1, x3) => (ContainsFT.f m least1 (fun y0 => pickle_Put_1.f m y0)).bind fun x4 => if x4 = true then (some ([], (4 : Int))) else ((pickle_write.f m least1).bind fun x5 => if (decide ((x5.length : Int) > (200000 : Int))) = true then (some ([], (3 : Int))) else (some (x5, (0 : Int)))))
def pickle_Put.fin (L : Mem) (r : (List Int) × Int) (s : St) : Prop := ∃ av, resultA Tryd.prog (s.open ann14) Tryd.f14.results.toList = some av ∧ Frz s.h av (.tup [eByte.fz r.1, .int .i64 r.2])
def S14 (cf : CallF) (m : Nat) : Prop := ∀ (list0 : List VTree) (r : (List Int) × Int), pickle_Put.f m list0 = some r → ∀ h xs, PureS xs [eTree.fz list0] → cf 14 xs h = some (.tup [eByte.fz r.1, .int .i64 r.2], h)
section
variable {cf : CallF} {m : Nat}
theorem pickle_Put.l0_ok (L : Mem) (list0 : List VTree)  (S31_ : S31 cf m) : LoopT Tryd.prog cf ann14 m (sub [1, 1, 1, 0, 1, 0, 0] (codeOf Tryd.f14)) (fun k (σ : (List VTree) × Int) => pickle_Put.l0 m list0 k σ.1 σ.2) (fun σ s => match σ with | (least0, x0) => ∃ ad0 h0, s = ⟨Ay3 (.rs ad0 0 least0.length 2 :: Ay5 (eTree.fz list0 :: .int .i64 (list0.length : Int) :: .int .i64 x0 :: Ay4 [])), [none, none], h0⟩ ∧ Has h0 ((ad0, .sl least0.length 2 (eTree.l least0)) :: L)) (fun out e s => (e = .exit 0 ∧ ∃ least0 x0, .inr (least0, x0) = out ∧ ∃ x13_ x14_ x15_ x16_ ad0 h0, s = ⟨Ay3 (.rs ad0 0 least0.length 2 :: Ay5 (x13_ :: x14_ :: x15_ :: x16_ :: Ay3 [])), [none, none], h0⟩ ∧ Has h0 ((ad0, .sl least0.length 2 (eTree.l least0)) :: L)) ∨ (e = .ret ∧ ∃ r, .inl r = out ∧ pickle_Put.fin L r s)) := by
  refine lpT (fun _ => rfl) ?_
  rintro k ⟨least0, x0⟩ s out ⟨ad0, h0, rfl, o1⟩ H
  have H : pickle_Put.l0 m list0 (k + 1) least0 x0 = some out := H
  refine q1 <| qq <| qc H (fun c1 H => ?_) (fun c1 H => ?_)
  · refine qk <| qq <| qb 1 <| qq ?_
    obtain ⟨v0, e0, H⟩ := bsi H
    refine qr [.v 0 (ia_fz (k := .i64) (E := eTree) (l := list0) T22 e0), .v 1 (ld_fzA  (E := eTree) (l := list0) h0 A31 Z31 e0)] <| qq ?_
    obtain ⟨x1, e1, H⟩ := bsi H
    refine qr [.a 1 (S31_ _ _ e1 h0 _ (pu_cons (pu_agg (pu_cons (pu_fz (E := eNode)) (pu_cons (pu_int) (pu_nil)))) (pu_nil)))] <| qq <| qq <| q0 <| qc H (fun c2 H => ?_) (fun c2 H => ?_)
    · refine q1 ?_
      have o2 : Has h0 (L) := Has.del o1 0
      exact qt <| Or.inr (⟨rfl, _, oi H, fnz (.tup [.nils, .int .i64 (2 : Int)]) h0 (frz (fr_tup (fr_cons (fr_nils) (fr_cons (fr_int) (fr_nil)))))⟩)
    · refine qk ?_
      obtain ⟨x2, e2, H⟩ := bsi H
      obtain ⟨ad1, h1, e3, o3⟩ := ap_own (P := Tryd.prog) (E := eTree) (l := least0) (q := 0) (t2 := 22) (x := .fz [eNode.fz x1.1.nodes, .int .i64 x1.1.root] 1 true) (l2 := ([x1.1])) T22 o1 rfl (by kernel_rfl) rfl e2
      exact qr [.a 3 e3] <| q0 <| ⟨(x2, i64.wrap (x0 + (1 : Int))), ⟨ad1, h1, by kernel_rfl, o3⟩, H⟩
  · exact qx 0 <| Or.inl (⟨rfl, least0, x0, oi H, eTree.fz list0, .int .i64 (list0.length : Int), .int .i64 x0, .bool (decide (x0 < (list0.length : Int))), ad0, h0, by kernel_rfl, o1⟩)
theorem pickle_Put_body {ann : FuncId → Ann} (ha : ann 14 = ann14) (S31_ : S31 cf m) (S32_ : S32 cf m) (S33_ : S33 cf m) (S36_ : S36 cf m) (list0 : List VTree) (h : AHeap) (L : Mem)  (o : Has h (L)) {out : (List Int) × Int} (H : pickle_Put.f m list0 = some out) :
    ∃ r h', bodyA Tryd.prog ann cf m 14 [eTree.fz list0] h = some (r, h') ∧ Frz h' r (.tup [eByte.fz out.1, .int .i64 out.2]) := by
  refine body_of_ends2 (fn := Tryd.f14) ha Tryd.func14 (by kernel_rfl) (by kernel_rfl) ?_
  refine ends_fin (Q := fun s => pickle_Put.fin L out s) (fun _ _ h => h) ?_
  have H : _ = some out := H
  unfold pickle_Put.f at H
  show Enz _ cf ann14 m _ ⟨eTree.fz list0 :: Ay15 [], [none, none], h⟩ _
  refine q1 <| qq <| qq <| q0 <| qc H (fun c0 H => ?_) (fun c0 H => ?_)
  · obtain rfl := oi H
    exact q1 <| qt <| ⟨.inl rfl, fnz (.tup [.nils, .int .i64 (3 : Int)]) h (frz (fr_tup (fr_cons (fr_nils) (fr_cons (fr_int) (fr_nil)))))⟩
  · refine qk <| qq <| q0 ?_
    have o0 : Has h (((0), .sl (([] : List VTree).length) 2 (eTree.l ([] : List VTree))) :: L) := Has.nil o 2
    refine qq <| qq <| q0 <| qb 0 ?_
    obtain ⟨out0, e4, H⟩ := bsi H
    refine ql (pickle_Put.l0_ok L list0  S31_ (([] : List VTree), (0 : Int)) _ _ ⟨(0), h, by kernel_rfl, o0⟩ e4) ?_
    rintro e s (⟨rfl, least1, x3, rfl, g0, g1, g2, g3, ad2, h2, rfl, o4⟩ | ⟨rfl, r0, rfl, hf0⟩)
    · try dsimp only at H
      refine qq <| qq ?_
      obtain ⟨h3, e5, o5⟩ := fr_own (E := eTree) (l := least1) (q := 0) o4 rfl
      obtain ⟨x4, e6, H⟩ := bsi H
      refine qrf [.a 0 e5] [.a 1 (S32_ _ _ _ e6 h3 (Has.pos o5) 33 [] rfl (fun y0 r hr => S33_ y0 r hr h3 _ (frs (fr_cons (fr_agg (fr_cons (fr_fz (E := eNode)) (fr_cons (fr_int) (fr_nil)))) (fr_nil)))) _ (can_cons (can_pure (pu_fz (E := eTree))) (can_cons ((rfl : canonArg (.fn 33 []) = _)) (can_nil))))] <| qc H (fun c3 H => ?_) (fun c3 H => ?_)
      · obtain rfl := oi H
        exact q1 <| qt <| ⟨.inl rfl, fnz (.tup [.nils, .int .i64 (4 : Int)]) h3 (frz (fr_tup (fr_cons (fr_nils) (fr_cons (fr_int) (fr_nil)))))⟩
      · refine qk <| qq ?_
        obtain ⟨x5, e7, H⟩ := bsi H
        refine qr [.a 1 (S36_ _ _ e7 h3 _ (frs (fr_cons (fr_fz (E := eTree)) (fr_nil))))] <| qq <| qq <| q0 <| qc H (fun c4 H => ?_) (fun c4 H => ?_)
        · obtain rfl := oi H
          exact q1 <| qt <| ⟨.inl rfl, fnz (.tup [.nils, .int .i64 (3 : Int)]) h3 (frz (fr_tup (fr_cons (fr_nils) (fr_cons (fr_int) (fr_nil)))))⟩
        · obtain rfl := oi H
          exact qk <| qq <| q0 <| qt <| ⟨.inl rfl, fnz (.tup [eByte.fz x5, .int .i64 (0 : Int)]) h3 (frz (fr_tup (fr_cons (fr_fz) (fr_cons (fr_int) (fr_nil)))))⟩
    · try dsimp only at H
      obtain rfl := oi H
      exact ⟨.inl rfl, hf0⟩
end
end Go.Proofs.YtmekcfdllhphlaaDoor

namespace Go.Proofs.YtmekcfdllhphlaaDoor
open Go Go.R
open Go.IntKind (i64 u64 u8 u32)
end Go.Proofs.YtmekcfdllhphlaaDoor

namespace Go.Proofs.YtmekcfdllhphlaaDoor
open Go Go.R
open Go.IntKind (i64 u64 u8 u32)
end Go.Proofs.YtmekcfdllhphlaaDoor

namespace Go.Proofs.YtmekcfdllhphlaaDoor
open Go Go.R
open Go.IntKind (i64 u64 u8 u32)
def encNodes (l : List VNode) : List Int := (l.map encNode).flatten
def encTree (t : VTree) : List Int := encN t.nodes.length ++ encNodes t.nodes
def encTrees (l : List VTree) : List Int := (l.map encTree).flatten
def encList (l : List VTree) : List Int := [76, 1] ++ (encN l.length ++ encTrees l)
structure WTree (t : VTree) : Prop where
  nodes : ∀ n ∈ t.nodes, WNode n
  few : t.nodes.length < 2 ^ 30
  root : t.root = 0
theorem encNodes_cons (n : VNode) (l : List VNode) : encNodes (n :: l) = encNode n ++ encNodes l := by simp [encNodes]
theorem encTrees_cons (t : VTree) (l : List VTree) : encTrees (t :: l) = encTree t ++ encTrees l := by simp [encTrees]
theorem drop_cons {α : Type} {l : List α} {i : Nat} {a : α} {r : List α} (h : l.drop i = a :: r) : i < l.length ∧ ix l (i : Int) = some a ∧ l.drop (i + 1) = r ∧ a ∈ l := by
  have h1 : i < l.length := by
    have := congrArg List.length h
    simp at this
    omega
  have h2 : l[i]? = some a := by
    have := congrArg (·[0]?) h
    simpa using this
  refine ⟨h1, ?_, by rw [← List.tail_drop, h]; rfl, List.mem_of_getElem? h2⟩
  unfold ix
  rw [if_pos (by omega)]
  exact h2
theorem drop_nil {α : Type} {l : List α} {i : Nat} (h : l.drop i = []) : l.length ≤ i := by
  have := congrArg List.length h
  simp at this
  omega
theorem wnodes {m : Nat} (hm : 11 ≤ m) (v : VTree) : ∀ (l : List VNode) (f i : Nat) (w : List Int), l.length < f → v.nodes.drop i = l → (∀ n ∈ l, WNode n) → w ≠ [] → w.length + (encNodes l).length + 2 ^ 41 ≤ 140737488355328 → i + l.length < 2 ^ 40 →
    ∃ x, pickle_write.l1 m v f (i : Int) w = some (x, w ++ encNodes l)
  | l, 0, i, w, hf, _, _, _, _, _ => absurd hf (by omega)
  | [], f + 1, i, w, hf, hd, hW, hw, hl, hi => by
    refine ⟨i, ?_⟩
    have := drop_nil hd
    unfold pickle_write.l1
    rw [if_neg (by simp; omega)]
    simp [encNodes]
  | n :: l, f + 1, i, w, hf, hd, hW, hw, hl, hi => by
    obtain ⟨h1, h2, h3, h4⟩ := drop_cons hd
    have p41 : (2 : Nat) ^ 41 = 2199023255552 := by decide
    have p40 : (2 : Nat) ^ 40 = 1099511627776 := by decide
    have hWn := hW n (by simp)
    have hlab : n.label.size < 2 ^ 40 := by
      rcases hWn.kind with ⟨_, _, h, _⟩ | ⟨_, _, h, _⟩ | ⟨h, _⟩ | ⟨h, _⟩
      · rw [h]; decide
      · rw [h]; decide
      · exact (hWn.label (by omega)).2
      · exact (hWn.label (by omega)).2
    rw [encNodes_cons, List.length_append] at hl
    simp only [List.length_cons] at hf hi
    obtain ⟨x, ih⟩ := wnodes hm v l f (i + 1) (w ++ encNode n) (by omega) h3 (fun k hk => hW k (by simp [hk])) (by simp [hw]) (by simp; omega) (by omega)
    refine ⟨x, ?_⟩
    unfold pickle_write.l1
    rw [if_pos (by simp; omega), h2, Option.bind_some, wnode hm hWn (by omega) hw, Option.bind_some, i64_id (by omega) (by omega), show ((i : Int) + 1) = ((i + 1 : Nat) : Int) by omega, ih, encNodes_cons, List.append_assoc]
theorem wtrees {m : Nat} (hm : 2 ^ 30 ≤ m) (L : List VTree) : ∀ (l : List VTree) (f i : Nat) (w : List Int), l.length < f → L.drop i = l → (∀ t ∈ l, WTree t) → w ≠ [] → w.length + (encTrees l).length + 2 ^ 41 ≤ 140737488355328 → i + l.length < 2 ^ 40 →
    ∃ x, pickle_write.l0 m L f (i : Int) w = some (x, w ++ encTrees l)
  | l, 0, i, w, hf, _, _, _, _, _ => absurd hf (by omega)
  | [], f + 1, i, w, hf, hd, hW, hw, hl, hi => by
    refine ⟨i, ?_⟩
    have := drop_nil hd
    unfold pickle_write.l0
    rw [if_neg (by simp; omega)]
    simp [encTrees]
  | t :: l, f + 1, i, w, hf, hd, hW, hw, hl, hi => by
    obtain ⟨h1, h2, h3, h4⟩ := drop_cons hd
    have p41 : (2 : Nat) ^ 41 = 2199023255552 := by decide
    have p40 : (2 : Nat) ^ 40 = 1099511627776 := by decide
    have p30 : (2 : Nat) ^ 30 = 1073741824 := by decide
    have hWt := hW t (by simp)
    have hfew := hWt.few
    rw [encTrees_cons, List.length_append] at hl
    have he : (encTree t).length = (encN t.nodes.length).length + (encNodes t.nodes).length := by simp [encTree]
    simp only [List.length_cons] at hf hi
    obtain ⟨x, ih⟩ := wtrees hm L l f (i + 1) (w ++ encTree t) (by omega) h3 (fun k hk => hW k (by simp [hk])) (by simp [hw]) (by simp; omega) (by omega)
    obtain ⟨y, hy⟩ := wnodes (m := m) (by omega) t t.nodes m 0 (w ++ encN t.nodes.length) (by omega) rfl hWt.nodes (by simp [hw]) (by simp; omega) (by omega)
    have hy : pickle_write.l1 m t m (0 : Int) (w ++ encN t.nodes.length) = _ := hy
    refine ⟨x, ?_⟩
    unfold pickle_write.l0
    rw [if_pos (by simp; omega), h2, Option.bind_some, u64_id (by omega) (by omega), wnum (by omega) (by omega) hw (by omega), Option.bind_some, hy, Option.bind_some]
    dsimp only
    rw [i64_id (by omega) (by omega), show ((i : Int) + 1) = ((i + 1 : Nat) : Int) by omega]
    rw [show w ++ encN t.nodes.length ++ encNodes t.nodes = w ++ encTree t by simp [encTree]]
    rw [ih, encTrees_cons, List.append_assoc]
theorem wlist {m : Nat} (hm : 2 ^ 30 ≤ m) {L : List VTree} (hW : ∀ t ∈ L, WTree t) (hl : (encTrees L).length + 2 ^ 42 ≤ 140737488355328) (hL : L.length < 2 ^ 30) : pickle_write.f m L = (pickle_check.f m (encList L)).bind fun c => app 1 (encList L) c := by
  have p42 : (2 : Nat) ^ 42 = 4398046511104 := by decide
  have p41 : (2 : Nat) ^ 41 = 2199023255552 := by decide
  have p40 : (2 : Nat) ^ 40 = 1099511627776 := by decide
  have p30 : (2 : Nat) ^ 30 = 1073741824 := by decide
  unfold pickle_write.f
  have h1 : wB ([] : List Int) [(76 : Int)] = some [76] := by unfold wB; rw [if_pos (by simp)]; rfl
  have e0 : (encN L.length).length ≤ 10 := encN_len64 (by omega)
  obtain ⟨x, hx⟩ := wtrees (m := m) hm L L m 0 ([76] ++ [1] ++ encN L.length) (by omega) rfl hW (by simp) (by simp; omega) (by omega)
  have hx : pickle_write.l0 m L m (0 : Int) ([76] ++ [1] ++ encN L.length) = _ := hx
  rw [h1, Option.bind_some, wB1_some (by simp) (by simp) (by simp), Option.bind_some, u64_id (by omega) (by omega), wnum (by omega) (by omega) (by simp) (by simp), Option.bind_some, hx, Option.bind_some]
  dsimp only
  rw [show [(76 : Int)] ++ [1] ++ encN L.length ++ encTrees L = encList L by simp [encList]]
  have h2 : bufLen (encList L) = some () := by
    unfold bufLen
    rw [if_pos ⟨by simp [encList], by simp [encList]; omega⟩]
  rw [h2, Option.bind_some]
  congr 1
  funext c
  cases app 1 (encList L) c <;> rfl
end Go.Proofs.YtmekcfdllhphlaaDoor

namespace Go.Proofs.YtmekcfdllhphlaaDoor
open Go Go.R
open Go.IntKind (i64 u64 u8 u32)
end Go.Proofs.YtmekcfdllhphlaaDoor

namespace Go.Proofs.YtmekcfdllhphlaaDoor
open Go Go.R
open Go.IntKind (i64 u64 u8 u32)
end Go.Proofs.YtmekcfdllhphlaaDoor

namespace Go.Proofs.YtmekcfdllhphlaaDoor
open Go Go.R
open Go.IntKind (i64 u64 u8 u32)
end Go.Proofs.YtmekcfdllhphlaaDoor

namespace Go.Proofs.YtmekcfdllhphlaaDoor
open Go Go.R
open Go.IntKind (i64 u64 u8 u32)
end Go.Proofs.YtmekcfdllhphlaaDoor

namespace Go.Proofs.YtmekcfdllhphlaaDoor
open Go Go.R
open Go.IntKind (i64 u64 u8 u32)
end Go.Proofs.YtmekcfdllhphlaaDoor

namespace Go.Proofs.YtmekcfdllhphlaaDoor
open Go Go.R
open Go.IntKind (i64 u64 u8 u32)
end Go.Proofs.YtmekcfdllhphlaaDoor

namespace Go.Proofs.YtmekcfdllhphlaaDoor
open Go Go.R
open Go.IntKind (i64 u64 u8 u32)
end Go.Proofs.YtmekcfdllhphlaaDoor

namespace Go.Proofs.YtmekcfdllhphlaaDoor
open Go Go.R
open Go.IntKind (i64 u64 u8 u32)
end Go.Proofs.YtmekcfdllhphlaaDoor

namespace Go.Proofs.YtmekcfdllhphlaaDoor
open Go Go.R
open Go.IntKind (i64 u64 u8 u32)
end Go.Proofs.YtmekcfdllhphlaaDoor

namespace Go.Proofs.YtmekcfdllhphlaaDoor
open Go Go.R
open Go.IntKind (i64 u64 u8 u32)
def ann16 : Ann := mkA [0, 1, 2, 3] [1, 2] [9, 3] [] []
def pickle_Least.f (m : Nat) (t0 : VTree) : Option (VTree × Int) := (tree_Least.f m t0).bind fun x0 => some (x0.1, x0.2)
def pickle_Least.fin (L : Mem) (r : VTree × Int) (s : St) : Prop := ∃ av, resultA Tryd.prog (s.open ann16) Tryd.f16.results.toList = some av ∧ Frz s.h av (.tup [.agg [eNode.fz r.1.nodes, .int .i64 r.1.root], .int .i64 r.2])
def S16 (cf : CallF) (m : Nat) : Prop := ∀ (t0 : VTree) (r : VTree × Int), pickle_Least.f m t0 = some r → ∀ h xs, PureS xs [.agg [eNode.fz t0.nodes, .int .i64 t0.root]] → cf 16 xs h = some (.tup [.agg [eNode.fz r.1.nodes, .int .i64 r.1.root], .int .i64 r.2], h)
section
variable {cf : CallF} {m : Nat}
theorem pickle_Least_body {ann : FuncId → Ann} (ha : ann 16 = ann16) (S31_ : S31 cf m) (t0 : VTree) (h : AHeap) (L : Mem)  (o : Has h (L)) {out : VTree × Int} (H : pickle_Least.f m t0 = some out) :
    ∃ r h', bodyA Tryd.prog ann cf m 16 [.agg [eNode.fz t0.nodes, .int .i64 t0.root]] h = some (r, h') ∧ Frz h' r (.tup [.agg [eNode.fz out.1.nodes, .int .i64 out.1.root], .int .i64 out.2]) := by
  refine body_of_ends2 (fn := Tryd.f16) ha Tryd.func16 (by kernel_rfl) (by kernel_rfl) ?_
  refine ends_fin (Q := fun s => pickle_Least.fin L out s) (fun _ _ h => h) ?_
  have H : _ = some out := H
  unfold pickle_Least.f at H
  show Enz _ cf ann16 m _ ⟨.agg [eNode.fz t0.nodes, .int .i64 t0.root] :: Ay3 [], [none, none], h⟩ _
  refine q1 <| qq ?_
  obtain ⟨x0, e0, H⟩ := bsi H
  obtain rfl := oi H
  exact qr [.a 1 (S31_ _ _ e0 h _ (pu_cons (pu_agg (pu_cons (pu_fz (E := eNode)) (pu_cons (pu_int) (pu_nil)))) (pu_nil)))] <| qt <| ⟨.inl rfl, fnz (.tup [.agg [eNode.fz x0.1.nodes, .int .i64 x0.1.root], .int .i64 x0.2]) h (frz (fr_tup (fr_cons (fr_agg (fr_cons (fr_fz) (fr_cons (fr_int) (fr_nil)))) (fr_cons (fr_int) (fr_nil)))))⟩
end
end Go.Proofs.YtmekcfdllhphlaaDoor

namespace Go.Proofs.YtmekcfdllhphlaaDoor
open Go Go.R
open Go.IntKind (i64 u64 u8 u32)
def ann18 : Ann := mkA [0, 1, 2, 3, 4, 5, 6, 7, 8, 22, 27, 67, 72, 85] [2, 3, 6, 7] [16371, 15859, 16367, 16339, 15315, 16339, 16147, 14099, 16367, 15891, 11795, 15891, 7699, 16367, 16367] [] []
def ref20_Graph.l1 (m : Nat) (v0 : VNode) (v1 : VNode) : Nat → Int → Option (Sum Bool (Int))
  | 0, _ => none
  | k + 1, k0 => if (decide (k0 < (v0.args.length : Int))) = true then ((ix v0.args k0).bind fun v2 => (ix v1.args k0).bind fun v3 => if (!(v2 == v3)) = true then (some (.inl false)) else (ref20_Graph.l1 m v0 v1 k (i64.wrap (k0 + (1 : Int))))) else (some (.inr k0))
def ref20_Graph.l0 (m : Nat) (a0 : VTree) (b0 : VTree) : Nat → Int → Option (Sum Bool (Int))
  | 0, _ => none
  | k + 1, i0 => if (decide (i0 < (a0.nodes.length : Int))) = true then ((ix a0.nodes i0).bind fun v0 => (ix b0.nodes i0).bind fun v1 => if (!(v0.kind == v1.kind)) = true then (some (.inl false)) else (if (!(v0.int == v1.int)) = true then (some (.inl false)) else (if (!(v0.label.data.toList == v1.label.data.toList)) = true then (some (.inl false)) else (if (!((v0.args.length : Int) == (v1.args.length : Int))) = true then (some (.inl false)) else ((ref20_Graph.l1 m v0 v1 m (0 : Int)).bind fun out0 => match out0 with | .inl r0 => some (.inl r0) | .inr k1 => ref20_Graph.l0 m a0 b0 k (i64.wrap (i0 + (1 : Int)))))))) else (some (.inr i0))
def ref20_Graph.f (m : Nat) (a0 : VTree) (b0 : VTree) : Option (Bool) := if (!((a0.nodes.length : Int) == (b0.nodes.length : Int))) = true then (some false) else (if (!(a0.root == b0.root)) = true then (some false) else ((ref20_Graph.l0 m a0 b0 m (0 : Int)).bind fun out1 => match out1 with | .inl r1 => some r1 | .inr i1 => some true))
def ref20_Graph.fin (L : Mem) (r : Bool) (s : St) : Prop := ∃ av, resultA Tryd.prog (s.open ann18) Tryd.f18.results.toList = some av ∧ Frb s.h av (.bool r)
def S18 (cf : CallF) (m : Nat) : Prop := ∀ (a0 : VTree) (b0 : VTree) (r : Bool), ref20_Graph.f m a0 b0 = some r → ∀ h xs, FrzS bigK h xs [.agg [eNode.fz a0.nodes, .int .i64 a0.root], .agg [eNode.fz b0.nodes, .int .i64 b0.root]] → cf 18 xs h = some (.bool r, h)
section
variable {cf : CallF} {m : Nat}
theorem ref20_Graph.l1_ok (L : Mem) (a0 : VTree) (b0 : VTree) (i0 : Int) (v0 : VNode) (v1 : VNode)   : LoopT Tryd.prog cf ann18 m (sub [1, 1, 0, 1, 0, 0, 1, 0, 0, 1, 1, 1, 0, 0] (codeOf Tryd.f18)) (fun k (σ : Int) => ref20_Graph.l1 m v0 v1 k σ) (fun σ s => match σ with | k0 => ∃ h1, s = ⟨.any :: .any :: .lp 2 0 :: .lp 3 0 :: .any :: .int .i64 i0 :: .lp 6 0 :: .lp 7 0 :: .int .i64 k0 :: Ay5 [], [some [eNode.fz a0.nodes, .int .i64 a0.root], some [eNode.fz b0.nodes, .int .i64 b0.root], some [.int .i64 v0.kind, .int .i64 v0.int, .str v0.label, eInt.fz v0.args], some [.int .i64 v1.kind, .int .i64 v1.int, .str v1.label, eInt.fz v1.args]], h1⟩ ∧ Has h1 (L)) (fun out e s => (e = .exit 2 ∧ ∃ k0, .inr k0 = out ∧ ∃ x6_ x7_ x8_ x72_ b6_ b7_ h1, s = ⟨.any :: .any :: .lp 2 0 :: .lp 3 0 :: .any :: .int .i64 i0 :: x6_ :: x7_ :: x8_ :: Ay3 [x72_, .any], [some [eNode.fz a0.nodes, .int .i64 a0.root], some [eNode.fz b0.nodes, .int .i64 b0.root], b6_, b7_], h1⟩ ∧ Has h1 (L)) ∨ (e = .ret ∧ ∃ r, .inl r = out ∧ ref20_Graph.fin L r s)) := by
  refine lpT (fun _ => rfl) ?_
  rintro k k0 s out ⟨h1, rfl, o1⟩ H
  have H : ref20_Graph.l1 m v0 v1 (k + 1) k0 = some out := H
  refine qq <| qq <| q0 <| qc H (fun c11 H => ?_) (fun c11 H => ?_)
  · refine qk <| qq <| qb 3 <| qq ?_
    obtain ⟨v2, e2, H⟩ := bsi H
    obtain ⟨v3, e3, H⟩ := bsi H
    refine qr [.v 3 (ia_fz (k := .i64) (E := eInt) (l := v0.args) T42 e2), .v 4 (ld_fz0  (E := eInt) (l := v0.args) h1 A3 e2 rfl), .v 8 (ia_fz (k := .i64) (E := eInt) (l := v1.args) T42 e3), .v 9 (ld_fz0  (E := eInt) (l := v1.args) h1 A3 e3 rfl)] <| qc H (fun c12 H => ?_) (fun c12 H => ?_)
    · exact q1 <| qt <| Or.inr (⟨rfl, _, oi H, fnb (.bool false) h1 (frb (fb_bool))⟩)
    · exact qk <| q0 <| ⟨i64.wrap (k0 + (1 : Int)), ⟨h1, by kernel_rfl, o1⟩, H⟩
  · exact qx 2 <| Or.inl (⟨rfl, k0, oi H, .lp 6 0, .lp 7 0, .int .i64 k0, .bool (decide (k0 < (v0.args.length : Int))), some [.int .i64 v0.kind, .int .i64 v0.int, .str v0.label, eInt.fz v0.args], some [.int .i64 v1.kind, .int .i64 v1.int, .str v1.label, eInt.fz v1.args], h1, by kernel_rfl, o1⟩)
theorem ref20_Graph.l0_ok (L : Mem) (a0 : VTree) (b0 : VTree)   : LoopT Tryd.prog cf ann18 m (sub [1, 1, 0, 1, 0, 0] (codeOf Tryd.f18)) (fun k (σ : Int) => ref20_Graph.l0 m a0 b0 k σ) (fun σ s => match σ with | i0 => ∃ h0, s = ⟨.any :: .any :: .lp 2 0 :: .lp 3 0 :: .any :: .int .i64 i0 :: Ay8 [], [some [eNode.fz a0.nodes, .int .i64 a0.root], some [eNode.fz b0.nodes, .int .i64 b0.root], none, none], h0⟩ ∧ Has h0 (L)) (fun out e s => (e = .exit 0 ∧ ∃ i0, .inr i0 = out ∧ ∃ x2_ x3_ x5_ x27_ b2_ b3_ h0, s = ⟨.any :: .any :: x2_ :: x3_ :: .any :: x5_ :: Ay4 (x27_ :: Ay3 []), [b2_, b3_, none, none], h0⟩ ∧ Has h0 (L)) ∨ (e = .ret ∧ ∃ r, .inl r = out ∧ ref20_Graph.fin L r s)) := by
  refine lpT (fun _ => rfl) ?_
  rintro k i0 s out ⟨h0, rfl, o0⟩ H
  have H : ref20_Graph.l0 m a0 b0 (k + 1) i0 = some out := H
  refine qq <| qq <| q0 <| qc H (fun c3 H => ?_) (fun c3 H => ?_)
  · refine qk <| qq <| qb 1 <| qq ?_
    obtain ⟨v0, e0, H⟩ := bsi H
    obtain ⟨v1, e1, H⟩ := bsi H
    refine qr [.v 3 (ia_fz (k := .i64) (E := eNode) (l := a0.nodes) T29 e0), .v 4 (ld_fzA  (E := eNode) (l := a0.nodes) h0 A48 Z48 e0), .v 8 (ia_fz (k := .i64) (E := eNode) (l := b0.nodes) T29 e1), .v 9 (ld_fzA  (E := eNode) (l := b0.nodes) h0 A48 Z48 e1)] <| qq <| qq ?_
    rcases ift H with ⟨c4, H⟩ | ⟨c4, H⟩
    · exact qr [.b 5 c4] <| qcT <| qq <| q0 <| qt <| Or.inr (⟨rfl, _, oi H, fnb (.bool false) h0 (frb (fb_bool))⟩)
    · rcases ift H with ⟨c6, H⟩ | ⟨c6, H⟩
      · exact qr [.b 5 c4, .b 12 c6] <| qcT <| qq <| q0 <| qt <| Or.inr (⟨rfl, _, oi H, fnb (.bool false) h0 (frb (fb_bool))⟩)
      · rcases ift H with ⟨c8, H⟩ | ⟨c8, H⟩
        · exact qr [.b 5 c4, .b 12 c6, .b 19 c8] <| qcT <| qq <| q0 <| qt <| Or.inr (⟨rfl, _, oi H, fnb (.bool false) h0 (frb (fb_bool))⟩)
        · refine qr [.b 5 c4, .b 12 c6, .b 19 c8] <| qc H (fun c10 H => ?_) (fun c10 H => ?_)
          · exact q1 <| qt <| Or.inr (⟨rfl, _, oi H, fnb (.bool false) h0 (frb (fb_bool))⟩)
          · refine qk <| qq <| q0 <| qb 2 ?_
            obtain ⟨out0, e4, H⟩ := bsi H
            refine ql (ref20_Graph.l1_ok L a0 b0 i0 v0 v1   (0 : Int) _ _ ⟨h0, by kernel_rfl, o0⟩ e4) ?_
            rintro e s (⟨rfl, k1, rfl, g0, g1, g2, g3, g4, g5, h2, rfl, o2⟩ | ⟨rfl, r0, rfl, hf0⟩)
            · try dsimp only at H
              exact q0 <| ⟨i64.wrap (i0 + (1 : Int)), ⟨h2, by kernel_rfl, o2⟩, H⟩
            · try dsimp only at H
              exact Or.inr (⟨rfl, _, oi H, hf0⟩)
  · exact qx 0 <| Or.inl (⟨rfl, i0, oi H, .lp 2 0, .lp 3 0, .int .i64 i0, .bool (decide (i0 < (a0.nodes.length : Int))), some [eNode.fz a0.nodes, .int .i64 a0.root], some [eNode.fz b0.nodes, .int .i64 b0.root], h0, by kernel_rfl, o0⟩)
theorem ref20_Graph_body {ann : FuncId → Ann} (ha : ann 18 = ann18)  (a0 : VTree) (b0 : VTree) (h : AHeap) (L : Mem)  (o : Has h (L)) {out : Bool} (H : ref20_Graph.f m a0 b0 = some out) :
    ∃ r h', bodyA Tryd.prog ann cf m 18 [.agg [eNode.fz a0.nodes, .int .i64 a0.root], .agg [eNode.fz b0.nodes, .int .i64 b0.root]] h = some (r, h') ∧ Frb h' r (.bool out) := by
  refine body_of_ends2 (fn := Tryd.f18) ha Tryd.func18 (by kernel_rfl) (by kernel_rfl) ?_
  refine ends_fin (Q := fun s => ref20_Graph.fin L out s) (fun _ _ h => h) ?_
  have H : _ = some out := H
  unfold ref20_Graph.f at H
  show Enz _ cf ann18 m _ ⟨.agg [eNode.fz a0.nodes, .int .i64 a0.root] :: .agg [eNode.fz b0.nodes, .int .i64 b0.root] :: Ay12 [], [none, none, none, none], h⟩ _
  refine q1 <| qq <| qq ?_
  rcases ift H with ⟨c0, H⟩ | ⟨c0, H⟩
  · obtain rfl := oi H
    exact qr [.b 7 c0] <| qcT <| qq <| q0 <| qt <| ⟨.inl rfl, fnb (.bool false) h (frb (fb_bool))⟩
  · refine qr [.b 7 c0] <| qc H (fun c2 H => ?_) (fun c2 H => ?_)
    · obtain rfl := oi H
      exact q1 <| qt <| ⟨.inl rfl, fnb (.bool false) h (frb (fb_bool))⟩
    · refine qk <| qq <| qq <| q0 <| qb 0 ?_
      obtain ⟨out1, e5, H⟩ := bsi H
      refine ql (ref20_Graph.l0_ok L a0 b0   (0 : Int) _ _ ⟨h, by kernel_rfl, o⟩ e5) ?_
      rintro e s (⟨rfl, i1, rfl, g6, g7, g8, g9, g10, g11, h3, rfl, o3⟩ | ⟨rfl, r1, rfl, hf1⟩)
      · try dsimp only at H
        obtain rfl := oi H
        exact q1 <| qt <| ⟨.inl rfl, fnb (.bool true) h3 (frb (fb_bool))⟩
      · try dsimp only at H
        obtain rfl := oi H
        exact ⟨.inl rfl, hf1⟩
end
end Go.Proofs.YtmekcfdllhphlaaDoor

namespace Go.Proofs.YtmekcfdllhphlaaDoor
open Go Go.R
open Go.IntKind (i64 u64 u8 u32)
end Go.Proofs.YtmekcfdllhphlaaDoor

namespace Go.Proofs.YtmekcfdllhphlaaDoor
open Go Go.R
open Go.IntKind (i64 u64 u8 u32)
theorem graph_l1 {m : Nat} (v : VNode) (hv : v.args.length < 2 ^ 40) : ∀ (f i : Nat), v.args.length - i < f → i ≤ v.args.length → ∃ x, ref20_Graph.l1 m v v f (i : Int) = some (.inr x)
  | 0, i, hf, _ => absurd hf (by omega)
  | f + 1, i, hf, hi => by
    have p40 : (2 : Nat) ^ 40 = 1099511627776 := by decide
    unfold ref20_Graph.l1
    by_cases h : i < v.args.length
    · obtain ⟨x, ih⟩ := graph_l1 (m := m) v hv f (i + 1) (by omega) (by omega)
      refine ⟨x, ?_⟩
      have hx : ix v.args (i : Int) = some v.args[i] := by unfold ix; rw [if_pos (by omega)]; simp [h]
      rw [if_pos (by simp; omega), hx, Option.bind_some, Option.bind_some, if_neg (by simp), i64_id (by omega) (by omega), show ((i : Int) + 1) = ((i + 1 : Nat) : Int) by omega, ih]
    · exact ⟨i, by rw [if_neg (by simp; omega)]⟩
theorem graph_l0 {m : Nat} (t : VTree) (hm : 2 ^ 30 ≤ m) (ht : t.nodes.length < 2 ^ 30) (ha : ∀ n ∈ t.nodes, n.args.length ≤ 8) : ∀ (f i : Nat), t.nodes.length - i < f → i ≤ t.nodes.length → ∃ x, ref20_Graph.l0 m t t f (i : Int) = some (.inr x)
  | 0, i, hf, _ => absurd hf (by omega)
  | f + 1, i, hf, hi => by
    have p30 : (2 : Nat) ^ 30 = 1073741824 := by decide
    unfold ref20_Graph.l0
    by_cases h : i < t.nodes.length
    · obtain ⟨x, ih⟩ := graph_l0 (m := m) t hm ht ha f (i + 1) (by omega) (by omega)
      refine ⟨x, ?_⟩
      have hx : ix t.nodes (i : Int) = some t.nodes[i] := by unfold ix; rw [if_pos (by omega)]; simp [h]
      have h8 := ha t.nodes[i] (List.getElem_mem h)
      obtain ⟨y, hy⟩ := graph_l1 (m := m) t.nodes[i] (by omega) m 0 (by omega) (by omega)
      have hy : ref20_Graph.l1 m t.nodes[i] t.nodes[i] m (0 : Int) = _ := hy
      rw [if_pos (by simp; omega), hx, Option.bind_some, Option.bind_some, if_neg (by simp), if_neg (by simp), if_neg (by simp), if_neg (by simp), hy, Option.bind_some]
      dsimp only
      rw [i64_id (by omega) (by omega), show ((i : Int) + 1) = ((i + 1 : Nat) : Int) by omega, ih]
    · exact ⟨i, by rw [if_neg (by simp; omega)]⟩
end Go.Proofs.YtmekcfdllhphlaaDoor

namespace Go.Proofs.YtmekcfdllhphlaaDoor
open Go Go.R
open Go.IntKind (i64 u64 u8 u32)
def Ok0 (t : VTree) : Prop := ∀ n ∈ t.nodes, n.kind = 0 → n.int < 2 ^ 63
theorem ba_nil {s : ByteArray} (h : (s.data.toList == []) = true) : s = ByteArray.mk #[] := by
  have h := beq_iff_eq.1 h
  cases s with
  | mk d =>
    cases d with
    | mk l => simp only at h; subst h; rfl
theorem isE {l : List Int} (h : l.isEmpty = true) : l = [] := by cases l with | nil => rfl | cons => cases h
structure Top (n : VNode) : Prop where
  kind : n.kind = 0 ∧ 0 ≤ n.int ∧ n.label = ByteArray.mk #[] ∧ n.args = [] ∨ n.kind = 1 ∧ (-1099511627776 ≤ n.int ∧ n.int ≤ 1099511627776) ∧ n.label = ByteArray.mk #[] ∧ n.args = [] ∨ n.kind = 2 ∧ n.int = 0 ∧ n.args = [] ∨ n.kind = 3 ∧ n.int = 0 ∨ n.kind = 4 ∧ n.args = []
  label : n.kind = 2 ∨ n.kind = 3 → 1 ≤ n.label.size ∧ n.label.size ≤ 16
  args : n.args.length ≤ 8
theorem nodeB_top {n : VNode} {size : Int} (h : nodeB n size = true) : Top n ∧ ∀ a ∈ n.args, 0 ≤ a ∧ a < size := by
  unfold nodeB at h
  split at h
  · rename_i k
    simp only [Bool.and_eq_true, decide_eq_true_eq] at h
    have ha := isE h.2
    exact ⟨⟨.inl ⟨k, h.1.1, ba_nil h.1.2, ha⟩, fun z => by omega, by rw [ha]; decide⟩, fun a h => by rw [ha] at h; cases h⟩
  split at h
  · rename_i k
    simp only [Bool.and_eq_true, decide_eq_true_eq] at h
    have ha := isE h.2
    exact ⟨⟨.inr (.inl ⟨k, h.1.1, ba_nil h.1.2, ha⟩), fun z => by omega, by rw [ha]; decide⟩, fun a h => by rw [ha] at h; cases h⟩
  split at h
  · rename_i k
    simp only [Bool.and_eq_true, beq_iff_eq] at h
    have ha := isE h.2
    exact ⟨⟨.inr (.inr (.inl ⟨k, h.1.1, ha⟩)), fun z => atom_size h.1.2, by rw [ha]; decide⟩, fun a h => by rw [ha] at h; cases h⟩
  split at h
  · rename_i k
    simp only [Bool.and_eq_true, beq_iff_eq, decide_eq_true_eq, List.all_eq_true] at h
    exact ⟨⟨.inr (.inr (.inr (.inl ⟨k, h.1.1.1.1⟩))), fun z => atom_size h.1.1.1.2, h.1.2⟩, h.2⟩
  split at h
  · rename_i k
    simp only [Bool.and_eq_true, decide_eq_true_eq] at h
    have ha := isE h.2
    exact ⟨⟨.inr (.inr (.inr (.inr ⟨k, ha⟩))), fun z => by omega, by rw [ha]; decide⟩, fun a h => by rw [ha] at h; cases h⟩
  · cases h
theorem validB_ok {t : VTree} (h : validB t = true) : Okl t.nodes ∧ 1 ≤ t.nodes.length ∧ 0 ≤ t.root ∧ t.root < t.nodes.length ∧ ∀ n ∈ t.nodes, Top n := by
  unfold validB at h
  simp only [Bool.and_eq_true, decide_eq_true_eq, List.all_eq_true] at h
  obtain ⟨⟨⟨⟨h1, h2⟩, h3⟩, h4⟩, h5⟩ := h
  exact ⟨⟨h2, fun n hn => ⟨(nodeB_top (h5 n hn)).1.args, (nodeB_top (h5 n hn)).2⟩⟩, h1, h3, h4, fun n hn => (nodeB_top (h5 n hn)).1⟩
structure LTree (s : VTree) : Prop where
  root : s.root = 0
  few : s.nodes.length ≤ 8000
  nodes : ∀ x ∈ s.nodes, Top x ∧ (x.kind = 0 → x.int < 2 ^ 63) ∧ ∀ a ∈ x.args, 0 ≤ a ∧ a < 8000
theorem Top.map {n : VNode} (T : Top n) (f : Int → Int) : Top ⟨n.kind, n.int, n.label, n.args.map f⟩ := by
  refine ⟨?_, T.label, by simpa using T.args⟩
  rcases T.kind with ⟨a, b, c, d⟩ | ⟨a, b, c, d⟩ | ⟨a, b, d⟩ | ⟨a, b⟩ | ⟨a, d⟩
  · exact .inl ⟨a, b, c, by simp [d]⟩
  · exact .inr (.inl ⟨a, b, c, by simp [d]⟩)
  · exact .inr (.inr (.inl ⟨a, b, by simp [d]⟩))
  · exact .inr (.inr (.inr (.inl ⟨a, b⟩)))
  · exact .inr (.inr (.inr (.inr ⟨a, by simp [d]⟩)))
theorem least_tot {m : Nat} (hm : 2 ^ 41 ≤ m) {t : VTree} (h : validB t = true) (h0 : Ok0 t) : ∃ s, tree_least.f m t = some s ∧ LTree s := by
  obtain ⟨ok, h1, r0, r1, hT⟩ := validB_ok h
  obtain ⟨cls, many, ks, ns, e, P, _, K, hks, Q, hr⟩ := least_spec hm ok h1 r0 r1 (fun _ => True) (fun _ _ _ _ _ => trivial) (fun _ _ _ _ _ _ _ _ _ => trivial)
  have hfew := Q.vs.few
  have h8000 := ok.1
  have hlen := Q.len
  refine ⟨_, e, rfl, by dsimp only; omega, fun x hx => ?_⟩
  obtain ⟨k, hk, e2⟩ := List.getElem_of_mem hx
  dsimp only at hk e2
  have := Q.new k (by simp) (by omega)
  rw [List.getElem?_eq_getElem hk, e2] at this
  have := Option.some.inj this
  subst this
  have hmem := Q.vs.rng _ (gt_mem (l := dfs cls t.nodes m t.root []) (k := k) (by omega))
  have hnd := nd_mem hmem.1 hmem.2
  have h0' := h0 _ hnd
  refine ⟨(hT _ hnd).map _, fun hk => h0' hk, fun a ha => ?_⟩
  obtain ⟨b, hb, rfl⟩ := List.mem_map.1 ha
  have hin := Q.arg k (by simp) (by omega) b hb
  have := List.idxOf_lt_length_of_mem hin
  rw [List.length_map] at this
  unfold idx
  omega
theorem LTree.w {s : VTree} (L : LTree s) (h : s.nodes.any (fun n => n.kind == 4) = false) : WTree s := by
  refine ⟨fun n hn => ?_, ?_, L.root⟩
  · obtain ⟨T, i0, ha⟩ := L.nodes n hn
    have h4 : n.kind ≠ 4 := fun e => by
      have := List.any_eq_false.1 h n hn
      rw [e] at this; exact absurd this (by decide)
    have p62 : (2 : Int) ^ 62 = 4611686018427387904 := by decide
    have p63 : (2 : Int) ^ 63 = 9223372036854775808 := by decide
    have p40 : (2 : Nat) ^ 40 = 1099511627776 := by decide
    refine ⟨?_, fun hk => ?_, T.args, fun a hx => by have := ha a hx; omega⟩
    · rcases T.kind with ⟨a, b, c, d⟩ | ⟨a, b, c, d⟩ | ⟨a, b, d⟩ | ⟨a, b⟩ | ⟨a, d⟩
      · exact .inl ⟨a, ⟨b, i0 a⟩, c, d⟩
      · exact .inr (.inl ⟨a, by omega, c, d⟩)
      · exact .inr (.inr (.inl ⟨a, b, d⟩))
      · exact .inr (.inr (.inr ⟨a, b⟩))
      · exact absurd a h4
    · have := T.label (by rcases T.kind with h | h | h | h | h <;> (have := h.1; omega))
      omega
  · have := L.few
    have p30 : (2 : Nat) ^ 30 = 1073741824 := by decide
    omega
theorem encNode_len {n : VNode} (W : WNode n) (T : Top n) : (encNode n).length ≤ 200 := by
  have i64 : (2 : Int) ^ 63 = 9223372036854775808 := by decide
  have i62 : (2 : Int) ^ 62 = 4611686018427387904 := by decide
  have p64 : (2 : Nat) ^ 64 = 18446744073709551616 := by decide
  have p63 : (2 : Nat) ^ 63 = 9223372036854775808 := by decide
  have hs : (n.kind = 2 ∨ n.kind = 3) → (encS n.label).length ≤ 30 := fun h => by
    obtain ⟨h1, h2⟩ := T.label h
    unfold encS
    have := encN_len64 (n := n.label.size) (by omega)
    rw [List.length_append, strBytes_len]; omega
  have hargs : ∀ l : List Int, (∀ a ∈ l, 0 ≤ a ∧ a < 2 ^ 63) → ((l.map fun a => encN a.toNat).flatten).length ≤ 10 * l.length := by
    intro l
    induction l with
    | nil => intro _; simp
    | cons a l ih =>
      intro h
      have h1 := h a (by simp)
      have := ih fun b hb => h b (by simp [hb])
      have h2 := encN_len64 (n := a.toNat) (by omega)
      simp only [List.map_cons, List.flatten_cons, List.length_append, List.length_cons]
      omega
  unfold encNode
  rw [List.length_cons]
  rcases W.kind with ⟨a, ⟨b, b'⟩, _, _⟩ | ⟨a, ⟨b, b'⟩, _, _⟩ | ⟨a, _⟩ | ⟨a, _⟩
  · rw [if_pos a]
    have := encN_len64 (n := n.int.toNat) (by omega)
    omega
  · rw [if_neg (by omega), if_pos a]
    have h1 := zig_lt b b'
    have := encN_len64 (n := zig n.int) (by omega)
    omega
  · rw [if_neg (by omega), if_neg (by omega), if_pos a]
    have := hs (.inl a); omega
  · rw [if_neg (by omega), if_neg (by omega), if_neg (by omega), List.length_append, List.length_append]
    have h1 := hs (.inr a)
    have h2 := hargs n.args W.args.2
    have h3 := W.args.1
    have h4 := encN_len64 (n := n.args.length) (by omega)
    omega
theorem encTree_len {t : VTree} (L : LTree t) (W : WTree t) : (encTree t).length ≤ 2000000 := by
  have hn : ∀ l : List VNode, (∀ n ∈ l, WNode n ∧ Top n) → (encNodes l).length ≤ 200 * l.length := by
    intro l
    induction l with
    | nil => intro _; simp [encNodes]
    | cons a l ih =>
      intro h
      have h1 := h a (by simp)
      have := ih fun b hb => h b (by simp [hb])
      have h2 := encNode_len h1.1 h1.2
      rw [encNodes_cons, List.length_append, List.length_cons]; omega
  have h1 := hn t.nodes fun n hn => ⟨W.nodes n hn, (L.nodes n hn).1⟩
  have h2 := L.few
  have p64 : (2 : Nat) ^ 64 = 18446744073709551616 := by decide
  have h3 := encN_len64 (n := t.nodes.length) (by omega)
  unfold encTree
  rw [List.length_append]; omega
theorem encTrees_len : ∀ {l : List VTree}, (∀ t ∈ l, LTree t ∧ WTree t) → (encTrees l).length ≤ 2000000 * l.length
  | [], _ => by simp [encTrees]
  | a :: l, h => by
    have h1 := h a (by simp)
    have := encTrees_len (l := l) fun b hb => h b (by simp [hb])
    have h2 := encTree_len h1.1 h1.2
    rw [encTrees_cons, List.length_append, List.length_cons]; omega
theorem put1_spec {m : Nat} {t : VTree} (h : t.nodes.length < 2 ^ 40) (h2 : t.nodes.length < m) : pickle_Put_1.f m t = some (t.nodes.any fun n => n.kind == 4) := by
  unfold pickle_Put_1.f
  rw [containsN (f0 := fun y0 => pickle_named.f m y0) (g := fun n => n.kind == 4) h h2 (fun n _ => rfl)]; rfl
end Go.Proofs.YtmekcfdllhphlaaDoor

namespace Go.Proofs.YtmekcfdllhphlaaDoor
open Go Go.R
open Go.IntKind (i64 u64 u8 u32)
def ann23 : Ann := mkA [0, 2, 3, 4, 5, 9, 20, 25] [] [254, 250, 242, 210, 242, 242, 226, 162, 226, 98, 226, 226, 253] [] []
def ref20_Sum.l1 (m : Nat)  : Nat → Int → Int → Option (Int × Int)
  | 0, _, _ => none
  | k + 1, c2, k0 => if (decide (k0 < (8 : Int))) = true then (if ((Int.tmod c2 (2 : Int)) == (1 : Int)) = true then (ref20_Sum.l1 m k (bitsXor .u32 (u32.wrap (Int.tdiv c2 (2 : Int))) (3988292384 : Int)) (i64.wrap (k0 + (1 : Int)))) else (ref20_Sum.l1 m k (u32.wrap (Int.tdiv c2 (2 : Int))) (i64.wrap (k0 + (1 : Int))))) else (some ((c2, k0)))
def ref20_Sum.l0 (m : Nat) (b0 : List Int) : Nat → Int → Int → Option (Int × Int)
  | 0, _, _ => none
  | k + 1, c0, i0 => if (decide (i0 < (b0.length : Int))) = true then ((ix b0 i0).bind fun v0 => (ref20_Sum.l1 m m (bitsXor .u32 c0 (u32.wrap v0)) (0 : Int)).bind fun out0 => match out0 with | (c5, k1) => ref20_Sum.l0 m b0 k c5 (i64.wrap (i0 + (1 : Int)))) else (some ((c0, i0)))
def ref20_Sum.f (m : Nat) (b0 : List Int) : Option (Int) := (ref20_Sum.l0 m b0 m (4294967295 : Int) (0 : Int)).bind fun out1 => match out1 with | (c6, i1) => some (i64.wrap (bitsXor .u32 c6 (4294967295 : Int)))
def ref20_Sum.fin (L : Mem) (r : Int) (s : St) : Prop := ∃ av, resultA Tryd.prog (s.open ann23) Tryd.f23.results.toList = some av ∧ Frb s.h av (.int .i64 r)
def S23 (cf : CallF) (m : Nat) : Prop := ∀ (b0 : List Int) (r : Int), ref20_Sum.f m b0 = some r → ∀ h xs, FrzS bigK h xs [eByte.fz b0] → cf 23 xs h = some (.int .i64 r, h)
section
variable {cf : CallF} {m : Nat}
theorem ref20_Sum.l1_ok (L : Mem) (b0 : List Int) (i0 : Int)   : LoopT Tryd.prog cf ann23 m (sub [1, 1, 0, 1, 0, 0, 1, 0, 0, 1, 1, 0, 0] (codeOf Tryd.f23)) (fun k (σ : Int × Int) => ref20_Sum.l1 m k σ.1 σ.2) (fun σ s => match σ with | (c2, k0) => ∃ h1, s = ⟨eByte.fz b0 :: .any :: .int .u32 c2 :: .int .i64 i0 :: .int .i64 k0 :: Ay3 [], [], h1⟩ ∧ Has h1 (L)) (fun out e s => (e = .exit 2 ∧ ∃ c2 k0, (c2, k0) = out ∧ ∃ x5_ x20_ h1, s = ⟨[eByte.fz b0, .any, .int .u32 c2, .int .i64 i0, x5_, .any, x20_, .any], [], h1⟩ ∧ Has h1 (L))) := by
  refine lpT (fun _ => rfl) ?_
  rintro k ⟨c2, k0⟩ s out ⟨h1, rfl, o1⟩ H
  have H : ref20_Sum.l1 m (k + 1) c2 k0 = some out := H
  refine qq <| qq <| q0 <| qc H (fun c3 H => ?_) (fun c3 H => ?_)
  · refine qk <| qq <| qb 3 <| qq <| q0 <| qc H (fun c4 H => ?_) (fun c4 H => ?_)
    · exact q0 <| q0 <| ⟨(bitsXor .u32 (u32.wrap (Int.tdiv c2 (2 : Int))) (3988292384 : Int), i64.wrap (k0 + (1 : Int))), ⟨h1, by kernel_rfl, o1⟩, H⟩
    · exact q0 <| q0 <| ⟨(u32.wrap (Int.tdiv c2 (2 : Int)), i64.wrap (k0 + (1 : Int))), ⟨h1, by kernel_rfl, o1⟩, H⟩
  · exact qx 2 <| ⟨rfl, c2, k0, oi H, .int .i64 k0, .bool (decide (k0 < (8 : Int))), h1, by kernel_rfl, o1⟩
theorem ref20_Sum.l0_ok (L : Mem) (b0 : List Int)   : LoopT Tryd.prog cf ann23 m (sub [1, 1, 0, 1, 0, 0] (codeOf Tryd.f23)) (fun k (σ : Int × Int) => ref20_Sum.l0 m b0 k σ.1 σ.2) (fun σ s => match σ with | (c0, i0) => ∃ h0, s = ⟨eByte.fz b0 :: .any :: .int .u32 c0 :: .int .i64 i0 :: Ay4 [], [], h0⟩ ∧ Has h0 (L)) (fun out e s => (e = .exit 0 ∧ ∃ c0 i0, (c0, i0) = out ∧ ∃ x0_ x4_ x9_ h0, s = ⟨[x0_, .any, .int .u32 c0, x4_, .any, x9_, .any, .any], [], h0⟩ ∧ Has h0 (L))) := by
  refine lpT (fun _ => rfl) ?_
  rintro k ⟨c0, i0⟩ s out ⟨h0, rfl, o0⟩ H
  have H : ref20_Sum.l0 m b0 (k + 1) c0 i0 = some out := H
  refine qq <| qq <| q0 <| qc H (fun c1 H => ?_) (fun c1 H => ?_)
  · refine qk <| qq <| qb 1 <| qq ?_
    obtain ⟨v0, e0, H⟩ := bsi H
    refine qr [.v 3 (ia_fz (k := .i64) (E := eByte) (l := b0) T25 e0), .v 4 (ld_fz0  (E := eByte) (l := b0) h0 A5 e0 rfl)] <| qq <| q0 <| qb 2 ?_
    obtain ⟨out0, e1, H⟩ := bsi H
    refine ql (ref20_Sum.l1_ok L b0 i0   (bitsXor .u32 c0 (u32.wrap v0), (0 : Int)) _ _ ⟨h0, by kernel_rfl, o0⟩ e1) ?_
    rintro e s ⟨rfl, c5, k1, rfl, g0, g1, h2, rfl, o2⟩
    try dsimp only at H
    exact q0 <| ⟨(c5, i64.wrap (i0 + (1 : Int))), ⟨h2, by kernel_rfl, o2⟩, H⟩
  · exact qx 0 <| ⟨rfl, c0, i0, oi H, eByte.fz b0, .int .i64 i0, .bool (decide (i0 < (b0.length : Int))), h0, by kernel_rfl, o0⟩
theorem ref20_Sum_body {ann : FuncId → Ann} (ha : ann 23 = ann23)  (b0 : List Int) (h : AHeap) (L : Mem)  (o : Has h (L)) {out : Int} (H : ref20_Sum.f m b0 = some out) :
    ∃ r h', bodyA Tryd.prog ann cf m 23 [eByte.fz b0] h = some (r, h') ∧ Frb h' r (.int .i64 out) := by
  refine body_of_ends2 (fn := Tryd.f23) ha Tryd.func23 (by kernel_rfl) (by kernel_rfl) ?_
  refine ends_fin (Q := fun s => ref20_Sum.fin L out s) (fun _ _ h => h) ?_
  have H : _ = some out := H
  unfold ref20_Sum.f at H
  show Enz _ cf ann23 m _ ⟨eByte.fz b0 :: Ay7 [], [], h⟩ _
  refine q1 <| qq <| q0 <| qq <| qq <| q0 <| qb 0 ?_
  obtain ⟨out1, e2, H⟩ := bsi H
  refine ql (ref20_Sum.l0_ok L b0   ((4294967295 : Int), (0 : Int)) _ _ ⟨h, by kernel_rfl, o⟩ e2) ?_
  rintro e s ⟨rfl, c6, i1, rfl, g2, g3, g4, h3, rfl, o3⟩
  try dsimp only at H
  obtain rfl := oi H
  exact q1 <| qt <| ⟨.inl rfl, fnb (.int .i64 (i64.wrap (bitsXor .u32 c6 (4294967295 : Int)))) h3 (frb (fb_int))⟩
end
end Go.Proofs.YtmekcfdllhphlaaDoor

namespace Go.Proofs.YtmekcfdllhphlaaDoor
open Go Go.R
open Go.IntKind (i64 u64 u8 u32)
def ann111 : Ann := mkA [0, 2] [] [2, 1] [] []
def ref01_Letter.f (m : Nat) (c0 : Int) : Option (Bool) := if (decide (c0 ≥ (97 : Int))) = true then (if (decide (c0 ≤ (122 : Int))) = true then (some true) else (if (decide (c0 ≥ (65 : Int))) = true then (if (decide (c0 ≤ (90 : Int))) = true then (some true) else (if (decide (c0 ≥ (48 : Int))) = true then (if (decide (c0 ≤ (57 : Int))) = true then (some true) else (some (c0 == (95 : Int)))) else (some (c0 == (95 : Int))))) else (if (decide (c0 ≥ (48 : Int))) = true then (if (decide (c0 ≤ (57 : Int))) = true then (some true) else (some (c0 == (95 : Int)))) else (some (c0 == (95 : Int)))))) else (if (decide (c0 ≥ (65 : Int))) = true then (if (decide (c0 ≤ (90 : Int))) = true then (some true) else (if (decide (c0 ≥ (48 : Int))) = true then (if (decide (c0 ≤ (57 : Int))) = true then (some true) else (some (c0 == (95 : Int)))) else (some (c0 == (95 : Int))))) else (if (decide (c0 ≥ (48 : Int))) = true then (if (decide (c0 ≤ (57 : Int))) = true then (some true) else (some (c0 == (95 : Int)))) else (some (c0 == (95 : Int)))))
def ref01_Letter.fin (L : Mem) (r : Bool) (s : St) : Prop := ∃ av, resultA Tryd.prog (s.open ann111) Tryd.f111.results.toList = some av ∧ Frb s.h av (.bool r)
def S111 (cf : CallF) (m : Nat) : Prop := ∀ (c0 : Int) (r : Bool), ref01_Letter.f m c0 = some r → ∀ h xs, FrzS bigK h xs [.int .u8 c0] → cf 111 xs h = some (.bool r, h)
section
variable {cf : CallF} {m : Nat}
theorem ref01_Letter_body {ann : FuncId → Ann} (ha : ann 111 = ann111)  (c0 : Int) (h : AHeap) (L : Mem)  (o : Has h (L)) {out : Bool} (H : ref01_Letter.f m c0 = some out) :
    ∃ r h', bodyA Tryd.prog ann cf m 111 [.int .u8 c0] h = some (r, h') ∧ Frb h' r (.bool out) := by
  refine body_of_ends2 (fn := Tryd.f111) ha Tryd.func111 (by kernel_rfl) (by kernel_rfl) ?_
  refine ends_fin (Q := fun s => ref01_Letter.fin L out s) (fun _ _ h => h) ?_
  have H : _ = some out := H
  unfold ref01_Letter.f at H
  show Enz _ cf ann111 m _ ⟨[.int .u8 c0, .any], [], h⟩ _
  refine q1 <| qq ?_
  rcases ift H with ⟨c1, H⟩ | ⟨c1, H⟩
  · rcases ift H with ⟨c2, H⟩ | ⟨c2, H⟩
    · obtain rfl := oi H
      exact qr [.b 2 c1, .b 6 c2] <| qt <| ⟨.inl rfl, fnb (.bool true) h (frb (fb_bool))⟩
    · rcases ift H with ⟨c3, H⟩ | ⟨c3, H⟩
      · rcases ift H with ⟨c4, H⟩ | ⟨c4, H⟩
        · obtain rfl := oi H
          exact qr [.b 2 c1, .b 6 c2, .b 9 c3, .b 14 c4] <| qt <| ⟨.inl rfl, fnb (.bool true) h (frb (fb_bool))⟩
        · rcases ift H with ⟨c5, H⟩ | ⟨c5, H⟩
          · rcases ift H with ⟨c6, H⟩ | ⟨c6, H⟩
            · obtain rfl := oi H
              exact qr [.b 2 c1, .b 6 c2, .b 9 c3, .b 14 c4, .b 17 c5, .b 22 c6] <| qt <| ⟨.inl rfl, fnb (.bool true) h (frb (fb_bool))⟩
            · obtain rfl := oi H
              exact qr [.b 2 c1, .b 6 c2, .b 9 c3, .b 14 c4, .b 17 c5, .b 22 c6] <| qt <| ⟨.inl rfl, fnb (.bool (c0 == (95 : Int))) h (frb (fb_bool))⟩
          · obtain rfl := oi H
            exact qr [.b 2 c1, .b 6 c2, .b 9 c3, .b 14 c4, .b 17 c5] <| qt <| ⟨.inl rfl, fnb (.bool (c0 == (95 : Int))) h (frb (fb_bool))⟩
      · rcases ift H with ⟨c7, H⟩ | ⟨c7, H⟩
        · rcases ift H with ⟨c8, H⟩ | ⟨c8, H⟩
          · obtain rfl := oi H
            exact qr [.b 2 c1, .b 6 c2, .b 9 c3, .b 17 c7, .b 22 c8] <| qt <| ⟨.inl rfl, fnb (.bool true) h (frb (fb_bool))⟩
          · obtain rfl := oi H
            exact qr [.b 2 c1, .b 6 c2, .b 9 c3, .b 17 c7, .b 22 c8] <| qt <| ⟨.inl rfl, fnb (.bool (c0 == (95 : Int))) h (frb (fb_bool))⟩
        · obtain rfl := oi H
          exact qr [.b 2 c1, .b 6 c2, .b 9 c3, .b 17 c7] <| qt <| ⟨.inl rfl, fnb (.bool (c0 == (95 : Int))) h (frb (fb_bool))⟩
  · rcases ift H with ⟨c9, H⟩ | ⟨c9, H⟩
    · rcases ift H with ⟨c10, H⟩ | ⟨c10, H⟩
      · obtain rfl := oi H
        exact qr [.b 2 c1, .b 9 c9, .b 14 c10] <| qt <| ⟨.inl rfl, fnb (.bool true) h (frb (fb_bool))⟩
      · rcases ift H with ⟨c11, H⟩ | ⟨c11, H⟩
        · rcases ift H with ⟨c12, H⟩ | ⟨c12, H⟩
          · obtain rfl := oi H
            exact qr [.b 2 c1, .b 9 c9, .b 14 c10, .b 17 c11, .b 22 c12] <| qt <| ⟨.inl rfl, fnb (.bool true) h (frb (fb_bool))⟩
          · obtain rfl := oi H
            exact qr [.b 2 c1, .b 9 c9, .b 14 c10, .b 17 c11, .b 22 c12] <| qt <| ⟨.inl rfl, fnb (.bool (c0 == (95 : Int))) h (frb (fb_bool))⟩
        · obtain rfl := oi H
          exact qr [.b 2 c1, .b 9 c9, .b 14 c10, .b 17 c11] <| qt <| ⟨.inl rfl, fnb (.bool (c0 == (95 : Int))) h (frb (fb_bool))⟩
    · rcases ift H with ⟨c13, H⟩ | ⟨c13, H⟩
      · rcases ift H with ⟨c14, H⟩ | ⟨c14, H⟩
        · obtain rfl := oi H
          exact qr [.b 2 c1, .b 9 c9, .b 17 c13, .b 22 c14] <| qt <| ⟨.inl rfl, fnb (.bool true) h (frb (fb_bool))⟩
        · obtain rfl := oi H
          exact qr [.b 2 c1, .b 9 c9, .b 17 c13, .b 22 c14] <| qt <| ⟨.inl rfl, fnb (.bool (c0 == (95 : Int))) h (frb (fb_bool))⟩
      · obtain rfl := oi H
        exact qr [.b 2 c1, .b 9 c9, .b 17 c13] <| qt <| ⟨.inl rfl, fnb (.bool (c0 == (95 : Int))) h (frb (fb_bool))⟩
end
end Go.Proofs.YtmekcfdllhphlaaDoor

namespace Go.Proofs.YtmekcfdllhphlaaDoor
open Go Go.R
open Go.IntKind (i64 u64 u8 u32)
def ann86 : Ann := mkA [0, 2, 3, 11, 15, 22] [] [62, 54, 61, 58, 42, 58, 26, 61, 61] [] []
def ref01_word.l0 (m : Nat) (s0 : ByteArray) : Nat → Int → Option (Sum Bool (Int))
  | 0, _ => none
  | k + 1, i0 => if (decide (i0 < (s0.size : Int))) = true then ((bt s0 i0).bind fun v0 => (ref01_Letter.f m v0).bind fun x0 => if (!x0) = true then (some (.inl false)) else (ref01_word.l0 m s0 k (i64.wrap (i0 + (1 : Int))))) else (some (.inr i0))
def ref01_word.f (m : Nat) (s0 : ByteArray) : Option (Bool) := if (decide ((s0.size : Int) < (1 : Int))) = true then (some false) else (if (decide ((s0.size : Int) > (16 : Int))) = true then (some false) else ((ref01_word.l0 m s0 m (0 : Int)).bind fun out0 => match out0 with | .inl r0 => some r0 | .inr i1 => some true))
def ref01_word.fin (L : Mem) (r : Bool) (s : St) : Prop := ∃ av, resultA Tryd.prog (s.open ann86) Tryd.f86.results.toList = some av ∧ Frb s.h av (.bool r)
def S86 (cf : CallF) (m : Nat) : Prop := ∀ (s0 : ByteArray) (r : Bool), ref01_word.f m s0 = some r → ∀ h xs, FrzS bigK h xs [.str s0] → cf 86 xs h = some (.bool r, h)
section
variable {cf : CallF} {m : Nat}
theorem ref01_word.l0_ok (L : Mem) (s0 : ByteArray)  (S111_ : S111 cf m) : LoopT Tryd.prog cf ann86 m (sub [1, 1, 0, 1, 0, 0] (codeOf Tryd.f86)) (fun k (σ : Int) => ref01_word.l0 m s0 k σ) (fun σ s => match σ with | i0 => ∃ h0, s = ⟨.str s0 :: .any :: .int .i64 i0 :: Ay3 [], [], h0⟩ ∧ Has h0 (L)) (fun out e s => (e = .exit 0 ∧ ∃ i0, .inr i0 = out ∧ ∃ x0_ x3_ x15_ h0, s = ⟨[x0_, .any, x3_, .any, x15_, .any], [], h0⟩ ∧ Has h0 (L)) ∨ (e = .ret ∧ ∃ r, .inl r = out ∧ ref01_word.fin L r s)) := by
  refine lpT (fun _ => rfl) ?_
  rintro k i0 s out ⟨h0, rfl, o0⟩ H
  have H : ref01_word.l0 m s0 (k + 1) i0 = some out := H
  refine qq <| qq <| q0 <| qc H (fun c3 H => ?_) (fun c3 H => ?_)
  · refine qk <| qq <| qb 1 <| qq ?_
    obtain ⟨v0, e0, H⟩ := bsi H
    obtain ⟨x0, e1, H⟩ := bsi H
    refine qr [.v 2 (ix_str (k := .i64) U9 e0), .a 3 (S111_ _ _ e1 h0 _ (frs (fr_cons (fr_int) (fr_nil))))] <| qc H (fun c4 H => ?_) (fun c4 H => ?_)
    · exact q1 <| qt <| Or.inr (⟨rfl, _, oi H, fnb (.bool false) h0 (frb (fb_bool))⟩)
    · exact qk <| q0 <| ⟨i64.wrap (i0 + (1 : Int)), ⟨h0, by kernel_rfl, o0⟩, H⟩
  · exact qx 0 <| Or.inl (⟨rfl, i0, oi H, .str s0, .int .i64 i0, .bool (decide (i0 < (s0.size : Int))), h0, by kernel_rfl, o0⟩)
theorem ref01_word_body {ann : FuncId → Ann} (ha : ann 86 = ann86) (S111_ : S111 cf m) (s0 : ByteArray) (h : AHeap) (L : Mem)  (o : Has h (L)) {out : Bool} (H : ref01_word.f m s0 = some out) :
    ∃ r h', bodyA Tryd.prog ann cf m 86 [.str s0] h = some (r, h') ∧ Frb h' r (.bool out) := by
  refine body_of_ends2 (fn := Tryd.f86) ha Tryd.func86 (by kernel_rfl) (by kernel_rfl) ?_
  refine ends_fin (Q := fun s => ref01_word.fin L out s) (fun _ _ h => h) ?_
  have H : _ = some out := H
  unfold ref01_word.f at H
  show Enz _ cf ann86 m _ ⟨.str s0 :: Ay5 [], [], h⟩ _
  refine q1 <| qq <| qq ?_
  rcases ift H with ⟨c0, H⟩ | ⟨c0, H⟩
  · obtain rfl := oi H
    exact qr [.b 3 c0] <| qcT <| qq <| q0 <| qt <| ⟨.inl rfl, fnb (.bool false) h (frb (fb_bool))⟩
  · refine qr [.b 3 c0] <| qc H (fun c2 H => ?_) (fun c2 H => ?_)
    · obtain rfl := oi H
      exact q1 <| qt <| ⟨.inl rfl, fnb (.bool false) h (frb (fb_bool))⟩
    · refine qk <| qq <| qq <| q0 <| qb 0 ?_
      obtain ⟨out0, e2, H⟩ := bsi H
      refine ql (ref01_word.l0_ok L s0  S111_ (0 : Int) _ _ ⟨h, by kernel_rfl, o⟩ e2) ?_
      rintro e s (⟨rfl, i1, rfl, g0, g1, g2, h1, rfl, o1⟩ | ⟨rfl, r0, rfl, hf0⟩)
      · try dsimp only at H
        obtain rfl := oi H
        exact q1 <| qt <| ⟨.inl rfl, fnb (.bool true) h1 (frb (fb_bool))⟩
      · try dsimp only at H
        obtain rfl := oi H
        exact ⟨.inl rfl, hf0⟩
end
end Go.Proofs.YtmekcfdllhphlaaDoor

namespace Go.Proofs.YtmekcfdllhphlaaDoor
open Go Go.R
open Go.IntKind (i64 u64 u8 u32)
def ann69 : Ann := mkA [0, 2] [] [2, 1] [] []
def ref01_IsAtom.f (m : Nat) (s0 : ByteArray) : Option (Bool) := if (s0.data.toList == (ByteArray.mk #[124]).data.toList) = true then (some true) else (if (s0.data.toList == (ByteArray.mk #[35]).data.toList) = true then (some true) else ((ref01_word.f m s0).bind fun x0 => if x0 = true then ((bt s0 (0 : Int)).bind fun v0 => if (decide (v0 ≥ (97 : Int))) = true then ((bt s0 (0 : Int)).bind fun v1 => some (decide (v1 ≤ (122 : Int)))) else (some false)) else (some false)))
def ref01_IsAtom.fin (L : Mem) (r : Bool) (s : St) : Prop := ∃ av, resultA Tryd.prog (s.open ann69) Tryd.f69.results.toList = some av ∧ Frb s.h av (.bool r)
def S69 (cf : CallF) (m : Nat) : Prop := ∀ (s0 : ByteArray) (r : Bool), ref01_IsAtom.f m s0 = some r → ∀ h xs, FrzS bigK h xs [.str s0] → cf 69 xs h = some (.bool r, h)
section
variable {cf : CallF} {m : Nat}
theorem ref01_IsAtom_body {ann : FuncId → Ann} (ha : ann 69 = ann69) (S86_ : S86 cf m) (s0 : ByteArray) (h : AHeap) (L : Mem)  (o : Has h (L)) {out : Bool} (H : ref01_IsAtom.f m s0 = some out) :
    ∃ r h', bodyA Tryd.prog ann cf m 69 [.str s0] h = some (r, h') ∧ Frb h' r (.bool out) := by
  refine body_of_ends2 (fn := Tryd.f69) ha Tryd.func69 (by kernel_rfl) (by kernel_rfl) ?_
  refine ends_fin (Q := fun s => ref01_IsAtom.fin L out s) (fun _ _ h => h) ?_
  have H : _ = some out := H
  unfold ref01_IsAtom.f at H
  show Enz _ cf ann69 m _ ⟨[.str s0, .any], [], h⟩ _
  refine q1 <| qq ?_
  rcases ift H with ⟨c0, H⟩ | ⟨c0, H⟩
  · obtain rfl := oi H
    exact qr [.b 2 c0] <| qt <| ⟨.inl rfl, fnb (.bool true) h (frb (fb_bool))⟩
  · rcases ift H with ⟨c1, H⟩ | ⟨c1, H⟩
    · obtain rfl := oi H
      exact qr [.b 2 c0, .b 6 c1] <| qt <| ⟨.inl rfl, fnb (.bool true) h (frb (fb_bool))⟩
    · obtain ⟨x0, e0, H⟩ := bsi H
      rcases ift H with ⟨c2, H⟩ | ⟨c2, H⟩
      · obtain ⟨v0, e1, H⟩ := bsi H
        rcases ift H with ⟨c3, H⟩ | ⟨c3, H⟩
        · obtain ⟨v1, e2, H⟩ := bsi H
          obtain rfl := oi H
          exact qr [.b 2 c0, .b 6 c1, .a 8 (S86_ _ _ e0 h _ (frs (fr_cons (fr_str) (fr_nil)))), .b 9 c2, .v 11 (ix_str (k := .i64) U9 e1), .b 14 c3, .v 16 (ix_str (k := .i64) U9 e2)] <| qt <| ⟨.inl rfl, fnb (.bool (decide (v1 ≤ (122 : Int)))) h (frb (fb_bool))⟩
        · obtain rfl := oi H
          exact qr [.b 2 c0, .b 6 c1, .a 8 (S86_ _ _ e0 h _ (frs (fr_cons (fr_str) (fr_nil)))), .b 9 c2, .v 11 (ix_str (k := .i64) U9 e1), .b 14 c3] <| qt <| ⟨.inl rfl, fnb (.bool false) h (frb (fb_bool))⟩
      · obtain rfl := oi H
        exact qr [.b 2 c0, .b 6 c1, .a 8 (S86_ _ _ e0 h _ (frs (fr_cons (fr_str) (fr_nil)))), .b 9 c2] <| qt <| ⟨.inl rfl, fnb (.bool false) h (frb (fb_bool))⟩
end
end Go.Proofs.YtmekcfdllhphlaaDoor

namespace Go.Proofs.YtmekcfdllhphlaaDoor
open Go Go.R
open Go.IntKind (i64 u64 u8 u32)
def ann48 : Ann := mkA [0, 1, 2, 4, 5, 7, 8, 24, 45, 61, 87, 109, 114, 131] [2] [16377, 16345, 16281, 16375, 16217, 16375, 16089, 16375, 15833, 16375, 15353, 14329, 16375, 16361, 12265, 16361, 8169, 16375, 16375, 16375] [] []
def ref01_Right.l0 (m : Nat) (n0 : VNode) (nodes0 : Int) : Nat → Int → Option (Sum Bool (Int))
  | 0, _ => none
  | k + 1, i0 => if (decide (i0 < (n0.args.length : Int))) = true then ((ix n0.args i0).bind fun v0 => if (decide (v0 < (0 : Int))) = true then (some (.inl false)) else ((ix n0.args i0).bind fun v1 => if (decide (v1 ≥ nodes0)) = true then (some (.inl false)) else (ref01_Right.l0 m n0 nodes0 k (i64.wrap (i0 + (1 : Int)))))) else (some (.inr i0))
def ref01_Right.f (m : Nat) (n0 : VNode) (nodes0 : Int) : Option (Bool) := if (n0.kind == (0 : Int)) = true then (if (decide (n0.int ≥ (0 : Int))) = true then (if (n0.label.data.toList == (ByteArray.mk #[]).data.toList) = true then (some ((n0.args.length : Int) == (0 : Int))) else (some false)) else (some false)) else (if (n0.kind == (1 : Int)) = true then (if (decide (n0.int ≥ (-1099511627776 : Int))) = true then (if (decide (n0.int ≤ (1099511627776 : Int))) = true then (if (n0.label.data.toList == (ByteArray.mk #[]).data.toList) = true then (some ((n0.args.length : Int) == (0 : Int))) else (some false)) else (some false)) else (some false)) else (if (n0.kind == (2 : Int)) = true then ((ref01_IsAtom.f m n0.label).bind fun x0 => if x0 = true then (if (n0.int == (0 : Int)) = true then (some ((n0.args.length : Int) == (0 : Int))) else (some false)) else (some false)) else (if (n0.kind == (4 : Int)) = true then (if (n0.label.data.toList == (ByteArray.mk #[112, 114, 111, 99]).data.toList) = true then (if (decide (n0.int ≥ (0 : Int))) = true then (some ((n0.args.length : Int) == (0 : Int))) else (some false)) else (if (n0.label.data.toList == (ByteArray.mk #[99, 101, 108, 108]).data.toList) = true then (if (decide (n0.int ≥ (0 : Int))) = true then (some ((n0.args.length : Int) == (0 : Int))) else (some false)) else (if (n0.label.data.toList == (ByteArray.mk #[112, 111, 114, 116]).data.toList) = true then (if (decide (n0.int ≥ (0 : Int))) = true then (some ((n0.args.length : Int) == (0 : Int))) else (some false)) else (some false)))) else (if (n0.kind == (3 : Int)) = true then ((ref01_IsAtom.f m n0.label).bind fun x1 => if (!x1) = true then (some false) else (if (!(n0.int == (0 : Int))) = true then (some false) else (if (decide ((n0.args.length : Int) < (1 : Int))) = true then (some false) else (if (decide ((n0.args.length : Int) > (8 : Int))) = true then (some false) else ((ref01_Right.l0 m n0 nodes0 m (0 : Int)).bind fun out0 => match out0 with | .inl r0 => some r0 | .inr i1 => some true))))) else (some false)))))
def ref01_Right.fin (L : Mem) (r : Bool) (s : St) : Prop := ∃ av, resultA Tryd.prog (s.open ann48) Tryd.f48.results.toList = some av ∧ Frb s.h av (.bool r)
def S48 (cf : CallF) (m : Nat) : Prop := ∀ (n0 : VNode) (nodes0 : Int) (r : Bool), ref01_Right.f m n0 nodes0 = some r → ∀ h xs, FrzS bigK h xs [.agg [.int .i64 n0.kind, .int .i64 n0.int, .str n0.label, eInt.fz n0.args], .int .i64 nodes0] → cf 48 xs h = some (.bool r, h)
section
variable {cf : CallF} {m : Nat}
theorem ref01_Right.l0_ok (L : Mem) (n0 : VNode) (nodes0 : Int)   : LoopT Tryd.prog cf ann48 m (sub [1, 0, 1, 0, 1, 1, 1, 1, 1, 1, 1, 1, 1, 0, 1, 0, 1, 0, 0] (codeOf Tryd.f48)) (fun k (σ : Int) => ref01_Right.l0 m n0 nodes0 k σ) (fun σ s => match σ with | i0 => ∃ h0, s = ⟨.any :: .int .i64 nodes0 :: .lp 2 0 :: .any :: .int .i64 i0 :: Ay9 [], [some [.int .i64 n0.kind, .int .i64 n0.int, .str n0.label, eInt.fz n0.args]], h0⟩ ∧ Has h0 (L)) (fun out e s => (e = .exit 1 ∧ ∃ i0, .inr i0 = out ∧ ∃ x1_ x2_ x5_ x114_ b2_ h0, s = ⟨.any :: x1_ :: x2_ :: .any :: x5_ :: Ay7 [x114_, .any], [b2_], h0⟩ ∧ Has h0 (L)) ∨ (e = .ret ∧ ∃ r, .inl r = out ∧ ref01_Right.fin L r s)) := by
  refine lpT (fun _ => rfl) ?_
  rintro k i0 s out ⟨h0, rfl, o0⟩ H
  have H : ref01_Right.l0 m n0 nodes0 (k + 1) i0 = some out := H
  refine qq <| qq <| q0 <| qc H (fun c25 H => ?_) (fun c25 H => ?_)
  · refine qk <| qq <| qb 2 <| qq ?_
    obtain ⟨v0, e2, H⟩ := bsi H
    rcases ift H with ⟨c26, H⟩ | ⟨c26, H⟩
    · exact qr [.v 3 (ia_fz (k := .i64) (E := eInt) (l := n0.args) T42 e2), .v 4 (ld_fz0  (E := eInt) (l := n0.args) h0 A3 e2 rfl), .b 6 c26] <| qcT <| qq <| q0 <| qt <| Or.inr (⟨rfl, _, oi H, fnb (.bool false) h0 (frb (fb_bool))⟩)
    · obtain ⟨v1, e3, H⟩ := bsi H
      refine qr [.v 3 (ia_fz (k := .i64) (E := eInt) (l := n0.args) T42 e2), .v 4 (ld_fz0  (E := eInt) (l := n0.args) h0 A3 e2 rfl), .b 6 c26, .v 10 (ia_fz (k := .i64) (E := eInt) (l := n0.args) T42 e3), .v 11 (ld_fz0  (E := eInt) (l := n0.args) h0 A3 e3 rfl)] <| qc H (fun c28 H => ?_) (fun c28 H => ?_)
      · exact q1 <| qt <| Or.inr (⟨rfl, _, oi H, fnb (.bool false) h0 (frb (fb_bool))⟩)
      · exact qk <| q0 <| ⟨i64.wrap (i0 + (1 : Int)), ⟨h0, by kernel_rfl, o0⟩, H⟩
  · exact qx 1 <| Or.inl (⟨rfl, i0, oi H, .int .i64 nodes0, .lp 2 0, .int .i64 i0, .bool (decide (i0 < (n0.args.length : Int))), some [.int .i64 n0.kind, .int .i64 n0.int, .str n0.label, eInt.fz n0.args], h0, by kernel_rfl, o0⟩)
theorem ref01_Right_body {ann : FuncId → Ann} (ha : ann 48 = ann48) (S69_ : S69 cf m) (n0 : VNode) (nodes0 : Int) (h : AHeap) (L : Mem)  (o : Has h (L)) {out : Bool} (H : ref01_Right.f m n0 nodes0 = some out) :
    ∃ r h', bodyA Tryd.prog ann cf m 48 [.agg [.int .i64 n0.kind, .int .i64 n0.int, .str n0.label, eInt.fz n0.args], .int .i64 nodes0] h = some (r, h') ∧ Frb h' r (.bool out) := by
  refine body_of_ends2 (fn := Tryd.f48) ha Tryd.func48 (by kernel_rfl) (by kernel_rfl) ?_
  refine ends_fin (Q := fun s => ref01_Right.fin L out s) (fun _ _ h => h) ?_
  have H : _ = some out := H
  unfold ref01_Right.f at H
  show Enz _ cf ann48 m _ ⟨.agg [.int .i64 n0.kind, .int .i64 n0.int, .str n0.label, eInt.fz n0.args] :: .int .i64 nodes0 :: Ay12 [], [none], h⟩ _
  refine q1 <| qq <| qq <| q0 <| qb 0 <| qq <| q0 <| qc H (fun c0 H => ?_) (fun c0 H => ?_)
  · refine qq ?_
    rcases ift H with ⟨c1, H⟩ | ⟨c1, H⟩
    · rcases ift H with ⟨c2, H⟩ | ⟨c2, H⟩
      · obtain rfl := oi H
        exact qr [.b 3 c1, .b 8 c2] <| qt <| ⟨.inl rfl, fnb (.bool ((n0.args.length : Int) == (0 : Int))) h (frb (fb_bool))⟩
      · obtain rfl := oi H
        exact qr [.b 3 c1, .b 8 c2] <| qt <| ⟨.inl rfl, fnb (.bool false) h (frb (fb_bool))⟩
    · obtain rfl := oi H
      exact qr [.b 3 c1] <| qt <| ⟨.inl rfl, fnb (.bool false) h (frb (fb_bool))⟩
  · refine q1 <| qc H (fun c3 H => ?_) (fun c3 H => ?_)
    · refine qq ?_
      rcases ift H with ⟨c4, H⟩ | ⟨c4, H⟩
      · rcases ift H with ⟨c5, H⟩ | ⟨c5, H⟩
        · rcases ift H with ⟨c6, H⟩ | ⟨c6, H⟩
          · obtain rfl := oi H
            exact qr [.b 3 c4, .b 8 c5, .b 13 c6] <| qt <| ⟨.inl rfl, fnb (.bool ((n0.args.length : Int) == (0 : Int))) h (frb (fb_bool))⟩
          · obtain rfl := oi H
            exact qr [.b 3 c4, .b 8 c5, .b 13 c6] <| qt <| ⟨.inl rfl, fnb (.bool false) h (frb (fb_bool))⟩
        · obtain rfl := oi H
          exact qr [.b 3 c4, .b 8 c5] <| qt <| ⟨.inl rfl, fnb (.bool false) h (frb (fb_bool))⟩
      · obtain rfl := oi H
        exact qr [.b 3 c4] <| qt <| ⟨.inl rfl, fnb (.bool false) h (frb (fb_bool))⟩
    · refine q1 <| qc H (fun c7 H => ?_) (fun c7 H => ?_)
      · refine qq ?_
        obtain ⟨x0, e0, H⟩ := bsi H
        rcases ift H with ⟨c8, H⟩ | ⟨c8, H⟩
        · rcases ift H with ⟨c9, H⟩ | ⟨c9, H⟩
          · obtain rfl := oi H
            exact qr [.a 2 (S69_ _ _ e0 h _ (frs (fr_cons (fr_str) (fr_nil)))), .b 3 c8, .b 8 c9] <| qt <| ⟨.inl rfl, fnb (.bool ((n0.args.length : Int) == (0 : Int))) h (frb (fb_bool))⟩
          · obtain rfl := oi H
            exact qr [.a 2 (S69_ _ _ e0 h _ (frs (fr_cons (fr_str) (fr_nil)))), .b 3 c8, .b 8 c9] <| qt <| ⟨.inl rfl, fnb (.bool false) h (frb (fb_bool))⟩
        · obtain rfl := oi H
          exact qr [.a 2 (S69_ _ _ e0 h _ (frs (fr_cons (fr_str) (fr_nil)))), .b 3 c8] <| qt <| ⟨.inl rfl, fnb (.bool false) h (frb (fb_bool))⟩
      · refine q1 <| qc H (fun c10 H => ?_) (fun c10 H => ?_)
        · refine qq ?_
          rcases ift H with ⟨c11, H⟩ | ⟨c11, H⟩
          · rcases ift H with ⟨c12, H⟩ | ⟨c12, H⟩
            · obtain rfl := oi H
              exact qr [.b 3 c11, .b 18 c12] <| qt <| ⟨.inl rfl, fnb (.bool ((n0.args.length : Int) == (0 : Int))) h (frb (fb_bool))⟩
            · obtain rfl := oi H
              exact qr [.b 3 c11, .b 18 c12] <| qt <| ⟨.inl rfl, fnb (.bool false) h (frb (fb_bool))⟩
          · rcases ift H with ⟨c13, H⟩ | ⟨c13, H⟩
            · rcases ift H with ⟨c14, H⟩ | ⟨c14, H⟩
              · obtain rfl := oi H
                exact qr [.b 3 c11, .b 8 c13, .b 18 c14] <| qt <| ⟨.inl rfl, fnb (.bool ((n0.args.length : Int) == (0 : Int))) h (frb (fb_bool))⟩
              · obtain rfl := oi H
                exact qr [.b 3 c11, .b 8 c13, .b 18 c14] <| qt <| ⟨.inl rfl, fnb (.bool false) h (frb (fb_bool))⟩
            · rcases ift H with ⟨c15, H⟩ | ⟨c15, H⟩
              · rcases ift H with ⟨c16, H⟩ | ⟨c16, H⟩
                · obtain rfl := oi H
                  exact qr [.b 3 c11, .b 8 c13, .b 13 c15, .b 18 c16] <| qt <| ⟨.inl rfl, fnb (.bool ((n0.args.length : Int) == (0 : Int))) h (frb (fb_bool))⟩
                · obtain rfl := oi H
                  exact qr [.b 3 c11, .b 8 c13, .b 13 c15, .b 18 c16] <| qt <| ⟨.inl rfl, fnb (.bool false) h (frb (fb_bool))⟩
              · obtain rfl := oi H
                exact qr [.b 3 c11, .b 8 c13, .b 13 c15] <| qt <| ⟨.inl rfl, fnb (.bool false) h (frb (fb_bool))⟩
        · refine q1 <| qc H (fun c17 H => ?_) (fun c17 H => ?_)
          · refine qq <| qq ?_
            obtain ⟨x1, e1, H⟩ := bsi H
            rcases ift H with ⟨c18, H⟩ | ⟨c18, H⟩
            · obtain rfl := oi H
              exact qr [.a 2 (S69_ _ _ e1 h _ (frs (fr_cons (fr_str) (fr_nil)))), .b 4 c18] <| qcT <| qq <| q0 <| qt <| ⟨.inl rfl, fnb (.bool false) h (frb (fb_bool))⟩
            · rcases ift H with ⟨c20, H⟩ | ⟨c20, H⟩
              · obtain rfl := oi H
                exact qr [.a 2 (S69_ _ _ e1 h _ (frs (fr_cons (fr_str) (fr_nil)))), .b 4 c18, .b 9 c20] <| qcT <| qq <| q0 <| qt <| ⟨.inl rfl, fnb (.bool false) h (frb (fb_bool))⟩
              · rcases ift H with ⟨c22, H⟩ | ⟨c22, H⟩
                · obtain rfl := oi H
                  exact qr [.a 2 (S69_ _ _ e1 h _ (frs (fr_cons (fr_str) (fr_nil)))), .b 4 c18, .b 9 c20, .b 15 c22] <| qcT <| qq <| q0 <| qt <| ⟨.inl rfl, fnb (.bool false) h (frb (fb_bool))⟩
                · refine qr [.a 2 (S69_ _ _ e1 h _ (frs (fr_cons (fr_str) (fr_nil)))), .b 4 c18, .b 9 c20, .b 15 c22] <| qc H (fun c24 H => ?_) (fun c24 H => ?_)
                  · obtain rfl := oi H
                    exact q1 <| qt <| ⟨.inl rfl, fnb (.bool false) h (frb (fb_bool))⟩
                  · refine qk <| qq <| qq <| q0 <| qb 1 ?_
                    obtain ⟨out0, e4, H⟩ := bsi H
                    refine ql (ref01_Right.l0_ok L n0 nodes0   (0 : Int) _ _ ⟨h, by kernel_rfl, o⟩ e4) ?_
                    rintro e s (⟨rfl, i1, rfl, g0, g1, g2, g3, g4, h1, rfl, o1⟩ | ⟨rfl, r0, rfl, hf0⟩)
                    · try dsimp only at H
                      obtain rfl := oi H
                      exact q1 <| qt <| ⟨.inl rfl, fnb (.bool true) h1 (frb (fb_bool))⟩
                    · try dsimp only at H
                      obtain rfl := oi H
                      exact ⟨.inl rfl, hf0⟩
          · obtain rfl := oi H
            exact qk <| qq <| q0 <| qt <| ⟨.inl rfl, fnb (.bool false) h (frb (fb_bool))⟩
end
end Go.Proofs.YtmekcfdllhphlaaDoor

