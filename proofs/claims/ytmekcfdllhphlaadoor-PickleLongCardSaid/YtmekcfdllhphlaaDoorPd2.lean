/- Sum of the program: CRC-32. -/
import Derived.Test.YtmekcfdllhphlaaDoorPdBase
import Derived.Test.YtmekcfdllhphlaaDoorCrc
set_option linter.unusedVariables false
set_option linter.unusedSimpArgs false
namespace Go.Proofs.YtmekcfdllhphlaaDoor
open Go Go.R
set_option maxRecDepth 100000
noncomputable def g21R0 : Code := sub [0] (codeOf Tryd.f21)
noncomputable def g21R1 : Code := sub [1, 0] (codeOf Tryd.f21)
noncomputable def g21R2 : Code := sub [1, 1, 0, 0] (codeOf Tryd.f21)
noncomputable def g21L0 : Code := sub [1, 1, 0, 1, 0, 0] (codeOf Tryd.f21)
noncomputable def g21R3 : Code := sub [1, 1, 0, 1, 0, 0, 0] (codeOf Tryd.f21)
noncomputable def g21R4 : Code := sub [1, 1, 0, 1, 0, 0, 1, 1, 0, 0, 0] (codeOf Tryd.f21)
noncomputable def g21R5 : Code := sub [1, 1, 0, 1, 0, 0, 1, 1, 0, 0, 1, 0] (codeOf Tryd.f21)
noncomputable def g21R6 : Code := sub [1, 1, 0, 1, 0, 0, 1, 1, 0, 0, 1, 1, 0] (codeOf Tryd.f21)
noncomputable def g21L1 : Code := sub [1, 1, 0, 1, 0, 0, 1, 1, 0, 0, 1, 1, 1, 0, 0] (codeOf Tryd.f21)
noncomputable def g21R7 : Code := sub [1, 1, 0, 1, 0, 0, 1, 1, 0, 0, 1, 1, 1, 0, 0, 0] (codeOf Tryd.f21)
noncomputable def g21R8 : Code := sub [1, 1, 0, 1, 0, 0, 1, 1, 0, 0, 1, 1, 1, 0, 0, 1, 1, 0, 0] (codeOf Tryd.f21)
noncomputable def g21R9 : Code := sub [1, 1, 0, 1, 0, 0, 1, 1, 0, 0, 1, 1, 1, 0, 0, 1, 1, 1] (codeOf Tryd.f21)
noncomputable def g21R10 : Code := sub [1, 1, 0, 1, 0, 0, 1, 1, 1] (codeOf Tryd.f21)
noncomputable def g21R11 : Code := sub [1, 1, 1, 0] (codeOf Tryd.f21)
theorem g21L1_eq : g21L1 = (.seq g21R7 (.seq (.cond (.tmp 17) .skip (.exit 2)) (.seq (.block 3 g21R8) g21R9))) := by kernel_rfl
theorem g21L0_eq : g21L0 = (.seq g21R3 (.seq (.cond (.tmp 9) .skip (.exit 0)) (.seq (.block 1 (.seq g21R4 (.seq g21R5 (.seq g21R6 (.block 2 (.loop g21L1)))))) g21R10))) := by kernel_rfl
theorem g21_eq : codeOf Tryd.f21 = (.seq g21R0 (.seq g21R1 (.seq (.seq g21R2 (.block 0 (.loop g21L0))) (.seq g21R11 .ret)))) := by kernel_rfl

/-- A number of 32 bits, none below zero. -/
def U (x : BitVec 32) : AV := .int .u32 (x.toNat : Int)
def B8 (x : BitVec 8) : AV := .int .u8 (x.toNat : Int)
theorem keepU {locs : List Nat} {t : Nat} {x : BitVec 32} : keepV locs t (U x) = U x := rfl
theorem keepB {locs : List Nat} {t : Nat} {x : BitVec 8} : keepV locs t (B8 x) = B8 x := rfl
theorem wrap32 (x : BitVec 32) : IntKind.u32.wrap (x.toNat : Int) = x.toNat := by
  have h : (x.toNat : Int) < 4294967296 := by have := x.isLt; omega
  simp only [IntKind.wrap, IntKind.signed, IntKind.bits, Bool.false_and, Bool.false_eq_true, if_false]
  omega
theorem ofInt32 (x : BitVec 32) : BitVec.ofInt 32 (x.toNat : Int) = x := by simp
theorem bin_xor32 {t : TypeId} {x y : BitVec 32} : binOpA Tryd.prog .xor t (U x) (U y) = some (U (x ^^^ y)) := by
  show some (AV.int .u32 (IntKind.u32.wrap ((BitVec.ofInt 32 x.toNat ^^^ BitVec.ofInt 32 y.toNat).toNat : Int))) = _
  rw [wrap32, ofInt32, ofInt32]; rfl
theorem bin_and32 {t : TypeId} {x y : BitVec 32} : binOpA Tryd.prog .and t (U x) (U y) = some (U (x &&& y)) := by
  show some (AV.int .u32 (IntKind.u32.wrap ((BitVec.ofInt 32 x.toNat &&& BitVec.ofInt 32 y.toNat).toNat : Int))) = _
  rw [wrap32, ofInt32, ofInt32]; rfl
theorem poly_and {t : TypeId} {y : BitVec 32} : binOpA Tryd.prog .and t (.int .u32 3988292384) (U y) = some (U (Crc.poly &&& y)) := bin_and32 (x := Crc.poly)
theorem and_one {t : TypeId} {x : BitVec 32} : binOpA Tryd.prog .and t (U x) (.int .u32 1) = some (U (x &&& 1#32)) := bin_and32 (y := 1#32)
theorem xor_poly {t : TypeId} {x : BitVec 32} : binOpA Tryd.prog .xor t (U x) (.int .u32 3988292384) = some (U (x ^^^ Crc.poly)) := bin_xor32 (y := Crc.poly)
theorem xor_ones {t : TypeId} {x : BitVec 32} : binOpA Tryd.prog .xor t (U x) (.int .u32 4294967295) = some (U (~~~x)) := by
  have := bin_xor32 (t := t) (x := x) (y := BitVec.allOnes 32)
  rw [BitVec.xor_allOnes] at this
  exact this
theorem half (x : BitVec 32) : ((x.toNat / 2 : Nat) : Int) = ((x >>> 1).toNat : Int) := by
  rw [BitVec.toNat_ushiftRight, Nat.shiftRight_eq_div_pow]
theorem shr_one {t : TypeId} {x : BitVec 32} : binOpA Tryd.prog .shr t (U x) (.int .u64 1) = some (U (x >>> 1)) := by
  show some (AV.int .u32 ((x.toNat : Int).fdiv (2 ^ 1))) = some (AV.int .u32 ((x >>> 1).toNat : Int))
  rw [← half, Int.fdiv_eq_ediv_of_nonneg _ (by decide)]
  congr 2
/-- The same as a value. -/
def UV (x : BitVec 32) : Value := .int .u32 (x.toNat : Int)
theorem conc1U {x : BitVec 32} : (U x).conc1 = some (UV x) := rfl
theorem ofV1U {x : BitVec 32} : ofV1 (UV x) = some (U x) := rfl
theorem neg32 {x : BitVec 32} : pureRun Tryd.prog (Op.unary .neg (UV x)) = some (UV (-x)) := by
  show some (Value.int .u32 (IntKind.u32.wrap (0 - (x.toNat : Int)))) = some (Value.int .u32 ((-x).toNat : Int))
  have h := x.isLt
  rw [BitVec.toNat_neg]
  simp only [IntKind.wrap, IntKind.signed, IntKind.bits, Bool.false_and, Bool.false_eq_true, if_false]
  congr 2
  omega
theorem not32 {x : BitVec 32} : pureRun Tryd.prog (Op.unary .xor (UV x)) = some (UV (~~~x)) := by
  show some (Value.int .u32 (IntKind.u32.wrap ((BitVec.ofInt 32 (IntKind.u32.max) ^^^ BitVec.ofInt 32 x.toNat).toNat : Int))) = _
  rw [wrap32, ofInt32]
  have : BitVec.ofInt 32 IntKind.u32.max = BitVec.allOnes 32 := by decide
  rw [this, BitVec.allOnes_xor]; rfl
theorem conv_8_32 {h : AHeap} {x : BitVec 8} : convertA Tryd.prog h 5 69 (B8 x) = some (U (x.setWidth 32)) := by
  have : convertA Tryd.prog h 5 69 (B8 x) = some (.int .u32 (IntKind.u32.wrap (x.toNat : Int))) := by kernel_rfl
  rw [this]
  have hx := x.isLt
  unfold U
  simp only [IntKind.wrap, IntKind.signed, IntKind.bits, Bool.false_and, Bool.false_eq_true, if_false]
  congr 2
  rw [BitVec.toNat_setWidth]
  omega
theorem conv_32_int {h : AHeap} {x : BitVec 32} : convertA Tryd.prog h 69 3 (U x) = some (.int .i64 x.toNat) := by
  have : convertA Tryd.prog h 69 3 (U x) = some (.int .i64 (IntKind.i64.wrap (x.toNat : Int))) := by kernel_rfl
  rw [this]
  have hx := x.isLt
  congr 2
  simp only [IntKind.wrap, IntKind.signed, IntKind.bits, Bool.true_and]
  have : ¬ ((x.toNat : Int) % 2 ^ 64 ≥ 2 ^ 63) := by omega
  simp only [this, decide_false, Bool.false_eq_true, if_false]
  omega

section
variable {cf : CallF} {m : Nat} {h : AHeap}

theorem step21 {x r b5 xx ln i b9 t17 : AV} (hx : Kp [] x) (hr : Kp [] r) (h5 : Kp [] b5) (hxx : Kp [] xx) (hln : Kp [] ln) (hi : Kp [] i) (h9 : Kp [] b9) (c : BitVec 32) (k : Nat) (hk : k < 8) :
    execA Tryd.prog cf (annL 21) m g21L1 ⟨[x, r, U c, b5, xx, ln, i, b9, .int .i64 k, t17], [], h⟩ = some (.norm, ⟨[x, r, U (Crc.bit c), b5, xx, ln, i, b9, .int .i64 (k + 1 : Nat), .bool true], [], h⟩) := by
  have hk8 : ((k : Int) < 8) := by omega
  have hw : IntKind.i64.wrap ((k : Int) + 1) = ((k + 1 : Nat) : Int) := by rw [IntKind.wrap_i64]; omega
  rw [g21L1_eq]
  simp [g21R7, g21R8, g21R9, sub, codeOf, Tryd.f21, annL, execA_seq, execA_block, execA_cond, execA_region, hx _, hr _, h5 _, hxx _, hln _, hi _, h9 _, hk8, hw, poly_and, and_one, shr_one, neg32, conc1U, ofV1U, bin_xor32, keepU, Crc.bit]

theorem end21 {x r b5 xx ln i b9 t17 c : AV} (hx : Kp [] x) (hr : Kp [] r) (hc : Kp [] c) (h5 : Kp [] b5) (hxx : Kp [] xx) (hln : Kp [] ln) (hi : Kp [] i) (h9 : Kp [] b9) :
    execA Tryd.prog cf (annL 21) m g21L1 ⟨[x, r, c, b5, xx, ln, i, b9, .int .i64 (8 : Nat), t17], [], h⟩ = some (.exit 2, ⟨[x, r, c, b5, xx, ln, i, b9, .int .i64 (8 : Nat), .bool false], [], h⟩) := by
  rw [g21L1_eq]
  simp [g21R7, sub, codeOf, Tryd.f21, annL, execA_seq, execA_block, execA_cond, execA_region, hx _, hr _, hc _, h5 _, hxx _, hln _, hi _, h9 _]

theorem bits_succ (k : Nat) (c : BitVec 32) : Crc.bits (k + 1) c = Crc.bit (Crc.bits k c) := Crc.bits_add k 1 c

theorem inner21 {x r b5 xx ln i b9 t17 : AV} (hx : Kp [] x) (hr : Kp [] r) (h5 : Kp [] b5) (hxx : Kp [] xx) (hln : Kp [] ln) (hi : Kp [] i) (h9 : Kp [] b9) (c : BitVec 32) (hm : 8 < m) :
    execA Tryd.prog cf (annL 21) m (.block 2 (.loop g21L1)) ⟨[x, r, U c, b5, xx, ln, i, b9, .int .i64 0, t17], [], h⟩ = some (.norm, ⟨[x, r, U (Crc.bits 8 c), b5, xx, ln, i, b9, .int .i64 (8 : Nat), .bool false], [], h⟩) := by
  obtain ⟨s', h1, h2⟩ := loop_inv (P := Tryd.prog) (cf := cf) (A := annL 21) (m := m) (x := 2) (L := g21L1) (N := 8) (Inv := fun k s => ∃ t17, s = ⟨[x, r, U (Crc.bits k c), b5, xx, ln, i, b9, .int .i64 (k : Nat), t17], [], h⟩)
    (Q := fun s => s = ⟨[x, r, U (Crc.bits 8 c), b5, xx, ln, i, b9, .int .i64 (8 : Nat), .bool false], [], h⟩) ⟨t17, rfl⟩
    (fun k s hk hs => by
      obtain ⟨t, rfl⟩ := hs
      exact ⟨_, step21 hx hr h5 hxx hln hi h9 _ k hk, _, by rw [bits_succ]⟩)
    (fun s hs => by
      obtain ⟨t, rfl⟩ := hs
      exact ⟨_, end21 hx hr (fun _ => rfl) h5 hxx hln hi h9, rfl⟩) hm
  subst h2
  exact h1

/-- What a value holds as bytes. -/
structure Holds (h : AHeap) (x : AV) (l : List (BitVec 8)) : Prop where
  len : lenA Tryd.prog h 25 x = some (.int .i64 (l.length : Nat))
  at_ : ∀ i (hi : i < l.length), ∃ a, indexAddrA Tryd.prog 25 x (.int .i64 (i : Nat)) = some a ∧ ∀ bx, loadA Tryd.prog bx h 5 a = some (B8 l[i])
  kp : Kp [] x

theorem outer21 {x r xx b5 b9 t16 t17 : AV} {l : List (BitVec 8)} (H : Holds h x l) (hr : Kp [] r) (hxx : Kp [] xx) (c : BitVec 32) (i : Nat) (hi : i < l.length) (hl : l.length < 9000000000000000000) (hm : 8 < m) :
    execA Tryd.prog cf (annL 21) m g21L0 ⟨[xx, r, U c, b5, x, .int .i64 (l.length : Nat), .int .i64 (i : Nat), b9, t16, t17], [], h⟩ = some (.norm, ⟨[xx, r, U (Crc.byte c l[i]), B8 l[i], x, .int .i64 (l.length : Nat), .int .i64 (i + 1 : Nat), .bool true, .int .i64 (8 : Nat), .bool false], [], h⟩) := by
  obtain ⟨a, h1, h2⟩ := H.at_ i hi
  have hlt : ((i : Int) < (l.length : Nat)) := by omega
  have hw : IntKind.i64.wrap ((i : Int) + 1) = ((i + 1 : Nat) : Int) := by rw [IntKind.wrap_i64]; omega
  have hx := H.kp
  rw [g21L0_eq]
  have e3 : execA Tryd.prog cf (annL 21) m g21R3 ⟨[xx, r, U c, b5, x, .int .i64 (l.length : Nat), .int .i64 (i : Nat), b9, t16, t17], [], h⟩ = some (.norm, ⟨[xx, r, U c, keepV [] 5 b5, x, .int .i64 (l.length : Nat), .int .i64 (i : Nat), .bool true, keepV [] 16 t16, keepV [] 17 t17], [], h⟩) := by
    simp [g21R3, sub, codeOf, Tryd.f21, annL, execA_region, hx _, hr _, hxx _, keepU, hlt]
  rw [seq_norm e3]
  have ec : execA Tryd.prog cf (annL 21) m (.cond (.tmp 9) .skip (.exit 0)) ⟨[xx, r, U c, keepV [] 5 b5, x, .int .i64 (l.length : Nat), .int .i64 (i : Nat), .bool true, keepV [] 16 t16, keepV [] 17 t17], [], h⟩ = some (.norm, ⟨[xx, r, U c, keepV [] 5 b5, x, .int .i64 (l.length : Nat), .int .i64 (i : Nat), .bool true, keepV [] 16 t16, keepV [] 17 t17], [], h⟩) := by
    simp [annL, execA_cond]
  rw [seq_norm ec]
  have e4 : ∀ b5 t16 t17, ∃ t17', execA Tryd.prog cf (annL 21) m (.seq g21R4 (.seq g21R5 (.seq g21R6 (.block 2 (.loop g21L1))))) ⟨[xx, r, U c, b5, x, .int .i64 (l.length : Nat), .int .i64 (i : Nat), .bool true, t16, t17], [], h⟩ =
      execA Tryd.prog cf (annL 21) m (.block 2 (.loop g21L1)) ⟨[xx, r, U (c ^^^ l[i].setWidth 32), B8 l[i], x, .int .i64 (l.length : Nat), .int .i64 (i : Nat), .bool true, .int .i64 0, t17'], [], h⟩ := by
    intro b5 t16 t17
    refine ⟨keepV [] 17 (keepV [] 17 (keepV [] 17 t17)), ?_⟩
    simp [g21R4, g21R5, g21R6, sub, codeOf, Tryd.f21, annL, execA_seq, execA_region, hx _, hr _, hxx _, keepU, keepB, h1, h2, conv_8_32, bin_xor32]
  obtain ⟨t17', e4⟩ := e4 (keepV [] 5 b5) (keepV [] 16 t16) (keepV [] 17 t17)
  rw [inner21 hxx hr (fun _ => rfl) hx (fun _ => rfl) (fun _ => rfl) (fun _ => rfl) _ hm] at e4
  rw [seq_norm (block_norm e4)]
  simp [g21R10, sub, codeOf, Tryd.f21, annL, execA_region, hx _, hr _, hxx _, keepU, keepB, hw, Crc.byte]

theorem end21b {x r xx b5 b9 t16 t17 c : AV} {n : Nat} (hx : Kp [] x) (hxx : Kp [] xx) (hr : Kp [] r) (hc : Kp [] c) (h5 : Kp [] b5) (h16 : Kp [] t16) (h17 : Kp [] t17) :
    execA Tryd.prog cf (annL 21) m g21L0 ⟨[xx, r, c, b5, x, .int .i64 (n : Nat), .int .i64 (n : Nat), b9, t16, t17], [], h⟩ = some (.exit 0, ⟨[xx, r, c, b5, x, .int .i64 (n : Nat), .int .i64 (n : Nat), .bool false, t16, t17], [], h⟩) := by
  rw [g21L0_eq]
  simp [g21R3, sub, codeOf, Tryd.f21, annL, execA_seq, execA_cond, execA_region, hx _, hxx _, hr _, hc _, h5 _, h16 _, h17 _]

theorem run_take (c : BitVec 32) (l : List (BitVec 8)) (i : Nat) (hi : i < l.length) : Crc.run c (l.take (i + 1)) = Crc.byte (Crc.run c (l.take i)) l[i] := by
  rw [List.take_succ_eq_append_getElem hi, Crc.run_append]; rfl

/-- Sum. -/
theorem sum21 {x : AV} {l : List (BitVec 8)} (H : Holds h x l) (hl : l.length < m) (hl2 : l.length < 9000000000000000000) (hm : 8 < m) :
    bodyA Tryd.prog annL cf m 21 [x] h = some (.int .i64 ((Crc.sum l).toNat : Int), h) := by
  have hx := H.kp
  have hlen := H.len
  have e1 : ∃ b9 t16 t17, Kp [] b9 ∧ Kp [] t16 ∧ Kp [] t17 ∧ execA Tryd.prog cf (annL 21) m (.seq g21R0 (.seq g21R1 (.seq (.seq g21R2 (.block 0 (.loop g21L0))) (.seq g21R11 .ret)))) { vars := argsVars (annL 21).keep [x], bxs := (annL 21).locs.map fun _ => none, h } =
      execA Tryd.prog cf (annL 21) m (.seq (.block 0 (.loop g21L0)) (.seq g21R11 .ret)) ⟨[x, .int .i64 0, U (BitVec.allOnes 32), .any, x, .int .i64 (l.length : Nat), .int .i64 (0 : Nat), b9, t16, t17], [], h⟩ := by
    refine ⟨.any, .any, .any, fun _ => rfl, fun _ => rfl, fun _ => rfl, ?_⟩
    simp [g21R0, g21R1, g21R2, sub, codeOf, Tryd.f21, annL, argsVars, execA_seq, execA_region, hx _, hlen, U]
  obtain ⟨b9, t16, t17, k9, k16, k17, e1⟩ := e1
  obtain ⟨s', h1, b5', b9', t16', t17', h2⟩ := loop_inv (P := Tryd.prog) (cf := cf) (A := annL 21) (m := m) (x := 0) (L := g21L0) (N := l.length)
    (Inv := fun i s => ∃ b5 b9 t16 t17, Kp [] b5 ∧ Kp [] t16 ∧ Kp [] t17 ∧ s = ⟨[x, .int .i64 0, U (Crc.run (BitVec.allOnes 32) (l.take i)), b5, x, .int .i64 (l.length : Nat), .int .i64 (i : Nat), b9, t16, t17], [], h⟩)
    (Q := fun s => ∃ b5 b9 t16 t17, s = ⟨[x, .int .i64 0, U (Crc.run (BitVec.allOnes 32) l), b5, x, .int .i64 (l.length : Nat), .int .i64 (l.length : Nat), b9, t16, t17], [], h⟩)
    ⟨.any, b9, t16, t17, fun _ => rfl, k16, k17, rfl⟩
    (fun i s hi hs => by
      obtain ⟨b5, b9, t16, t17, _, _, _, rfl⟩ := hs
      exact ⟨_, outer21 H (fun _ => rfl) hx _ i hi hl2 hm, B8 l[i], .bool true, _, _, fun _ => rfl, fun _ => rfl, fun _ => rfl, by rw [run_take _ _ _ hi]⟩)
    (fun s hs => by
      obtain ⟨b5, b9, t16, t17, k5, k16, k17, rfl⟩ := hs
      rw [List.take_length]
      exact ⟨_, end21b hx hx (fun _ => rfl) (fun _ => rfl) k5 k16 k17, b5, _, t16, t17, rfl⟩) hl
  have hb : ∃ s'', execA Tryd.prog cf (annL 21) m (codeOf Tryd.f21) { vars := argsVars (annL 21).keep [x], bxs := (annL 21).locs.map fun _ => none, h } = some (.ret, s'') ∧ resultA Tryd.prog (s''.open (annL 21)) Tryd.f21.results.toList = some (.int .i64 ((Crc.sum l).toNat : Int)) ∧ s''.h = h := by
    have e2 := e1.trans (seq_norm (b := .seq g21R11 .ret) h1)
    rw [g21_eq, e2, h2]
    simp [g21R11, sub, codeOf, Tryd.f21, annL, execA_seq, execA_region, not32, conc1U, ofV1U, conv_32_int, resultA, resA, AV.argOK, Crc.sum]
  obtain ⟨s'', g1, g2, g3⟩ := hb
  rw [body_ret Tryd.func21 (by kernel_rfl) (by show 1 ≤ Tryd.f21.ntmps; decide) g1 g2, g3]
end
end Go.Proofs.YtmekcfdllhphlaaDoor
