/- PickleSums: to its end. -/
import Derived.Test.YtmekcfdllhphlaaDoorPd4
set_option linter.unusedVariables false
set_option linter.unusedSimpArgs false
namespace Go.Proofs.YtmekcfdllhphlaaDoor
open Go Go.R Go.Proofs Go.RowKit Go.Shelf
set_option maxRecDepth 100000

section
variable {cf : CallF} {m : Nat} {x : AV} {l : List (BitVec 8)} {at_ : Int} {b : BitVec 8}

theorem none6 (C : Calls6 cf) {h h2 : AHeap} {y2 : AV} (H : Holds h x l) (H2 : Holds h2 x l) (hl : l = []) (hy2 : Kp [] y2) (by_ : AV) (hby : Kp [] by_) (n : BitVec 32) :
    ∃ s', execA Tryd.prog cf (annL 6) m (.seq (.seq g6R8 (.cond (.tmp 46) (.seq g6R9 .ret) .skip)) (.seq g6R10 (.seq g6R11 (.seq g6R12 .ret)))) ⟨[x, .int .i64 at_, by_, .bool false, I32 n, y2, .any, .bool false, .bool false, .any], [], h2⟩ = some (.ret, s') ∧ resultA Tryd.prog (s'.open (annL 6)) Tryd.f6.results.toList = some (.bool true) := by
  subst hl
  have hk := H.kp
  have hlen := H2.len
  have h13 := C.h13
  simp [g6R8, g6R9, sub, codeOf, Tryd.f6, annL, execA_seq, execA_cond, execA_region, hk _, hy2 _, hby _, hlen, h13, keepI, resultA, resA, AV.argOK]

/-- Which byte is turned. -/
def place (at_ : Int) (n : Nat) : Nat := ((at_ % 18446744073709551616) % (n : Int)).toNat
theorem place_lt {at_ : Int} {n : Nat} (h : n ≠ 0) : place at_ n < n := by
  unfold place
  have h1 : (0 : Int) ≤ (at_ % 18446744073709551616) % (n : Int) := Int.emod_nonneg _ (by omega)
  have h2 : (at_ % 18446744073709551616) % (n : Int) < (n : Int) := Int.emod_lt_of_pos _ (by omega)
  omega
/-- By what. -/
def turn (b : BitVec 8) : BitVec 8 := BitVec.ofNat 8 (b.toNat % 255 + 1)
theorem turn_ne (b c : BitVec 8) : c ≠ c + turn b := by
  intro h
  have h1 := congrArg BitVec.toNat h
  rw [BitVec.toNat_add] at h1
  unfold turn at h1
  rw [BitVec.toNat_ofNat] at h1
  have := c.isLt
  have := b.isLt
  omega
theorem wrap64u (n : Int) : IntKind.u64.wrap n = n % 18446744073709551616 := by
  simp only [IntKind.wrap, IntKind.signed, IntKind.bits, Bool.false_and, Bool.false_eq_true, if_false]
  omega
theorem conv_u {h : AHeap} {n : Int} : convertA Tryd.prog h 3 40 (.int .i64 n) = some (.int .u64 (n % 18446744073709551616)) := by
  have : convertA Tryd.prog h 3 40 (.int .i64 n) = some (.int .u64 (IntKind.u64.wrap n)) := by kernel_rfl
  rw [this, wrap64u]
theorem conv_s {h : AHeap} {n : Nat} (hn : n < 9000000000000000000) : convertA Tryd.prog h 40 3 (.int .u64 (n : Int)) = some (.int .i64 (n : Int)) := by
  have : convertA Tryd.prog h 40 3 (.int .u64 (n : Int)) = some (.int .i64 (IntKind.i64.wrap (n : Int))) := by kernel_rfl
  have e : IntKind.i64.wrap (n : Int) = n := by rw [IntKind.wrap_i64]; omega
  rw [this, e]
theorem rem_u {t : TypeId} {at_ : Int} {n : Nat} (hn : n ≠ 0) (hn2 : n < 9000000000000000000) : binOpA Tryd.prog .rem t (.int .u64 (at_ % 18446744073709551616)) (.int .u64 ((n : Int) % 18446744073709551616)) = some (.int .u64 (place at_ n : Nat)) := by
  have h0 : ((n : Int) % 18446744073709551616) = n := by omega
  rw [h0]
  have hne : ¬ ((n : Int) = 0) := by omega
  have e : binOpA Tryd.prog .rem t (.int .u64 (at_ % 18446744073709551616)) (.int .u64 (n : Int)) = (pureRun Tryd.prog (Op.intDiv .rem .u64 (at_ % 18446744073709551616) n)).bind ofV1 := rfl
  rw [e]
  unfold Op.intDiv
  simp only [beq_iff_eq, hne, if_false]
  show some (AV.int .u64 (Int.tmod (at_ % 18446744073709551616) n)) = _
  congr 2
  unfold place
  rw [Int.tmod_eq_emod_of_nonneg (by omega)]
  have h1 : (0 : Int) ≤ (at_ % 18446744073709551616) % (n : Int) := Int.emod_nonneg _ (by omega)
  omega
theorem rem_255 {t : TypeId} {b : BitVec 8} : binOpA Tryd.prog .rem t (B8 b) (.int .u8 255) = some (.int .u8 ((b.toNat : Int) % 255)) := by
  show some (AV.int .u8 (Int.tmod (b.toNat : Int) 255)) = _
  rw [Int.tmod_eq_emod_of_nonneg (by omega)]
theorem add_1 {t : TypeId} {b : BitVec 8} : binOpA Tryd.prog .add t (.int .u8 ((b.toNat : Int) % 255)) (.int .u8 1) = some (B8 (turn b)) := by
  show some (AV.int .u8 (IntKind.u8.wrap ((b.toNat : Int) % 255 + 1))) = some (AV.int .u8 ((turn b).toNat : Int))
  unfold turn
  rw [BitVec.toNat_ofNat]
  simp only [IntKind.wrap, IntKind.signed, IntKind.bits, Bool.false_and, Bool.false_eq_true, if_false]
  congr 2
theorem add_8 {t : TypeId} {b c : BitVec 8} : binOpA Tryd.prog .add t (B8 b) (B8 c) = some (B8 (b + c)) := by
  show some (AV.int .u8 (IntKind.u8.wrap ((b.toNat : Int) + (c.toNat : Int)))) = some (AV.int .u8 ((b + c).toNat : Int))
  rw [BitVec.toNat_add]
  simp only [IntKind.wrap, IntKind.signed, IntKind.bits, Bool.false_and, Bool.false_eq_true, if_false]
  congr 2

theorem argOK_rs {i o n z : Nat} : AV.argOK (.rs i o n z) = true := rfl
theorem argOK_fz {cs : List AV} {n : Nat} {ex : Bool} : AV.argOK (.fz cs n ex) = true := rfl
theorem argOK_bool {b : Bool} : AV.argOK (.bool b) = true := rfl

/-- The last steps, when there is a byte. -/
theorem last6 (C : Calls6 cf) {h2 h3 : AHeap} {y2 : AV} {id : Nat} (Hx : ∀ h, Holds h x l) (hx : x.argOK = true) (hl0 : l ≠ []) (hl : l.length ≤ 2000) (hy2 : Kp [] y2)
    (ha : appendA Tryd.prog h2 25 25 (.fz [] 0 true) x = some (.rs id 0 l.length 1, h3)) (hg : h3.get id = some (.cells (l.map B8))) :
    ∃ s', execA Tryd.prog cf (annL 6) m (.seq (.seq g6R8 (.cond (.tmp 46) (.seq g6R9 .ret) .skip)) (.seq g6R10 (.seq g6R11 (.seq g6R12 .ret)))) ⟨[x, .int .i64 at_, B8 b, .bool false, I32 (Crc.sum l), y2, .any, .bool false, .bool false, .any], [], h2⟩ = some (.ret, s') ∧ resultA Tryd.prog (s'.open (annL 6)) Tryd.f6.results.toList = some (.bool true) := by
  have hk := (Hx h2).kp
  have hlen := (Hx h2).len
  have hlen3 := (Hx h3).len
  have hn0 : l.length ≠ 0 := fun h => hl0 (List.eq_nil_of_length_eq_zero h)
  have hne : ¬ ((l.length : Nat) : Int) = 0 := by omega
  have hp := place_lt (at_ := at_) hn0
  have hpl : place at_ l.length < l.length := hp
  have e8 : execA Tryd.prog cf (annL 6) m (.seq g6R8 (.cond (.tmp 46) (.seq g6R9 .ret) .skip)) ⟨[x, .int .i64 at_, B8 b, .bool false, I32 (Crc.sum l), y2, .any, .bool false, .bool false, .any], [], h2⟩ = some (.norm, ⟨[x, .int .i64 at_, B8 b, .bool false, I32 (Crc.sum l), y2, .any, .bool false, .bool false, .bool false], [], h2⟩) := by
    simp [g6R8, sub, codeOf, Tryd.f6, annL, execA_seq, execA_cond, execA_region, hk _, hy2 _, hlen, hl0, keepI, keepB]
  have e10 : execA Tryd.prog cf (annL 6) m g6R10 ⟨[x, .int .i64 at_, B8 b, .bool false, I32 (Crc.sum l), y2, .any, .bool false, .bool false, .bool false], [], h2⟩ = some (.norm, ⟨[x, .int .i64 at_, B8 b, .bool false, I32 (Crc.sum l), y2, .rs id 0 l.length 1, .bool false, .bool false, .bool false], [], h3⟩) := by
    have hbs : buildSliceA Tryd.prog 25 0 [] = some (.fz [] 0 true) := by kernel_rfl
    simp [g6R10, sub, codeOf, Tryd.f6, annL, execA_region, hk _, hy2 _, hbs, ha, keepI, keepB]
  let k := place at_ l.length
  let v := l[k] + turn b
  let h4 := h3.put id (.cells ((l.set k v).map B8))
  obtain ⟨a, a1, a2⟩ := (holds_rs (n := l.length) hg rfl).at_ k hpl
  have a5 : isAggT Tryd.prog 5 = some false := by kernel_rfl
  have s5 : szOf Tryd.prog 5 = some 1 := by kernel_rfl
  have hia : indexAddrA Tryd.prog 25 (.rs id 0 l.length 1) (.int .i64 (place at_ l.length : Nat)) = some (.ptr id k) := by
    simp [indexAddrA, Tryd.underlying25, s5, hpl]
    rfl
  have hld : ∀ bx, loadA Tryd.prog bx h3 5 (.ptr id k) = some (B8 l[k]) := fun bx => by
    rw [hia] at a1
    cases a1
    exact a2 bx
  have hst : writeCs Tryd.prog 5 (l.map B8) k (B8 v) = some ((l.set k v).map B8) := by
    have hc : (B8 v).cells = [B8 v] := rfl
    have hck : AV.cellOK (B8 v) = true := rfl
    have hkl : k + 1 ≤ l.length := hpl
    simp [writeCs, s5, hc, hck, hkl, splice, List.map_set]
  have e11 : execA Tryd.prog cf (annL 6) m g6R11 ⟨[x, .int .i64 at_, B8 b, .bool false, I32 (Crc.sum l), y2, .rs id 0 l.length 1, .bool false, .bool false, .bool false], [], h3⟩ = some (.norm, ⟨[x, .int .i64 at_, B8 b, .bool false, I32 (Crc.sum l), y2, .rs id 0 l.length 1, .bool false, .bool false, .bool false], [], h4⟩) := by
    have r1 := fun t => rem_u (t := t) (at_ := at_) hn0 (by omega)
    have r2 := fun h => conv_s (h := h) (n := place at_ l.length) (by omega)
    simp [g6R11, sub, codeOf, Tryd.f6, annL, execA_region, hk _, hy2 _, hlen3, conv_u, r1, r2, hia, hld, rem_255, add_1, add_8, hst, hg, keepI, keepB, h4, v]
  have H4 : Holds h4 (.rs id 0 l.length 1) (l.set k v) := holds_rs (by show (h3.put id _).get id = _; simp [AHeap.put, beq_nat]) (by simp)
  have h21 := C.h21 h4 _ _ H4 (by simp; omega)
  have h23 := C.h23 h4 _ _ (Hx h4) (by omega)
  have hne2 : Crc.sum (l.set k v) ≠ Crc.sum l := Crc.sum_set_ne hpl (turn_ne _ _)
  obtain ⟨h5, h22⟩ := C.h22 h4 ((Crc.sum l).toNat : Int)
  have h22' : cf 22 [.fz [I32 (Crc.sum l)] 1 true, .fz [I32 (Crc.sum l)] 1 true] h4 = some (.bool true, h5) := h22
  have h13 := C.h13
  have hbs : ∀ n, buildSliceA Tryd.prog 42 1 [(0, I32 n)] = some (.fz [I32 n] 1 true) := fun n => by kernel_rfl
  have hnq := fun t => neq32 (t := t) hne2
  rw [seq_norm e8, seq_norm e10, seq_norm e11]
  simp [g6R12, sub, codeOf, Tryd.f6, annL, execA_seq, execA_region, hk _, hy2 _, hx, h21, h23, h22', h13, hbs, hnq, keepI, keepB, resultA, resA, argOK_rs, argOK_fz, argOK_bool]
end
end Go.Proofs.YtmekcfdllhphlaaDoor
