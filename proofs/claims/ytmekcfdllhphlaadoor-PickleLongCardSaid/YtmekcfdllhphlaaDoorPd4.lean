/- PickleSums: what it computes. -/
import Derived.Test.YtmekcfdllhphlaaDoorPd3
set_option linter.unusedVariables false
set_option linter.unusedSimpArgs false
namespace Go.Proofs.YtmekcfdllhphlaaDoor
open Go Go.R Go.Proofs Go.RowKit Go.Shelf
set_option maxRecDepth 100000
noncomputable def g6R0 : Code := sub [0] (codeOf Tryd.f6)
noncomputable def g6R1 : Code := sub [1, 0, 0] (codeOf Tryd.f6)
noncomputable def g6R2 : Code := sub [1, 0, 1, 0, 0] (codeOf Tryd.f6)
noncomputable def g6R3 : Code := sub [1, 1, 0] (codeOf Tryd.f6)
noncomputable def g6R4 : Code := sub [1, 1, 1, 0] (codeOf Tryd.f6)
noncomputable def g6R5 : Code := sub [1, 1, 1, 1, 0] (codeOf Tryd.f6)
noncomputable def g6R6 : Code := sub [1, 1, 1, 1, 1, 0, 0] (codeOf Tryd.f6)
noncomputable def g6R7 : Code := sub [1, 1, 1, 1, 1, 0, 1, 0, 0] (codeOf Tryd.f6)
noncomputable def g6R8 : Code := sub [1, 1, 1, 1, 1, 1, 0, 0] (codeOf Tryd.f6)
noncomputable def g6R9 : Code := sub [1, 1, 1, 1, 1, 1, 0, 1, 0, 0] (codeOf Tryd.f6)
noncomputable def g6R10 : Code := sub [1, 1, 1, 1, 1, 1, 1, 0] (codeOf Tryd.f6)
noncomputable def g6R11 : Code := sub [1, 1, 1, 1, 1, 1, 1, 1, 0] (codeOf Tryd.f6)
noncomputable def g6R12 : Code := sub [1, 1, 1, 1, 1, 1, 1, 1, 1, 0] (codeOf Tryd.f6)

theorem g6_eq : codeOf Tryd.f6 = (.seq g6R0 (.seq (.seq g6R1 (.cond (.tmp 12) (.seq g6R2 .ret) .skip)) (.seq g6R3 (.seq g6R4 (.seq g6R5 (.seq (.seq g6R6 (.cond (.tmp 43) (.seq g6R7 .ret) .skip)) (.seq (.seq g6R8 (.cond (.tmp 46) (.seq g6R9 .ret) .skip)) (.seq g6R10 (.seq g6R11 (.seq g6R12 .ret)))))))))) := by kernel_rfl
/-- An int that is a number of 32 bits. -/
def I32 (x : BitVec 32) : AV := .int .i64 (x.toNat : Int)
theorem keepI {locs : List Nat} {t : Nat} {x : BitVec 32} : keepV locs t (I32 x) = I32 x := rfl
theorem div_shr (x : BitVec 32) (k : Nat) : ((x.toNat : Int).fdiv ((2 ^ k : Nat) : Int)) = ((x >>> k).toNat : Int) := by
  rw [Int.fdiv_eq_ediv_of_nonneg _ (Int.natCast_nonneg _), BitVec.toNat_ushiftRight, Nat.shiftRight_eq_div_pow]
  rfl
theorem shr8 {t : TypeId} {x : BitVec 32} : binOpA Tryd.prog .shr t (I32 x) (.int .u64 8) = some (I32 (x >>> 8)) := by
  show some (AV.int .i64 ((x.toNat : Int).fdiv ((2 ^ 8 : Nat) : Int))) = _
  rw [div_shr]; rfl
theorem shr16 {t : TypeId} {x : BitVec 32} : binOpA Tryd.prog .shr t (I32 x) (.int .u64 16) = some (I32 (x >>> 16)) := by
  show some (AV.int .i64 ((x.toNat : Int).fdiv ((2 ^ 16 : Nat) : Int))) = _
  rw [div_shr]; rfl
theorem shr24 {t : TypeId} {x : BitVec 32} : binOpA Tryd.prog .shr t (I32 x) (.int .u64 24) = some (I32 (x >>> 24)) := by
  show some (AV.int .i64 ((x.toNat : Int).fdiv ((2 ^ 24 : Nat) : Int))) = _
  rw [div_shr]; rfl
theorem conv_i_8 {h : AHeap} {x : BitVec 32} : convertA Tryd.prog h 3 5 (I32 x) = some (B8 (x.setWidth 8)) := by
  have : convertA Tryd.prog h 3 5 (I32 x) = some (.int .u8 (IntKind.u8.wrap (x.toNat : Int))) := by kernel_rfl
  rw [this]
  unfold B8
  simp only [IntKind.wrap, IntKind.signed, IntKind.bits, Bool.false_and, Bool.false_eq_true, if_false]
  congr 2
theorem lss0 {t : TypeId} {x : BitVec 32} : binOpA Tryd.prog .lss t (I32 x) (.int .i64 0) = some (.bool false) := by
  show some (AV.bool (decide ((x.toNat : Int) < 0))) = _
  rw [decide_eq_false (by omega)]
theorem geq32 {t : TypeId} {x : BitVec 32} : binOpA Tryd.prog .geq t (I32 x) (.int .i64 4294967296) = some (.bool false) := by
  show some (AV.bool (decide ((x.toNat : Int) ≥ 4294967296))) = _
  have := x.isLt
  rw [decide_eq_false (by omega)]
theorem neq_res {t : TypeId} : binOpA Tryd.prog .neq t (I32 0x2144DF1C#32) (.int .i64 558161692) = some (.bool false) := by kernel_rfl
theorem neq32 {t : TypeId} {x y : BitVec 32} (h : x ≠ y) : binOpA Tryd.prog .neq t (I32 x) (I32 y) = some (.bool true) := by
  show some (AV.bool (!((x.toNat : Int) == (y.toNat : Int)))) = _
  have : ¬ (x.toNat : Int) = y.toNat := fun he => h (BitVec.eq_of_toNat_eq (by omega))
  simp [this]

/-- Bytes in a row of their own. -/
theorem holds_rs {h : AHeap} {id n : Nat} {l : List (BitVec 8)} (hg : h.get id = some (.cells (l.map B8))) (hn : n = l.length) : Holds h (.rs id 0 n 1) l := by
  subst hn
  have a5 : isAggT Tryd.prog 5 = some false := by kernel_rfl
  have s5 : szOf Tryd.prog 5 = some 1 := by kernel_rfl
  refine ⟨?_, fun i hi => ⟨.ptr id i, ?_, fun bx => ?_⟩, fun _ => rfl⟩
  · simp [lenA, Tryd.underlying25]
  · have h1 : (0 : Int) ≤ i ∧ (i : Int) < (l.length : Nat) := ⟨by omega, by omega⟩
    simp [indexAddrA, Tryd.underlying25, s5]
    omega
  · simp [loadA, hg, readCs, a5, hi]
theorem holds_fz {h : AHeap} {ex : Bool} {l : List (BitVec 8)} : Holds h (.fz (l.map B8) l.length ex) l := by
  have a5 : isAggT Tryd.prog 5 = some false := by kernel_rfl
  have s5 : szOf Tryd.prog 5 = some 1 := by kernel_rfl
  refine ⟨?_, fun i hi => ⟨.fp (l.map B8) i, ?_, fun bx => ?_⟩, fun _ => rfl⟩
  · simp [lenA, Tryd.underlying25]
  · simp [indexAddrA, Tryd.underlying25, s5]
    omega
  · have hne : l ≠ [] := by rintro rfl; simp at hi
    simp [loadA, readCs, a5, hi, hne]
theorem holds_nil {h : AHeap} : Holds h .nils [] := by
  refine ⟨?_, fun i hi => ?_, fun _ => rfl⟩
  · simp [lenA, Tryd.underlying25]
  · simp at hi

theorem info5 : ∃ i, Tryd.prog.info? 5 = some i ∧ i.size = 1 ∧ i.bytes = 1 ∧ zOK i = true := by
  obtain ⟨i, hi, h0, h1, h2⟩ := info_parts lays179.i5
  refine ⟨i, hi, h1, h2, ?_⟩
  unfold zOK
  rw [h0, h1]
  rfl

/-- A copy of bytes. -/
theorem copy_nil {h : AHeap} {x : AV} (hx : x = .nils ∨ x = .fz [] 0 false) : appendA Tryd.prog h 25 25 (.fz [] 0 true) x = some (.fz [] 0 true, h) := by
  obtain ⟨i, hi, h1, h2, h3⟩ := info5
  rcases hx with rfl | rfl <;> simp [appendA, Tryd.underlying25, hi, h1, h2, h3, cellsOfA, srcOK, roomA]
theorem copy_some {h : AHeap} {l : List (BitVec 8)} {ex : Bool} (hl : l ≠ []) (hl2 : l.length ≤ 2004) (cs : List AV) (n : Nat) (hn : n = cs.length) (hn2 : n ≤ 2004) (hcs : cs = [] ∨ True) :
    appendA Tryd.prog h 25 25 (.fz cs n true) (.fz (l.map B8) l.length ex) = some (.rs h.next 0 (n + l.length) 1, h.alloc (.cells (cs ++ l.map B8))) := by
  obtain ⟨i, hi, h1, h2, h3⟩ := info5
  subst hn
  have hl0 : l.length ≠ 0 := by intro h; exact hl (List.eq_nil_of_length_eq_zero h)
  have a1 : ¬ roomA < cs.length + l.length := by unfold roomA; omega
  have hl' : ¬ l.length = 0 := hl0
  simp [appendA, Tryd.underlying25, hi, h1, h2, h3, cellsOfA, srcOK, a1, hl]
theorem more {h : AHeap} {id n : Nat} {l m : List (BitVec 8)} {ex : Bool} (hg : h.get id = some (.cells (l.map B8))) (hn : n = l.length) (hm : m ≠ []) (hl2 : l.length + m.length ≤ 2004) :
    appendA Tryd.prog h 25 25 (.rs id 0 n 1) (.fz (m.map B8) m.length ex) = some (.rs h.next 0 (n + m.length) 1, (h.kill id).put h.next (.cells ((l ++ m).map B8))) := by
  obtain ⟨i, hi, h1, h2, h3⟩ := info5
  subst hn
  have a1 : ¬ roomA < l.length + m.length := by unfold roomA; omega
  simp [appendA, Tryd.underlying25, hi, h1, h2, h3, cellsOfA, srcOK, a1, hm, hg, List.take_of_length_le]

/-- What the calls answer. -/
structure Calls6 (cf : CallF) : Prop where
  h21 : ∀ h x l, Holds h x l → l.length ≤ 2004 → cf 21 [x] h = some (I32 (Crc.sum l), h)
  h23 : ∀ h x l, Holds h x l → l.length ≤ 2004 → cf 23 [x] h = some (I32 (Crc.sum l), h)
  h13 : ∀ h, cf 13 [] h = some (.bool true, h)
  h22 : ∀ h n, ∃ h', cf 22 [.fz [.int .i64 n] 1 true, .fz [.int .i64 n] 1 true] h = some (.bool true, h')

section
variable {cf : CallF} {m : Nat} {x : AV} {l : List (BitVec 8)} {at_ by_ : Int}
theorem argOK_of (h : Kp [] x) (h2 : x.argOK = true) : True := trivial

theorem long6 (C : Calls6 cf) {h : AHeap} (H : Holds h x l) (hx : x.argOK = true) (hl : ¬ l.length ≤ 2000) :
    ∃ s', execA Tryd.prog cf (annL 6) m (codeOf Tryd.f6) { vars := argsVars (annL 6).keep [x, .int .i64 at_, .int .u8 by_], bxs := (annL 6).locs.map fun _ => none, h } = some (.ret, s') ∧ resultA Tryd.prog (s'.open (annL 6)) Tryd.f6.results.toList = some (.bool true) := by
  have hk := H.kp
  have hlen := H.len
  have h13 := C.h13
  have hgt : ((2000 : Int) < (l.length : Nat)) := by omega
  rw [g6_eq]
  simp [g6R0, g6R1, g6R2, sub, codeOf, Tryd.f6, annL, argsVars, execA_seq, execA_cond, execA_region, hk _, hlen, hgt, h13, resultA, resA, AV.argOK]

def four (n : BitVec 32) : List (BitVec 8) := [n.setWidth 8, (n >>> 8).setWidth 8, (n >>> 16).setWidth 8, (n >>> 24).setWidth 8]

/-- Up to the answer of the first sum. -/
theorem mid6 (C : Calls6 cf) {h h1 h2 : AHeap} {y y2 : AV} (H : Holds h x l) (hl : l.length ≤ 2000) (hx : x.argOK = true) (hy : Kp [] y) (hy2 : y2.argOK = true)
    (ha : appendA Tryd.prog h 25 25 (.fz [] 0 true) x = some (y, h1)) (hb : appendA Tryd.prog h1 25 25 y (.fz ((four (Crc.sum l)).map B8) 4 true) = some (y2, h2)) (H2 : Holds h2 y2 (l ++ four (Crc.sum l))) :
    execA Tryd.prog cf (annL 6) m (codeOf Tryd.f6) { vars := argsVars (annL 6).keep [x, .int .i64 at_, .int .u8 by_], bxs := (annL 6).locs.map fun _ => none, h } =
    execA Tryd.prog cf (annL 6) m (.seq (.seq g6R8 (.cond (.tmp 46) (.seq g6R9 .ret) .skip)) (.seq g6R10 (.seq g6R11 (.seq g6R12 .ret)))) ⟨[x, .int .i64 at_, .int .u8 by_, .bool false, I32 (Crc.sum l), y2, .any, .bool false, .bool false, .any], [], h2⟩ := by
  have hk := H.kp
  have hlen := H.len
  have hk2 := H2.kp
  have hgt : ¬ ((2000 : Int) < (l.length : Nat)) := by omega
  have h21 := C.h21 _ _ _ H (by omega)
  have h21b := C.h21 _ _ _ H2 (by simp [four]; omega)
  rw [show Crc.sum (l ++ four (Crc.sum l)) = 0x2144DF1C#32 from Crc.sum_own l] at h21b
  rw [g6_eq]
  have e0 : execA Tryd.prog cf (annL 6) m g6R0 { vars := argsVars (annL 6).keep [x, .int .i64 at_, .int .u8 by_], bxs := (annL 6).locs.map fun _ => none, h } = some (.norm, ⟨[x, .int .i64 at_, .int .u8 by_, .bool false, .any, .any, .any, .any, .any, .any], [], h⟩) := by
    simp [g6R0, sub, codeOf, Tryd.f6, annL, argsVars, execA_region, hk _]
  have e1 : execA Tryd.prog cf (annL 6) m (.seq g6R1 (.cond (.tmp 12) (.seq g6R2 .ret) .skip)) ⟨[x, .int .i64 at_, .int .u8 by_, .bool false, .any, .any, .any, .any, .any, .any], [], h⟩ = some (.norm, ⟨[x, .int .i64 at_, .int .u8 by_, .bool false, .any, .any, .any, .bool false, .any, .any], [], h⟩) := by
    simp [g6R1, sub, codeOf, Tryd.f6, annL, execA_seq, execA_cond, execA_region, hk _, hlen, hgt]
  have e3 : execA Tryd.prog cf (annL 6) m g6R3 ⟨[x, .int .i64 at_, .int .u8 by_, .bool false, .any, .any, .any, .bool false, .any, .any], [], h⟩ = some (.norm, ⟨[x, .int .i64 at_, .int .u8 by_, .bool false, I32 (Crc.sum l), .any, .any, .bool false, .any, .any], [], h⟩) := by
    simp [g6R3, sub, codeOf, Tryd.f6, annL, execA_region, hk _, h21, hx, keepI]
  have e4 : execA Tryd.prog cf (annL 6) m g6R4 ⟨[x, .int .i64 at_, .int .u8 by_, .bool false, I32 (Crc.sum l), .any, .any, .bool false, .any, .any], [], h⟩ = some (.norm, ⟨[x, .int .i64 at_, .int .u8 by_, .bool false, I32 (Crc.sum l), y, .any, .bool false, .any, .any], [], h1⟩) := by
    have hbs : buildSliceA Tryd.prog 25 0 [] = some (.fz [] 0 true) := by kernel_rfl
    simp [g6R4, sub, codeOf, Tryd.f6, annL, execA_region, hk _, hy _, hbs, ha, keepI]
  have e5 : execA Tryd.prog cf (annL 6) m g6R5 ⟨[x, .int .i64 at_, .int .u8 by_, .bool false, I32 (Crc.sum l), y, .any, .bool false, .any, .any], [], h1⟩ = some (.norm, ⟨[x, .int .i64 at_, .int .u8 by_, .bool false, I32 (Crc.sum l), y2, .any, .bool false, .any, .any], [], h2⟩) := by
    have hbs : ∀ a b c d, buildSliceA Tryd.prog 25 4 [(0, B8 a), (1, B8 b), (2, B8 c), (3, B8 d)] = some (.fz [B8 a, B8 b, B8 c, B8 d] 4 true) := fun a b c d => by kernel_rfl
    have hb' : appendA Tryd.prog h1 25 25 y (.fz [B8 ((Crc.sum l).setWidth 8), B8 ((Crc.sum l >>> 8).setWidth 8), B8 ((Crc.sum l >>> 16).setWidth 8), B8 ((Crc.sum l >>> 24).setWidth 8)] 4 true) = some (y2, h2) := hb
    simp [g6R5, sub, codeOf, Tryd.f6, annL, execA_region, hk _, hy _, hk2 _, hbs, hb', keepI, shr8, shr16, shr24, conv_i_8]
  have e6 : execA Tryd.prog cf (annL 6) m (.seq g6R6 (.cond (.tmp 43) (.seq g6R7 .ret) .skip)) ⟨[x, .int .i64 at_, .int .u8 by_, .bool false, I32 (Crc.sum l), y2, .any, .bool false, .any, .any], [], h2⟩ = some (.norm, ⟨[x, .int .i64 at_, .int .u8 by_, .bool false, I32 (Crc.sum l), y2, .any, .bool false, .bool false, .any], [], h2⟩) := by
    simp [g6R6, sub, codeOf, Tryd.f6, annL, execA_seq, execA_cond, execA_region, hk _, hk2 _, hy2, h21b, keepI, lss0, geq32, neq_res]
  rw [seq_norm e0, seq_norm e1, seq_norm e3, seq_norm e4, seq_norm e5, seq_norm e6]
end
end Go.Proofs.YtmekcfdllhphlaaDoor
