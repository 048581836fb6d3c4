/- Sum of the reference: CRC-32; equal lists of one number. -/
import Derived.Test.YtmekcfdllhphlaaDoorPd2
set_option linter.unusedVariables false
set_option linter.unusedSimpArgs false
namespace Go.Proofs.YtmekcfdllhphlaaDoor
open Go Go.R
set_option maxRecDepth 100000
noncomputable def g23R0 : Code := sub [0] (codeOf Tryd.f23)
noncomputable def g23R1 : Code := sub [1, 0] (codeOf Tryd.f23)
noncomputable def g23R2 : Code := sub [1, 1, 0, 0] (codeOf Tryd.f23)
noncomputable def g23L0 : Code := sub [1, 1, 0, 1, 0, 0] (codeOf Tryd.f23)
noncomputable def g23R3 : Code := sub [1, 1, 0, 1, 0, 0, 0, 0] (codeOf Tryd.f23)
noncomputable def g23R5 : Code := sub [1, 1, 0, 1, 0, 0, 1, 0, 0, 0] (codeOf Tryd.f23)
noncomputable def g23R6 : Code := sub [1, 1, 0, 1, 0, 0, 1, 0, 0, 1, 0] (codeOf Tryd.f23)
noncomputable def g23L1 : Code := sub [1, 1, 0, 1, 0, 0, 1, 0, 0, 1, 1, 0, 0] (codeOf Tryd.f23)
noncomputable def g23R7 : Code := sub [1, 1, 0, 1, 0, 0, 1, 0, 0, 1, 1, 0, 0, 0, 0] (codeOf Tryd.f23)
noncomputable def g23R9 : Code := sub [1, 1, 0, 1, 0, 0, 1, 0, 0, 1, 1, 0, 0, 1, 0, 0, 0] (codeOf Tryd.f23)
noncomputable def g23R10 : Code := sub [1, 1, 0, 1, 0, 0, 1, 0, 0, 1, 1, 0, 0, 1, 0, 0, 1, 0] (codeOf Tryd.f23)
noncomputable def g23R11 : Code := sub [1, 1, 0, 1, 0, 0, 1, 0, 0, 1, 1, 0, 0, 1, 0, 0, 1, 1] (codeOf Tryd.f23)
noncomputable def g23R8 : Code := sub [1, 1, 0, 1, 0, 0, 1, 0, 0, 1, 1, 0, 0, 1, 1] (codeOf Tryd.f23)
noncomputable def g23R4 : Code := sub [1, 1, 0, 1, 0, 0, 1, 1] (codeOf Tryd.f23)
noncomputable def g23R12 : Code := sub [1, 1, 1, 0] (codeOf Tryd.f23)
theorem g23L1_eq : g23L1 = (.seq (.seq g23R7 (.cond (.tmp 20) .skip (.exit 2))) (.seq (.block 3 (.seq g23R9 (.cond (.tmp 25) g23R10 g23R11))) g23R8)) := by kernel_rfl
theorem g23L0_eq : g23L0 = (.seq (.seq g23R3 (.cond (.tmp 9) .skip (.exit 0))) (.seq (.block 1 (.seq g23R5 (.seq g23R6 (.block 2 (.loop g23L1))))) g23R4)) := by kernel_rfl
theorem g23_eq : codeOf Tryd.f23 = (.seq g23R0 (.seq g23R1 (.seq (.seq g23R2 (.block 0 (.loop g23L0))) (.seq g23R12 .ret)))) := by kernel_rfl
noncomputable def g22R0 : Code := sub [0] (codeOf Tryd.f22)
noncomputable def g22R1 : Code := sub [1, 0, 0] (codeOf Tryd.f22)
noncomputable def g22R2 : Code := sub [1, 0, 1, 0, 0] (codeOf Tryd.f22)
noncomputable def g22R3 : Code := sub [1, 1, 0, 0] (codeOf Tryd.f22)
noncomputable def g22L0 : Code := sub [1, 1, 0, 1, 0, 0] (codeOf Tryd.f22)
noncomputable def g22R4 : Code := sub [1, 1, 0, 1, 0, 0, 0, 0] (codeOf Tryd.f22)
noncomputable def g22R6 : Code := sub [1, 1, 0, 1, 0, 0, 1, 0, 0, 0] (codeOf Tryd.f22)
noncomputable def g22R7 : Code := sub [1, 1, 0, 1, 0, 0, 1, 0, 0, 1, 0, 0] (codeOf Tryd.f22)
noncomputable def g22R5 : Code := sub [1, 1, 0, 1, 0, 0, 1, 1] (codeOf Tryd.f22)
noncomputable def g22R8 : Code := sub [1, 1, 1, 0] (codeOf Tryd.f22)
theorem g22L0_eq : g22L0 = (.seq (.seq g22R4 (.cond (.tmp 14) .skip (.exit 0))) (.seq (.block 1 (.seq g22R6 (.cond (.tmp 25) (.seq g22R7 .ret) .skip))) g22R5)) := by kernel_rfl
theorem g22_eq : codeOf Tryd.f22 = (.seq g22R0 (.seq (.seq g22R1 (.cond (.tmp 10) (.seq g22R2 .ret) .skip)) (.seq (.seq g22R3 (.block 0 (.loop g22L0))) (.seq g22R8 .ret)))) := by kernel_rfl
theorem rem_two {t : TypeId} {x : BitVec 32} : binOpA Tryd.prog .rem t (U x) (.int .u32 2) = some (.int .u32 ((x.toNat % 2 : Nat) : Int)) := by
  show some (AV.int .u32 (Int.tmod (x.toNat : Int) 2)) = _
  have h3 : Int.tmod (x.toNat : Int) 2 = ((x.toNat % 2 : Nat) : Int) := by
    rw [Int.tmod_eq_emod_of_nonneg (by omega)]; omega
  rw [h3]
theorem rem_true {t : TypeId} {x : BitVec 32} (h : x.getLsbD 0 = true) : binOpA Tryd.prog .rem t (U x) (.int .u32 2) = some (.int .u32 1) := by
  rw [BitVec.getLsbD, Nat.testBit_zero, decide_eq_true_eq] at h
  rw [rem_two, h]; rfl
theorem rem_false {t : TypeId} {x : BitVec 32} (h : x.getLsbD 0 = false) : binOpA Tryd.prog .rem t (U x) (.int .u32 2) = some (.int .u32 0) := by
  rw [BitVec.getLsbD, Nat.testBit_zero, decide_eq_false_iff_not] at h
  rw [rem_two, show x.toNat % 2 = 0 by omega]; rfl
theorem quo_two {t : TypeId} {x : BitVec 32} : binOpA Tryd.prog .quo t (U x) (.int .u32 2) = some (U (x >>> 1)) := by
  show some (AV.int .u32 (IntKind.u32.wrap (Int.tdiv (x.toNat : Int) 2))) = some (AV.int .u32 ((x >>> 1).toNat : Int))
  have hx := x.isLt
  have h3 : Int.tdiv (x.toNat : Int) 2 = ((x.toNat / 2 : Nat) : Int) := by
    rw [Int.tdiv_eq_ediv_of_nonneg (by omega)]; omega
  rw [h3, half, wrap32]
theorem eql_u32 {t : TypeId} {a b : Int} : binOpA Tryd.prog .eql t (.int .u32 a) (.int .u32 b) = some (.bool (a == b)) := rfl

section
variable {cf : CallF} {m : Nat} {h : AHeap}

theorem step23 {x r i k b9 b20 b25 : AV} (hx : Kp [] x) (hr : Kp [] r) (hi : Kp [] i) (h9 : Kp [] b9) (h20 : Kp [] b20) (h25 : Kp [] b25) (c : BitVec 32) (k : Nat) (hk : k < 8) :
    execA Tryd.prog cf (annL 23) m g23L1 ⟨[x, r, U c, i, .int .i64 (k : Nat), b9, b20, b25], [], h⟩ = some (.norm, ⟨[x, r, U (Crc.bit c), i, .int .i64 (k + 1 : Nat), b9, .bool true, .bool (c.getLsbD 0)], [], h⟩) := by
  have hk8 : ((k : Int) < 8) := by omega
  have hw : IntKind.i64.wrap ((k : Int) + 1) = ((k + 1 : Nat) : Int) := by rw [IntKind.wrap_i64]; omega
  rw [g23L1_eq, Crc.bit_eq]
  cases hb : c.getLsbD 0
  · have hrem := fun t => rem_false (t := t) hb
    simp only [Bool.false_eq_true, if_false]
    simp [g23R7, g23R8, g23R9, g23R10, g23R11, sub, codeOf, Tryd.f23, annL, execA_seq, execA_block, execA_cond, execA_region, hx _, hr _, hi _, h9 _, h20 _, h25 _, hk8, hw, hrem, quo_two, xor_poly, eql_u32, keepU]
  · have hrem := fun t => rem_true (t := t) hb
    simp only [if_true]
    simp [g23R7, g23R8, g23R9, g23R10, g23R11, sub, codeOf, Tryd.f23, annL, execA_seq, execA_block, execA_cond, execA_region, hx _, hr _, hi _, h9 _, h20 _, h25 _, hk8, hw, hrem, quo_two, xor_poly, eql_u32, keepU]

theorem end23 {x r c i b9 b20 b25 : AV} (hx : Kp [] x) (hr : Kp [] r) (hc : Kp [] c) (hi : Kp [] i) (h9 : Kp [] b9) (h20 : Kp [] b20) (h25 : Kp [] b25) :
    execA Tryd.prog cf (annL 23) m g23L1 ⟨[x, r, c, i, .int .i64 (8 : Nat), b9, b20, b25], [], h⟩ = some (.exit 2, ⟨[x, r, c, i, .int .i64 (8 : Nat), b9, .bool false, b25], [], h⟩) := by
  rw [g23L1_eq]
  simp [g23R7, sub, codeOf, Tryd.f23, annL, execA_seq, execA_block, execA_cond, execA_region, hx _, hr _, hc _, hi _, h9 _, h20 _, h25 _]

theorem inner23 {x r i b9 b20 b25 : AV} (hx : Kp [] x) (hr : Kp [] r) (hi : Kp [] i) (h9 : Kp [] b9) (h20 : Kp [] b20) (h25 : Kp [] b25) (c : BitVec 32) (hm : 8 < m) :
    ∃ b25', Kp [] b25' ∧ execA Tryd.prog cf (annL 23) m (.block 2 (.loop g23L1)) ⟨[x, r, U c, i, .int .i64 0, b9, b20, b25], [], h⟩ = some (.norm, ⟨[x, r, U (Crc.bits 8 c), i, .int .i64 (8 : Nat), b9, .bool false, b25'], [], h⟩) := by
  obtain ⟨s', h1, b', k', h2⟩ := loop_inv (P := Tryd.prog) (cf := cf) (A := annL 23) (m := m) (x := 2) (L := g23L1) (N := 8) (Inv := fun k s => ∃ b20 b25, Kp [] b20 ∧ Kp [] b25 ∧ s = ⟨[x, r, U (Crc.bits k c), i, .int .i64 (k : Nat), b9, b20, b25], [], h⟩)
    (Q := fun s => ∃ b25, Kp [] b25 ∧ s = ⟨[x, r, U (Crc.bits 8 c), i, .int .i64 (8 : Nat), b9, .bool false, b25], [], h⟩) ⟨b20, b25, h20, h25, rfl⟩
    (fun k s hk hs => by
      obtain ⟨b20, b25, h20, h25, rfl⟩ := hs
      exact ⟨_, step23 (k := .nilp) hx hr hi h9 h20 h25 _ k hk, _, _, fun _ => rfl, fun _ => rfl, by rw [bits_succ]⟩)
    (fun s hs => by
      obtain ⟨b20, b25, h20, h25, rfl⟩ := hs
      exact ⟨_, end23 hx hr (fun _ => rfl) hi h9 h20 h25, _, h25, rfl⟩) hm
  subst h2
  exact ⟨b', k', h1⟩

theorem outer23 {x r b9 b5 b20 b25 : AV} {l : List (BitVec 8)} (H : Holds h x l) (hr : Kp [] r) (h9 : Kp [] b9) (h5 : Kp [] b5) (h20 : Kp [] b20) (h25 : Kp [] b25) (c : BitVec 32) (i : Nat) (hi : i < l.length) (hl : l.length < 9000000000000000000) (hm : 8 < m) :
    ∃ b25', Kp [] b25' ∧ execA Tryd.prog cf (annL 23) m g23L0 ⟨[x, r, U c, .int .i64 (i : Nat), b5, b9, b20, b25], [], h⟩ = some (.norm, ⟨[x, r, U (Crc.byte c l[i]), .int .i64 (i + 1 : Nat), .int .i64 (8 : Nat), .bool true, .bool false, b25'], [], h⟩) := by
  obtain ⟨a, h1, h2⟩ := H.at_ i hi
  have hlt : ((i : Int) < (l.length : Nat)) := by omega
  have hw : IntKind.i64.wrap ((i : Int) + 1) = ((i + 1 : Nat) : Int) := by rw [IntKind.wrap_i64]; omega
  have hx := H.kp
  have hlen := H.len
  rw [g23L0_eq]
  have e3 : execA Tryd.prog cf (annL 23) m (.seq g23R3 (.cond (.tmp 9) .skip (.exit 0))) ⟨[x, r, U c, .int .i64 (i : Nat), b5, b9, b20, b25], [], h⟩ = some (.norm, ⟨[x, r, U c, .int .i64 (i : Nat), b5, .bool true, b20, b25], [], h⟩) := by
    simp [g23R3, sub, codeOf, Tryd.f23, annL, execA_seq, execA_cond, execA_region, hx _, hr _, h5 _, h20 _, h25 _, keepU, hlt, hlen]
  rw [seq_norm e3]
  have e4 : execA Tryd.prog cf (annL 23) m (.seq g23R5 (.seq g23R6 (.block 2 (.loop g23L1)))) ⟨[x, r, U c, .int .i64 (i : Nat), b5, .bool true, b20, b25], [], h⟩ =
      execA Tryd.prog cf (annL 23) m (.block 2 (.loop g23L1)) ⟨[x, r, U (c ^^^ l[i].setWidth 32), .int .i64 (i : Nat), .int .i64 0, .bool true, b20, b25], [], h⟩ := by
    simp [g23R5, g23R6, sub, codeOf, Tryd.f23, annL, execA_seq, execA_region, hx _, hr _, h20 _, h25 _, h5 _, keepU, keepB, h1, h2, conv_8_32, bin_xor32]
  obtain ⟨b25', k', e5⟩ := inner23 (cf := cf) (m := m) (h := h) (i := .int .i64 (i : Nat)) (b9 := .bool true) hx hr (fun _ => rfl) (fun _ => rfl) h20 h25 (c ^^^ l[i].setWidth 32) hm
  rw [e5] at e4
  refine ⟨b25', k', ?_⟩
  rw [seq_norm (block_norm e4)]
  simp [g23R4, sub, codeOf, Tryd.f23, annL, execA_region, hx _, hr _, k' _, keepU, keepB, hw, Crc.byte]

theorem end23b {x r b9 b5 b20 b25 c : AV} {n : Nat} (hlen : lenA Tryd.prog h 25 x = some (.int .i64 (n : Nat))) (hx : Kp [] x) (hr : Kp [] r) (hc : Kp [] c) (h9 : Kp [] b9) (h5 : Kp [] b5) (h20 : Kp [] b20) (h25 : Kp [] b25) :
    execA Tryd.prog cf (annL 23) m g23L0 ⟨[x, r, c, .int .i64 (n : Nat), b5, b9, b20, b25], [], h⟩ = some (.exit 0, ⟨[x, r, c, .int .i64 (n : Nat), b5, .bool false, b20, b25], [], h⟩) := by
  rw [g23L0_eq]
  simp [g23R3, sub, codeOf, Tryd.f23, annL, execA_seq, execA_cond, execA_region, hx _, hr _, hc _, h5 _, h20 _, h25 _, hlen]

/-- The reference's Sum. -/
theorem sum23 {x : AV} {l : List (BitVec 8)} (H : Holds h x l) (hl : l.length < m) (hl2 : l.length < 9000000000000000000) (hm : 8 < m) :
    bodyA Tryd.prog annL cf m 23 [x] h = some (.int .i64 ((Crc.sum l).toNat : Int), h) := by
  have hx := H.kp
  have hlen := H.len
  have e1 : execA Tryd.prog cf (annL 23) m (.seq g23R0 (.seq g23R1 (.seq (.seq g23R2 (.block 0 (.loop g23L0))) (.seq g23R12 .ret)))) { vars := argsVars (annL 23).keep [x], bxs := (annL 23).locs.map fun _ => none, h } =
      execA Tryd.prog cf (annL 23) m (.seq (.block 0 (.loop g23L0)) (.seq g23R12 .ret)) ⟨[x, .int .i64 0, U (BitVec.allOnes 32), .int .i64 (0 : Nat), .any, .any, .any, .any], [], h⟩ := by
    simp [g23R0, g23R1, g23R2, sub, codeOf, Tryd.f23, annL, argsVars, execA_seq, execA_region, hx _, hlen, U]
  obtain ⟨s', h1, b5', b9', b20', b25', h2⟩ := loop_inv (P := Tryd.prog) (cf := cf) (A := annL 23) (m := m) (x := 0) (L := g23L0) (N := l.length)
    (Inv := fun i s => ∃ b5 b9 b20 b25, Kp [] b5 ∧ Kp [] b9 ∧ Kp [] b20 ∧ Kp [] b25 ∧ s = ⟨[x, .int .i64 0, U (Crc.run (BitVec.allOnes 32) (l.take i)), .int .i64 (i : Nat), b5, b9, b20, b25], [], h⟩)
    (Q := fun s => ∃ b5 b9 b20 b25, s = ⟨[x, .int .i64 0, U (Crc.run (BitVec.allOnes 32) l), .int .i64 (l.length : Nat), b5, b9, b20, b25], [], h⟩)
    ⟨.any, .any, .any, .any, fun _ => rfl, fun _ => rfl, fun _ => rfl, fun _ => rfl, rfl⟩
    (fun i s hi hs => by
      obtain ⟨b5, b9, b20, b25, k5, k9, k20, k25, rfl⟩ := hs
      obtain ⟨b', k', e⟩ := outer23 (cf := cf) (m := m) (r := .int .i64 0) H (fun _ => rfl) k9 k5 k20 k25 (Crc.run (BitVec.allOnes 32) (l.take i)) i hi hl2 hm
      exact ⟨_, e, _, _, _, _, fun _ => rfl, fun _ => rfl, fun _ => rfl, k', by rw [run_take _ _ _ hi]⟩)
    (fun s hs => by
      obtain ⟨b5, b9, b20, b25, k5, k9, k20, k25, rfl⟩ := hs
      rw [List.take_length]
      exact ⟨_, end23b hlen hx (fun _ => rfl) (fun _ => rfl) k9 k5 k20 k25, b5, _, b20, b25, rfl⟩) hl
  have hb : ∃ s'', execA Tryd.prog cf (annL 23) m (codeOf Tryd.f23) { vars := argsVars (annL 23).keep [x], bxs := (annL 23).locs.map fun _ => none, h } = some (.ret, s'') ∧ resultA Tryd.prog (s''.open (annL 23)) Tryd.f23.results.toList = some (.int .i64 ((Crc.sum l).toNat : Int)) ∧ s''.h = h := by
    have e2 := e1.trans (seq_norm (b := .seq g23R12 .ret) h1)
    rw [g23_eq, e2, h2]
    simp [g23R12, sub, codeOf, Tryd.f23, annL, execA_seq, execA_region, xor_ones, conv_32_int, resultA, resA, AV.argOK, Crc.sum]
  obtain ⟨s'', g1, g2, g3⟩ := hb
  rw [body_ret Tryd.func23 (by kernel_rfl) (by show 1 ≤ Tryd.f23.ntmps; decide) g1 g2, g3]

/-- Lists of one number each, the same one. -/
theorem ints22 (n : Int) (hm : 4 < m) : ∃ h', bodyA Tryd.prog annL cf m 22 [.fz [.int .i64 n] 1 true, .fz [.int .i64 n] 1 true] h = some (.bool true, h') := by
  obtain ⟨m, rfl⟩ : ∃ k, m = k + 2 := ⟨m - 2, by omega⟩
  let X : AV := .fz [.int .i64 n] 1 true
  have e0 : execA Tryd.prog cf (annL 22) (m + 2) (.seq g22R0 (.seq g22R1 (.cond (.tmp 10) (.seq g22R2 .ret) .skip))) { vars := argsVars (annL 22).keep [X, X], bxs := (annL 22).locs.map fun _ => none, h } = some (.norm, ⟨[X, X, .bool false, .any, .bool false, .any, .any], [], h⟩) := by kernel_rfl
  have e3 : execA Tryd.prog cf (annL 22) (m + 2) g22R3 ⟨[X, X, .bool false, .any, .bool false, .any, .any], [], h⟩ = some (.norm, ⟨[X, X, .bool false, .int .i64 0, .bool false, .any, .any], [], h⟩) := by kernel_rfl
  have e4 : execA Tryd.prog cf (annL 22) (m + 2) (.seq g22R4 (.cond (.tmp 14) .skip (.exit 0))) ⟨[X, X, .bool false, .int .i64 0, .bool false, .any, .any], [], h⟩ = some (.norm, ⟨[X, X, .bool false, .int .i64 0, .bool false, .bool true, .any], [], h⟩) := by kernel_rfl
  have e6 : execA Tryd.prog cf (annL 22) (m + 2) g22R6 ⟨[X, X, .bool false, .int .i64 0, .bool false, .bool true, .any], [], h⟩ = some (.norm, ⟨[X, X, .bool false, .int .i64 0, .bool false, .bool true, .bool (!(n == n))], [], h⟩) := by kernel_rfl
  have e7 : execA Tryd.prog cf (annL 22) (m + 2) (.cond (.tmp 25) (.seq g22R7 .ret) .skip) ⟨[X, X, .bool false, .int .i64 0, .bool false, .bool true, .bool false], [], h⟩ = some (.norm, ⟨[X, X, .bool false, .int .i64 0, .bool false, .bool true, .bool false], [], h⟩) := by kernel_rfl
  have e5 : execA Tryd.prog cf (annL 22) (m + 2) g22R5 ⟨[X, X, .bool false, .int .i64 0, .bool false, .bool true, .bool false], [], h⟩ = some (.norm, ⟨[X, X, .bool false, .int .i64 1, .bool false, .bool true, .bool false], [], h⟩) := by kernel_rfl
  have e4' : execA Tryd.prog cf (annL 22) (m + 2) g22L0 ⟨[X, X, .bool false, .int .i64 1, .bool false, .bool true, .bool false], [], h⟩ = some (.exit 0, ⟨[X, X, .bool false, .int .i64 1, .bool false, .bool false, .bool false], [], h⟩) := by kernel_rfl
  have eL : execA Tryd.prog cf (annL 22) (m + 2) g22L0 ⟨[X, X, .bool false, .int .i64 0, .bool false, .any, .any], [], h⟩ = some (.norm, ⟨[X, X, .bool false, .int .i64 1, .bool false, .bool true, .bool false], [], h⟩) := by
    have hn : (!(n == n)) = false := by simp
    rw [hn] at e6
    rw [g22L0_eq, seq_norm e4, seq_norm (block_norm ((seq_norm e6).trans e7)), e5]
  have eB : execA Tryd.prog cf (annL 22) (m + 2) (.block 0 (.loop g22L0)) ⟨[X, X, .bool false, .int .i64 0, .bool false, .any, .any], [], h⟩ = some (.norm, ⟨[X, X, .bool false, .int .i64 1, .bool false, .bool false, .bool false], [], h⟩) := by
    rw [execA_block, execA_loop, iterA_succ, eL, Option.bind_some]
    simp only
    rw [iterA_succ, e4']
    rfl
  have e8 : execA Tryd.prog cf (annL 22) (m + 2) (.seq g22R8 .ret) ⟨[X, X, .bool false, .int .i64 1, .bool false, .bool false, .bool false], [], h⟩ = some (.ret, ⟨[X, X, .bool true, .int .i64 1, .bool false, .bool false, .bool false], [], h⟩) := by kernel_rfl
  have hall : execA Tryd.prog cf (annL 22) (m + 2) (codeOf Tryd.f22) { vars := argsVars (annL 22).keep [X, X], bxs := (annL 22).locs.map fun _ => none, h } = some (.ret, ⟨[X, X, .bool true, .int .i64 1, .bool false, .bool false, .bool false], [], h⟩) := by
    have hz : ∀ (a b c : Code) (s : St), execA Tryd.prog cf (annL 22) (m + 2) (.seq a (.seq b c)) s = execA Tryd.prog cf (annL 22) (m + 2) (.seq (.seq a b) c) s := by
      intro a b c s
      simp only [execA_seq]
      cases execA Tryd.prog cf (annL 22) (m + 2) a s with
      | none => rfl
      | some r => obtain ⟨e, s'⟩ := r; cases e <;> rfl
    rw [g22_eq, hz, seq_norm e0, seq_norm ((seq_norm e3).trans eB), e8]
  exact ⟨_, body_ret Tryd.func22 (by kernel_rfl) (by show 2 ≤ Tryd.f22.ntmps; decide) hall (by kernel_rfl)⟩
end
end Go.Proofs.YtmekcfdllhphlaaDoor
