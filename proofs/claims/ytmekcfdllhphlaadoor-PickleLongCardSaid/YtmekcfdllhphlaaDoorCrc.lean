/- CRC-32 over bit vectors: the plain law. -/
set_option linter.unusedVariables false
set_option linter.unusedSimpArgs false
namespace Go.R.Crc

def poly : BitVec 32 := 0xEDB88320#32
/-- One bit. -/
def bit (c : BitVec 32) : BitVec 32 := (c >>> 1) ^^^ (poly &&& -(c &&& 1#32))
def bits : Nat → BitVec 32 → BitVec 32
  | 0, c => c
  | n + 1, c => bits n (bit c)
def byte (c : BitVec 32) (x : BitVec 8) : BitVec 32 := bits 8 (c ^^^ x.setWidth 32)
def run (c : BitVec 32) : List (BitVec 8) → BitVec 32
  | [] => c
  | x :: xs => run (byte c x) xs
def sum (l : List (BitVec 8)) : BitVec 32 := ~~~ run (BitVec.allOnes 32) l

theorem bit_eq (c : BitVec 32) : bit c = if c.getLsbD 0 then (c >>> 1) ^^^ poly else c >>> 1 := by
  unfold bit
  rw [BitVec.and_one_eq_setWidth_ofBool_getLsbD]
  cases c.getLsbD 0
  · have : poly &&& -(BitVec.setWidth 32 (BitVec.ofBool false)) = 0#32 := by decide
    rw [this]; simp
  · have : poly &&& -(BitVec.setWidth 32 (BitVec.ofBool true)) = poly := by decide
    rw [this]; simp

theorem bit_get (c : BitVec 32) (i : Nat) : (bit c).getLsbD i = (c.getLsbD (i + 1) ^^ (c.getLsbD 0 && poly.getLsbD i)) := by
  rw [bit_eq]
  cases h : c.getLsbD 0 <;> simp [BitVec.getLsbD_ushiftRight, Nat.add_comm 1 i]

theorem bit_inj {c d : BitVec 32} (h : bit c = bit d) : c = d := by
  have hg : ∀ i, (bit c).getLsbD i = (bit d).getLsbD i := fun i => by rw [h]
  have h0 : c.getLsbD 0 = d.getLsbD 0 := by
    have := hg 31
    rw [bit_get, bit_get] at this
    have hp : poly.getLsbD 31 = true := by decide
    rw [hp] at this
    have h1 : c.getLsbD (31 + 1) = false := BitVec.getLsbD_of_ge c 32 (by omega)
    have h2 : d.getLsbD (31 + 1) = false := BitVec.getLsbD_of_ge d 32 (by omega)
    rw [h1, h2] at this
    simpa using this
  apply BitVec.eq_of_getLsbD_eq
  intro i hi
  cases i with
  | zero => exact h0
  | succ i =>
    have := hg i
    rw [bit_get, bit_get, h0] at this
    revert this
    cases c.getLsbD (i + 1) <;> cases d.getLsbD (i + 1) <;> cases (d.getLsbD 0 && poly.getLsbD i) <;> simp

theorem bits_inj : ∀ (n : Nat) {c d : BitVec 32}, bits n c = bits n d → c = d
  | 0, _, _, h => h
  | n + 1, _, _, h => bit_inj (bits_inj n h)

theorem xor_right_inj {a b c : BitVec 32} (h : a ^^^ c = b ^^^ c) : a = b := by
  have : (a ^^^ c) ^^^ c = (b ^^^ c) ^^^ c := by rw [h]
  simpa [BitVec.xor_assoc] using this
theorem xor_left_inj {a b c : BitVec 32} (h : c ^^^ a = c ^^^ b) : a = b := by
  rw [BitVec.xor_comm c a, BitVec.xor_comm c b] at h; exact xor_right_inj h

theorem byte_inj {c d : BitVec 32} {x : BitVec 8} (h : byte c x = byte d x) : c = d := xor_right_inj (bits_inj 8 h)
theorem byte_inj_right {c : BitVec 32} {x y : BitVec 8} (h : byte c x = byte c y) : x = y := by
  have := xor_left_inj (bits_inj 8 h)
  have h2 := congrArg (BitVec.setWidth 8) this
  simpa using h2
theorem run_inj : ∀ (l : List (BitVec 8)) {c d : BitVec 32}, run c l = run d l → c = d
  | [], _, _, h => h
  | _ :: xs, _, _, h => byte_inj (run_inj xs h)
theorem run_append : ∀ (l m : List (BitVec 8)) (c : BitVec 32), run c (l ++ m) = run (run c l) m
  | [], _, _ => rfl
  | _ :: xs, m, c => run_append xs m _
/-- One byte turned: another number. -/
theorem sum_set_ne {l : List (BitVec 8)} {i : Nat} (hi : i < l.length) {y : BitVec 8} (hy : l[i] ≠ y) : sum (l.set i y) ≠ sum l := by
  intro h
  have h1 : run (BitVec.allOnes 32) (l.set i y) = run (BitVec.allOnes 32) l := by
    have := congrArg (~~~ ·) h
    simpa [sum] using this
  have h2 : l = l.take i ++ l[i] :: l.drop (i + 1) := by
    rw [List.getElem_cons_drop]; simp
  have h3 : l.set i y = l.take i ++ y :: l.drop (i + 1) := by
    rw [List.set_eq_take_append_cons_drop, if_pos hi]
  rw [h3, run_append, run] at h1
  rw [h2] at h1
  simp only [run_append, run] at h1
  have h4 : (l.take i ++ l[i] :: l.drop (i + 1)).take i = l.take i := by rw [← h2]
  have h5 : (l.take i ++ l[i] :: l.drop (i + 1)).drop (i + 1) = l.drop (i + 1) := by rw [← h2]
  try rw [h4, h5] at h1
  exact hy (byte_inj_right (run_inj _ h1)).symm

theorem bit_shift (x y : BitVec 32) (hy : y.getLsbD 31 = false) : bit (x ^^^ (y <<< 1)) = bit x ^^^ y := by
  apply BitVec.eq_of_getLsbD_eq
  intro i hi
  rw [BitVec.getLsbD_xor, bit_get, bit_get, BitVec.getLsbD_xor, BitVec.getLsbD_xor]
  have h0 : (y <<< 1).getLsbD 0 = false := by simp
  have h1 : (y <<< 1).getLsbD (i + 1) = y.getLsbD i := by
    rw [BitVec.getLsbD_shiftLeft]
    by_cases h : i = 31
    · subst h; rw [hy]; simp
    · have : i + 1 < 32 := by omega
      simp [this]
  rw [h0, h1]
  cases x.getLsbD (i + 1) <;> cases y.getLsbD i <;> cases x.getLsbD 0 <;> cases poly.getLsbD i <;> rfl

theorem bits_shift : ∀ (n : Nat) (x y : BitVec 32), n ≤ 32 → (∀ i, 32 - n ≤ i → y.getLsbD i = false) → bits n (x ^^^ (y <<< n)) = bits n x ^^^ y
  | 0, x, y, _, _ => by simp [bits]
  | n + 1, x, y, hn, h => by
    show bits n (bit (x ^^^ (y <<< (n + 1)))) = bits n (bit x) ^^^ y
    rw [BitVec.shiftLeft_add, bit_shift, bits_shift n _ _ (by omega) fun i hi => h i (by omega)]
    rw [BitVec.getLsbD_shiftLeft]
    have := h (31 - n) (by omega)
    rw [this]; simp

theorem bits_add : ∀ (m n : Nat) (c : BitVec 32), bits (m + n) c = bits n (bits m c)
  | 0, n, c => by rw [Nat.zero_add]; rfl
  | m + 1, n, c => by rw [Nat.add_right_comm]; exact bits_add m n (bit c)

theorem byte_high {i : Nat} (x : BitVec 8) (h : 8 ≤ i) : x.getLsbD i = false := BitVec.getLsbD_of_ge x i h

theorem run_word (s : BitVec 32) (a b c d : BitVec 8) :
    run s [a, b, c, d] = bits 32 (s ^^^ (a.setWidth 32 ^^^ (b.setWidth 32) <<< 8 ^^^ (c.setWidth 32) <<< 16 ^^^ (d.setWidth 32) <<< 24)) := by
  have e : s ^^^ (a.setWidth 32 ^^^ (b.setWidth 32) <<< 8 ^^^ (c.setWidth 32) <<< 16 ^^^ (d.setWidth 32) <<< 24) = (s ^^^ a.setWidth 32) ^^^ ((b.setWidth 32 ^^^ (c.setWidth 32 ^^^ d.setWidth 32 <<< 8) <<< 8) <<< 8) := by
    rw [BitVec.shiftLeft_xor_distrib, BitVec.shiftLeft_xor_distrib, BitVec.shiftLeft_xor_distrib, ← BitVec.shiftLeft_add, ← BitVec.shiftLeft_add, ← BitVec.shiftLeft_add]
    simp only [BitVec.xor_assoc]
  have hw : ∀ (x : BitVec 8) i, (x.setWidth 32).getLsbD i = (decide (i < 32) && x.getLsbD i) := fun x i => by rw [BitVec.getLsbD_setWidth]
  rw [e]
  show byte (byte (byte (byte s a) b) c) d = bits (8 + (8 + (8 + 8))) _
  rw [bits_add 8, bits_add 8, bits_add 8, bits_shift 8 _ _ (by omega)]
  · rw [← BitVec.xor_assoc, bits_shift 8 _ _ (by omega)]
    · rw [← BitVec.xor_assoc, bits_shift 8 _ _ (by omega)]
      · rfl
      · intro i hi
        rw [hw, byte_high d (by omega)]; simp
    · intro i hi
      rw [BitVec.getLsbD_xor, BitVec.getLsbD_shiftLeft, hw, hw, byte_high c (by omega), byte_high d (by omega)]; simp
  · intro i hi
    rw [BitVec.getLsbD_xor, BitVec.getLsbD_shiftLeft, BitVec.getLsbD_xor, BitVec.getLsbD_shiftLeft, hw, hw, hw, byte_high b (by omega), byte_high c (by omega), byte_high d (by omega)]; simp

theorem four (n : BitVec 32) : (n.setWidth 8).setWidth 32 ^^^ ((n >>> 8).setWidth 8).setWidth 32 <<< 8 ^^^ ((n >>> 16).setWidth 8).setWidth 32 <<< 16 ^^^ ((n >>> 24).setWidth 8).setWidth 32 <<< 24 = n := by
  apply BitVec.eq_of_getLsbD_eq
  intro i hi
  simp only [BitVec.getLsbD_xor, BitVec.getLsbD_shiftLeft, BitVec.getLsbD_setWidth, BitVec.getLsbD_ushiftRight]
  by_cases h1 : i < 8
  · have : i < 16 := by omega
    have : i < 24 := by omega
    simp [*]
  · by_cases h2 : i < 16
    · have : i < 24 := by omega
      have a1 : i - 8 < 8 := by omega
      have a2 : 8 + (i - 8) = i := by omega
      have a3 : i - 8 < 32 := by omega
      simp [*]
    · by_cases h3 : i < 24
      · have a1 : i - 16 < 8 := by omega
        have a2 : 16 + (i - 16) = i := by omega
        have a3 : i - 16 < 32 := by omega
        have a4 : ¬ i - 8 < 8 := by omega
        simp [*]
      · have a1 : i - 24 < 8 := by omega
        have a2 : 24 + (i - 24) = i := by omega
        have a3 : i - 24 < 32 := by omega
        have a4 : ¬ i - 8 < 8 := by omega
        have a5 : ¬ i - 16 < 8 := by omega
        simp [*]

/-- Bytes, and their own number behind them: always the same. -/
theorem sum_own (l : List (BitVec 8)) : sum (l ++ [(sum l).setWidth 8, (sum l >>> 8).setWidth 8, (sum l >>> 16).setWidth 8, (sum l >>> 24).setWidth 8]) = 0x2144DF1C#32 := by
  unfold sum
  rw [run_append, run_word]
  rw [four]
  have : run (BitVec.allOnes 32) l ^^^ ~~~ run (BitVec.allOnes 32) l = BitVec.allOnes 32 := by
    apply BitVec.eq_of_getLsbD_eq
    intro i hi
    rw [BitVec.getLsbD_xor, BitVec.getLsbD_not, BitVec.getLsbD_allOnes]
    cases (run (BitVec.allOnes 32) l).getLsbD i <;> simp only [hi, decide_true, Bool.not_false, Bool.not_true, Bool.and_true, Bool.and_false, Bool.xor_false, Bool.xor_true, Bool.false_xor, Bool.true_xor]
  rw [this]
  decide
end Go.R.Crc
