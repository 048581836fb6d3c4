/- CRC-32 of many zeros: the bits' step as a linear map, squared. -/
import Derived.Test.YtmekcfdllhphlaaDoorCrc
set_option linter.unusedVariables false
set_option linter.unusedSimpArgs false
namespace Go.R.Crc

structure Lin (f : BitVec 32 → BitVec 32) : Prop where
  zero : f 0#32 = 0#32
  xor : ∀ a b, f (a ^^^ b) = f a ^^^ f b
theorem Lin.comp {f g : BitVec 32 → BitVec 32} (hf : Lin f) (hg : Lin g) : Lin fun c => f (g c) :=
  ⟨by rw [hg.zero, hf.zero], fun a b => by rw [hg.xor, hf.xor]⟩
theorem bit_lin : Lin bit where
  zero := by decide
  xor a b := by
    apply BitVec.eq_of_getLsbD_eq
    intro i _
    rw [BitVec.getLsbD_xor, bit_get, bit_get, bit_get, BitVec.getLsbD_xor, BitVec.getLsbD_xor]
    cases a.getLsbD (i + 1) <;> cases b.getLsbD (i + 1) <;> cases a.getLsbD 0 <;> cases b.getLsbD 0 <;> cases poly.getLsbD i <;> rfl
theorem bits_lin : ∀ n, Lin (bits n)
  | 0 => ⟨rfl, fun _ _ => rfl⟩
  | n + 1 => (bits_lin n).comp bit_lin

/-- The low k bits, sent on by what is known of each. -/
def app (M : Nat → BitVec 32) : Nat → BitVec 32 → BitVec 32
  | 0, _ => 0#32
  | k + 1, c => app M k c ^^^ (if c.getLsbD k then M k else 0#32)
theorem app_lin {f : BitVec 32 → BitVec 32} (hf : Lin f) (c : BitVec 32) : ∀ k, app (fun i => f (1#32 <<< i)) k c = f (app (fun i => 1#32 <<< i) k c)
  | 0 => hf.zero.symm
  | k + 1 => by
    show _ ^^^ _ = f (_ ^^^ _)
    rw [hf.xor, app_lin hf c k]
    congr 1
    split
    · rfl
    · exact hf.zero.symm
theorem app_get (c : BitVec 32) : ∀ k, k ≤ 32 → ∀ i, i < 32 → (app (fun i => 1#32 <<< i) k c).getLsbD i = (decide (i < k) && c.getLsbD i)
  | 0, _, i, _ => by simp [app]
  | k + 1, hk, i, hi => by
    show ((app _ k c) ^^^ _).getLsbD i = _
    rw [BitVec.getLsbD_xor, app_get c k (by omega) i hi]
    have h1 : (if c.getLsbD k then 1#32 <<< k else 0#32).getLsbD i = (decide (i = k) && c.getLsbD i) := by
      by_cases hik : i = k
      · subst hik
        cases hc : c.getLsbD i
        · simp
        · rw [if_pos rfl, BitVec.getLsbD_shiftLeft]
          simp [hi]
      · cases hc : c.getLsbD k
        · simp [hik]
        · rw [if_pos rfl, BitVec.getLsbD_shiftLeft]
          have : ¬ (i - k = 0 ∧ k ≤ i) := by omega
          by_cases hlt : i < k
          · simp [hlt, hik]
          · have h0 : i - k ≠ 0 := by omega
            simp [hik, hlt, BitVec.getLsbD_one, h0]
    rw [h1]
    by_cases hik : i = k
    · subst hik; simp
    · have : (decide (i < k + 1)) = decide (i < k) := by simp; omega
      rw [this]; simp [hik]
theorem app_id (c : BitVec 32) : app (fun i => 1#32 <<< i) 32 c = c := by
  apply BitVec.eq_of_getLsbD_eq
  intro i hi
  rw [app_get c 32 (Nat.le_refl _) i hi]
  simp [hi]

/-- A linear map by what it does to each bit. -/
def Rep (M : List (BitVec 32)) (f : BitVec 32 → BitVec 32) : Prop := Lin f ∧ M = (List.range 32).map fun i => f (1#32 <<< i)
def appL : List (BitVec 32) → BitVec 32 → BitVec 32 → BitVec 32
  | [], _, a => a
  | x :: xs, c, a => appL xs (c >>> 1) (if c.getLsbD 0 then a ^^^ x else a)
theorem appL_app : ∀ (n k : Nat) (g : Nat → BitVec 32) (c a : BitVec 32), k + n ≤ 32 → appL ((List.range n).map fun i => g (k + i)) (c >>> k) (a ^^^ app g k c) = a ^^^ app g (k + n) c
  | 0, k, g, c, a, _ => rfl
  | n + 1, k, g, c, a, h => by
    rw [List.range_succ_eq_map, List.map_cons, List.map_map]
    show appL ((List.range n).map fun i => g (k + (i + 1))) ((c >>> k) >>> 1) (if (c >>> k).getLsbD 0 then (a ^^^ app g k c) ^^^ g (k + 0) else a ^^^ app g k c) = _
    have h1 : (c >>> k) >>> 1 = c >>> (k + 1) := (BitVec.shiftRight_add c k 1).symm
    have h2 : (c >>> k).getLsbD 0 = c.getLsbD k := by rw [BitVec.getLsbD_ushiftRight]; rfl
    have h3 : (if (c >>> k).getLsbD 0 then (a ^^^ app g k c) ^^^ g (k + 0) else a ^^^ app g k c) = a ^^^ app g (k + 1) c := by
      rw [h2]
      show _ = a ^^^ (app g k c ^^^ (if c.getLsbD k then g k else 0#32))
      cases c.getLsbD k
      · simp
      · simp [BitVec.xor_assoc]
    rw [h1, h3]
    have h4 : (fun i => g (k + (i + 1))) = fun i => g ((k + 1) + i) := by funext i; congr 1; omega
    rw [h4, appL_app n (k + 1) g c a (by omega)]
    congr 2; omega
theorem Rep.app {M : List (BitVec 32)} {f : BitVec 32 → BitVec 32} (h : Rep M f) (c : BitVec 32) : appL M c 0#32 = f c := by
  have := appL_app 32 0 (fun i => f (1#32 <<< i)) c 0#32 (by omega)
  rw [h.2]
  have e : c >>> 0 = c := by simp
  rw [e] at this
  simp only [Nat.zero_add] at this
  have e2 : (0#32 ^^^ Crc.app (fun i => f (1#32 <<< i)) 0 c) = 0#32 := by simp [Crc.app]
  rw [e2] at this
  rw [this, app_lin h.1, app_id]
  simp
def sq (M : List (BitVec 32)) : List (BitVec 32) := M.map fun x => appL M x 0#32
theorem Rep.sq {M : List (BitVec 32)} {f : BitVec 32 → BitVec 32} (h : Rep M f) : Rep (sq M) fun c => f (f c) := by
  refine ⟨h.1.comp h.1, ?_⟩
  have e : Crc.sq M = M.map f := List.map_congr_left fun x _ => h.app x
  rw [e, h.2, List.map_map]
  rfl
/-- Many bits at once. -/
def pow : Nat → List (BitVec 32)
  | 0 => (List.range 32).map fun i => bit (1#32 <<< i)
  | k + 1 => sq (pow k)
theorem pow_rep : ∀ k, Rep (pow k) (bits (2 ^ k))
  | 0 => ⟨bits_lin 1, rfl⟩
  | k + 1 => by
    have := (pow_rep k).sq
    have e : (fun c => bits (2 ^ k) (bits (2 ^ k) c)) = bits (2 ^ (k + 1)) := by
      funext c
      rw [show 2 ^ (k + 1) = 2 ^ k + 2 ^ k by omega, bits_add]
    rw [e] at this
    exact this
/-- The steps of a number's binary digits, the lowest first. -/
def steps : List Bool → List (BitVec 32) → BitVec 32 → BitVec 32
  | [], _, c => c
  | b :: bs, M, c => steps bs (sq M) (if b then appL M c 0#32 else c)
def val : List Bool → Nat → Nat
  | [], _ => 0
  | b :: bs, k => (if b then 2 ^ k else 0) + val bs (k + 1)
theorem steps_bits : ∀ (bs : List Bool) (k : Nat) (c : BitVec 32), steps bs (pow k) c = bits (val bs k) c
  | [], _, _ => rfl
  | b :: bs, k, c => by
    show steps bs (pow (k + 1)) _ = _
    rw [steps_bits bs (k + 1)]
    show _ = bits ((if b then 2 ^ k else 0) + val bs (k + 1)) c
    rw [bits_add]
    cases b
    · rfl
    · rw [if_pos rfl, if_pos rfl, (pow_rep k).app]

theorem run_zeros : ∀ (n : Nat) (c : BitVec 32), run c (List.replicate n 0#8) = bits (8 * n) c
  | 0, c => rfl
  | n + 1, c => by
    rw [List.replicate_succ]
    show run (byte c 0#8) (List.replicate n 0#8) = _
    rw [run_zeros n, show 8 * (n + 1) = 8 + 8 * n by omega, bits_add]
    simp [byte]

theorem zeros_sum : sum (List.replicate 199996 0#8) = 0x9804e82e#32 := by
  unfold sum
  have e : (8 * 199996 : Nat) = val [false, false, false, false, false, true, true, true, true, false, false, true, false, true, true, false, false, false, false, true, true] 0 := by decide +kernel
  rw [run_zeros, e, ← steps_bits]
  decide +kernel
end Go.R.Crc
