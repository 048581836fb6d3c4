/- The relation between abstract and true memory. -/
import Derived.Test.YtmekcfdllhphlaaDoorRCore
import Derived.Below
import Derived.Laws.World
import Derived.Laws.Sem
set_option linter.unusedVariables false
set_option linter.unusedSimpArgs false
namespace Go.R
open Go

/-- A heap after some changes: what bears its old stamp is as it was. -/
structure Steady (h h' : AHeap) : Prop where
  next : h.next ≤ h'.next
  keep : ∀ id, (h'.ver id = h.ver id ∧ h'.get id = h.get id) ∨ h.next ≤ h'.ver id
  wf : (∀ id, h.ver id < h.next) → ∀ id, h'.ver id < h'.next

theorem Steady.refl (h : AHeap) : Steady h h := ⟨Nat.le_refl _, fun _ => .inl ⟨rfl, rfl⟩, fun h => h⟩
theorem Steady.trans {h h' h'' : AHeap} (a : Steady h h') (b : Steady h' h'') : Steady h h'' :=
  ⟨Nat.le_trans a.next b.next, fun id => by
    rcases b.keep id with ⟨h1, h2⟩ | h1
    · rcases a.keep id with ⟨h3, h4⟩ | h3
      · exact .inl ⟨h1.trans h3, h2.trans h4⟩
      · exact .inr (by rw [h1]; exact h3)
    · exact .inr (Nat.le_trans a.next h1), fun h => b.wf (a.wf h)⟩
theorem beq_nat (a b : Nat) : Nat.beq a b = decide (a = b) := by
  by_cases h : a = b
  · subst h; simp
  · cases hb : Nat.beq a b with
    | true => exact absurd (Nat.eq_of_beq_eq_true hb) h
    | false => simp [h]
theorem Steady.put (h : AHeap) (id : Nat) (o : AObj) : Steady h (h.put id o) := by
  refine ⟨Nat.le_succ _, fun i => ?_, fun hw i => ?_⟩
  · by_cases hi : i = id
    · right; simp [AHeap.put, beq_nat, hi]
    · left; simp [AHeap.put, beq_nat, hi]
  · have := hw i
    by_cases hi : i = id
    · simp [AHeap.put, beq_nat, hi]
    · simp only [AHeap.put, beq_nat, hi, decide_false, cond_false]; omega
theorem Steady.kill (h : AHeap) (id : Nat) : Steady h (h.kill id) := by
  refine ⟨Nat.le_succ _, fun i => ?_, fun hw i => ?_⟩
  · by_cases hi : i = id
    · right; simp [AHeap.kill, beq_nat, hi]
    · left; simp [AHeap.kill, beq_nat, hi]
  · have := hw i
    by_cases hi : i = id
    · simp [AHeap.kill, beq_nat, hi]
    · simp only [AHeap.kill, beq_nat, hi, decide_false, cond_false]; omega

structure Cx where
  β : Nat → Nat × Nat
  h : AHeap
  w : World
  base : Nat

def Live (h : AHeap) (id : Nat) : Prop := id < h.next ∧ (h.get id).isSome = true

/-- A block that nobody writes any more. -/
def RO (c : Cx) (L : Nat → Prop) (b : Nat) : Prop := (∀ id, Live c.h id → (c.β id).1 ≠ b) ∧ ¬ L b

def Cx.len (c : Cx) (b : Nat) : Nat := ((c.w.shape? b).map (·.2)).getD 0

mutual
def VR (c : Cx) (L : Nat → Prop) : AV → Value → Prop
  | .any, _ => True
  | .bool b, v => v = .bool b
  | .int k n, v => v = .int k n
  | .str s, v => v = .string s
  | .nilp, v => v = .pointer none
  | .ptr id off, v => id < c.h.next ∧ ∃ a, v = .pointer (some a) ∧ (Live c.h id → a = ⟨(c.β id).1, (c.β id).2 + off, none⟩)
  | .lp _ _, _ => False
  | .fp cs off, v => ∃ b o, v = .pointer (some ⟨b, o + off, none⟩) ∧ (cs = [] ∨ (RO c L b ∧ Cells c L cs b o))
  | .nils, v => v = .slice none 0 0
  | .fz cs n ex, v => ∃ a cap, v = .slice a n cap ∧ n ≤ cap ∧ (ex = true → cap = n) ∧ a.isSome = true ∧ (cs = [] ∨ ∃ b o, a = some ⟨b, o, none⟩ ∧ RO c L b ∧ (ex = true → c.base ≤ b) ∧ Cells c L cs b o)
  | .rs id off len esz, v => id < c.h.next ∧ ∃ a cap, v = .slice a len cap ∧ len ≤ cap ∧ a.isSome = true ∧ (Live c.h id → (a = some ⟨(c.β id).1, (c.β id).2 + off, none⟩ ∧ (c.β id).2 + off + cap * esz = c.len (c.β id).1) ∨ cap = 0)
  | .nilm, v => v = .map none
  | .mp id, v => id < c.h.next ∧ ∃ r, v = .map (some r) ∧ (Live c.h id → r = (c.β id).1)
  | .fn f cap, v => ∃ vs : Array Value, v = .func (.func f) #[] vs ∧ VRs c L cap vs.toList
  | .nilf, v => v = .nilFunc
  | .agg cs, v => ∃ vs : Array Value, v = .agg vs ∧ VRs c L cs vs.toList
  | .tup cs, v => ∃ vs : Array Value, v = .tuple vs ∧ VRs c L cs vs.toList
def VRs (c : Cx) (L : Nat → Prop) : List AV → List Value → Prop
  | [], [] => True
  | x :: xs, v :: vs => VR c L x v ∧ VRs c L xs vs
  | _, _ => False
def Cells (c : Cx) (L : Nat → Prop) : List AV → Nat → Nat → Prop
  | [], _, _ => True
  | x :: xs, b, o => (∃ v, c.w.cell? ⟨b, o, none⟩ = some v ∧ v.oneCell' = true ∧ VR c L x v) ∧ Cells c L xs b (o + 1)
end

/-- A block's cells are as they were; a mark behind its end may have been laid. -/
def Keeps (w w' : World) (b : Nat) : Prop :=
  w'.heap[b]? = w.heap[b]? ∨ ∃ (C : Array Value) (e lo hi lo' hi' : Nat), w.heap[b]? = some (.cells C e (lo, hi)) ∧ w'.heap[b]? = some (.cells C e (lo', hi')) ∧ ((lo = hi ∨ C.size ≤ lo) → (lo' = hi' ∨ C.size ≤ lo'))

theorem Keeps.refl (w : World) (b : Nat) : Keeps w w b := .inl rfl
theorem Keeps.trans {w w' w'' : World} {b : Nat} (h : Keeps w w' b) (k : Keeps w' w'' b) : Keeps w w'' b := by
  rcases h with h | ⟨C, e, lo, hi, lo', hi', h1, h2, h3⟩ <;> rcases k with k | ⟨C', e', l1, i1, l2, i2, k1, k2, k3⟩
  · exact .inl (k.trans h)
  · exact .inr ⟨C', e', l1, i1, l2, i2, h ▸ k1, k2, k3⟩
  · exact .inr ⟨C, e, lo, hi, lo', hi', h1, k.trans h2, h3⟩
  · rw [h2] at k1
    simp only [Option.some.injEq, Obj.cells.injEq, Prod.mk.injEq] at k1
    obtain ⟨rfl, rfl, rfl, rfl⟩ := k1
    exact .inr ⟨C, e, lo, hi, l2, i2, h1, k2, fun x => k3 (h3 x)⟩
theorem Keeps.cell {w w' : World} {b : Nat} (h : Keeps w w' b) (o : Nat) : w'.cell? ⟨b, o, none⟩ = w.cell? ⟨b, o, none⟩ := by
  rcases h with h | ⟨C, e, lo, hi, lo', hi', h1, h2, _⟩
  · simp only [World.cell?, h]
  · simp only [World.cell?, h1, h2]

/-- From c on, the frame's own blocks being Lo, then Lo'. -/
structure Ext (c : Cx) (Lo : Nat → Prop) (c' : Cx) (Lo' : Nat → Prop) : Prop where
  next : c.h.next ≤ c'.h.next
  live : ∀ id, id < c.h.next → Live c'.h id → Live c.h id ∧ c'.β id = c.β id ∧ c'.len (c.β id).1 = c.len (c.β id).1
  size : c.w.heap.size ≤ c'.w.heap.size
  keep : ∀ b, b < c.w.heap.size → ¬ Lo b → (∀ id, Live c.h id → (c.β id).1 ≠ b) → Keeps c.w c'.w b
  exact : ∀ b, b < c.base → c'.w.heap[b]? = c.w.heap[b]?
  base : c'.base = c.base
  img : ∀ id, Live c'.h id → c.w.heap.size ≤ (c'.β id).1 ∨ ∃ id0, Live c.h id0 ∧ (c.β id0).1 = (c'.β id).1
  own : ∀ b, Lo b → Lo' b
  grow : ∀ b, Lo' b → Lo b ∨ c.w.heap.size ≤ b
  os : c'.w.os = c.w.os
  tape : c'.w.tape = c.w.tape
  output : c'.w.output = c.w.output

theorem Ext.refl (c : Cx) (Lo : Nat → Prop) : Ext c Lo c Lo :=
  ⟨Nat.le_refl _, fun _ _ h => ⟨h, rfl, rfl⟩, Nat.le_refl _, fun _ _ _ _ => .inl rfl, fun _ _ => rfl, rfl, fun id h => .inr ⟨id, h, rfl⟩, fun _ h => h, fun _ h => .inl h, rfl, rfl, rfl⟩

theorem Ext.trans {c c' c'' : Cx} {L L' L'' : Nat → Prop} (h : Ext c L c' L') (k : Ext c' L' c'' L'') : Ext c L c'' L'' where
  next := Nat.le_trans h.next k.next
  live := fun id hi hl => by
    obtain ⟨l1, b1, s1⟩ := k.live id (Nat.lt_of_lt_of_le hi h.next) hl
    obtain ⟨l0, b0, s0⟩ := h.live id hi l1
    refine ⟨l0, b1.trans b0, ?_⟩
    rw [b0] at s1
    exact s1.trans s0
  size := Nat.le_trans h.size k.size
  keep := fun b hb hL hi => by
    have e1 := h.keep b hb hL hi
    refine e1.trans (k.keep b (Nat.lt_of_lt_of_le hb h.size) (fun hL' => ?_) (fun id hl he => ?_))
    · rcases h.grow b hL' with h1 | h1
      · exact hL h1
      · omega
    · rcases h.img id hl with h1 | ⟨id0, h1, h2⟩
      · omega
      · exact hi id0 h1 (h2.trans he)
  exact := fun b hb => (k.exact b (h.base ▸ hb)).trans (h.exact b hb)
  base := k.base.trans h.base
  img := fun id hl => by
    rcases k.img id hl with h1 | ⟨id1, h1, h2⟩
    · exact .inl (Nat.le_trans h.size h1)
    · rcases h.img id1 h1 with h3 | ⟨id0, h3, h4⟩
      · exact .inl (h2 ▸ h3)
      · exact .inr ⟨id0, h3, h4.trans h2⟩
  own := fun b hb => k.own b (h.own b hb)
  grow := fun b hb => by
    rcases k.grow b hb with h1 | h1
    · exact h.grow b h1
    · exact .inr (Nat.le_trans h.size h1)
  os := k.os.trans h.os
  tape := k.tape.trans h.tape
  output := k.output.trans h.output

def un (L0 Lo : Nat → Prop) : Nat → Prop := fun b => L0 b ∨ Lo b

theorem cell_block {w w' : World} {b : Nat} (h : w'.heap[b]? = w.heap[b]?) (o : Nat) : w'.cell? ⟨b, o, none⟩ = w.cell? ⟨b, o, none⟩ := by
  simp only [World.cell?, h]

theorem RO.ext {c c' : Cx} {L0 Lo Lo' : Nat → Prop} {b : Nat} (h : RO c (un L0 Lo) b) (e : Ext c Lo c' Lo') (hb : b < c.w.heap.size) : RO c' (un L0 Lo') b := by
  refine ⟨fun id hl he => ?_, fun hL => ?_⟩
  · rcases e.img id hl with h1 | ⟨id0, h1, h2⟩
    · omega
    · exact h.1 id0 h1 (h2.trans he)
  · rcases hL with h1 | h1
    · exact h.2 (.inl h1)
    · rcases e.grow b h1 with h2 | h2
      · exact h.2 (.inr h2)
      · omega

theorem Ext.cell {c c' : Cx} {L0 Lo Lo' : Nat → Prop} {b : Nat} (e : Ext c Lo c' Lo') (h : RO c (un L0 Lo) b) (hb : b < c.w.heap.size) (o : Nat) : c'.w.cell? ⟨b, o, none⟩ = c.w.cell? ⟨b, o, none⟩ :=
  (e.keep b hb (fun h1 => h.2 (.inr h1)) h.1).cell o

theorem live_ext {c c' : Cx} {Lo Lo' : Nat → Prop} (e : Ext c Lo c' Lo') {id : Nat} (hi : id < c.h.next) : id < c'.h.next := Nat.lt_of_lt_of_le hi e.next

theorem cells_size {c : Cx} {L : Nat → Prop} {x : AV} {cs : List AV} {b o : Nat} (h : Cells c L (x :: cs) b o) : b < c.w.heap.size := by
  obtain ⟨⟨v, hv, _⟩, _⟩ := h
  exact World.block_lt_of_cell? c.w ⟨b, o, none⟩ hv

mutual
theorem VR.ext {c c' : Cx} {L0 Lo Lo' : Nat → Prop} (e : Ext c Lo c' Lo') : ∀ (x : AV) (v : Value), VR c (un L0 Lo) x v → VR c' (un L0 Lo') x v
  | .any, _, _ => trivial
  | .bool _, _, h => h
  | .int _ _, _, h => h
  | .str _, _, h => h
  | .nilp, _, h => h
  | .ptr id off, v, h => by
    simp only [VR] at h ⊢
    obtain ⟨hi, a, rfl, ha⟩ := h
    refine ⟨live_ext e hi, a, rfl, fun hl => ?_⟩
    obtain ⟨l0, b0, _⟩ := e.live id hi hl
    rw [b0]
    exact ha l0
  | .lp _ _, _, h => h
  | .fp cs off, v, h => by
    simp only [VR] at h ⊢
    obtain ⟨b, o, rfl, hc⟩ := h
    refine ⟨b, o, rfl, ?_⟩
    rcases hc with hc | ⟨hr, hc⟩
    · exact .inl hc
    · cases cs with
      | nil => exact .inl rfl
      | cons x xs => exact .inr ⟨hr.ext e (cells_size hc), Cells.ext e (x :: xs) b o hr (cells_size hc) hc⟩
  | .nils, _, h => h
  | .fz cs n ex, v, h => by
    simp only [VR] at h ⊢
    obtain ⟨a, cap, rfl, h1, h2, hs, hc⟩ := h
    refine ⟨a, cap, rfl, h1, h2, hs, ?_⟩
    rcases hc with hc | ⟨b, o, ha, hr, hex, hc⟩
    · exact .inl hc
    · cases cs with
      | nil => exact .inl rfl
      | cons x xs => exact .inr ⟨b, o, ha, hr.ext e (cells_size hc), by rw [e.base]; exact hex, Cells.ext e (x :: xs) b o hr (cells_size hc) hc⟩
  | .rs id off len esz, v, h => by
    simp only [VR] at h ⊢
    obtain ⟨hi, a, cap, rfl, h1, h3, h2⟩ := h
    refine ⟨live_ext e hi, a, cap, rfl, h1, h3, fun hl => ?_⟩
    obtain ⟨l0, b0, s0⟩ := e.live id hi hl
    rw [b0, s0]
    exact h2 l0
  | .nilm, _, h => h
  | .mp id, v, h => by
    simp only [VR] at h ⊢
    obtain ⟨hi, r, rfl, h2⟩ := h
    refine ⟨live_ext e hi, r, rfl, fun hl => ?_⟩
    obtain ⟨l0, b0, _⟩ := e.live id hi hl
    rw [b0]
    exact h2 l0
  | .fn f cap, v, h => by
    simp only [VR] at h ⊢
    obtain ⟨vs, rfl, h1⟩ := h
    exact ⟨vs, rfl, VRs.ext e cap vs.toList h1⟩
  | .nilf, _, h => h
  | .agg cs, v, h => by
    simp only [VR] at h ⊢
    obtain ⟨vs, rfl, h1⟩ := h
    exact ⟨vs, rfl, VRs.ext e cs vs.toList h1⟩
  | .tup cs, v, h => by
    simp only [VR] at h ⊢
    obtain ⟨vs, rfl, h1⟩ := h
    exact ⟨vs, rfl, VRs.ext e cs vs.toList h1⟩
theorem VRs.ext {c c' : Cx} {L0 Lo Lo' : Nat → Prop} (e : Ext c Lo c' Lo') : ∀ (xs : List AV) (vs : List Value), VRs c (un L0 Lo) xs vs → VRs c' (un L0 Lo') xs vs
  | [], [], _ => trivial
  | x :: xs, v :: vs, h => ⟨VR.ext e x v h.1, VRs.ext e xs vs h.2⟩
  | [], _ :: _, h => h
  | _ :: _, [], h => h
theorem Cells.ext {c c' : Cx} {L0 Lo Lo' : Nat → Prop} (e : Ext c Lo c' Lo') : ∀ (xs : List AV) (b o : Nat), RO c (un L0 Lo) b → b < c.w.heap.size → Cells c (un L0 Lo) xs b o → Cells c' (un L0 Lo') xs b o
  | [], _, _, _, _, _ => trivial
  | x :: xs, b, o, hr, hb, h => by
    obtain ⟨⟨v, hv, h1, hx⟩, hs⟩ := h
    exact ⟨⟨v, (e.cell hr hb o).trans hv, h1, VR.ext e x v hx⟩, Cells.ext e xs b (o + 1) hr hb hs⟩
end

/-! ### Fewer blocks that others own -/
theorem RO.anti {c : Cx} {L L' : Nat → Prop} (hL : ∀ b, L' b → L b) {b : Nat} (h : RO c L b) : RO c L' b := ⟨h.1, fun h1 => h.2 (hL b h1)⟩
mutual
theorem VR.anti {c : Cx} {L L' : Nat → Prop} (hL : ∀ b, L' b → L b) : ∀ (x : AV) (v : Value), VR c L x v → VR c L' x v
  | .any, _, _ => trivial
  | .bool _, _, h => h
  | .int _ _, _, h => h
  | .str _, _, h => h
  | .nilp, _, h => h
  | .ptr id off, v, h => h
  | .lp _ _, _, h => h
  | .fp cs off, v, h => by
    simp only [VR] at h ⊢
    obtain ⟨b, o, rfl, hc⟩ := h
    exact ⟨b, o, rfl, hc.imp id fun ⟨hr, hc⟩ => ⟨hr.anti hL, Cells.anti hL cs b o hc⟩⟩
  | .nils, _, h => h
  | .fz cs n ex, v, h => by
    simp only [VR] at h ⊢
    obtain ⟨a, cap, rfl, h1, h2, hs, hc⟩ := h
    exact ⟨a, cap, rfl, h1, h2, hs, hc.imp id fun ⟨b, o, ha, hr, hex, hc⟩ => ⟨b, o, ha, hr.anti hL, hex, Cells.anti hL cs b o hc⟩⟩
  | .rs id off len esz, v, h => h
  | .nilm, _, h => h
  | .mp id, v, h => h
  | .fn f cap, v, h => by
    simp only [VR] at h ⊢
    obtain ⟨vs, rfl, h1⟩ := h
    exact ⟨vs, rfl, VRs.anti hL cap vs.toList h1⟩
  | .nilf, _, h => h
  | .agg cs, v, h => by
    simp only [VR] at h ⊢
    obtain ⟨vs, rfl, h1⟩ := h
    exact ⟨vs, rfl, VRs.anti hL cs vs.toList h1⟩
  | .tup cs, v, h => by
    simp only [VR] at h ⊢
    obtain ⟨vs, rfl, h1⟩ := h
    exact ⟨vs, rfl, VRs.anti hL cs vs.toList h1⟩
theorem VRs.anti {c : Cx} {L L' : Nat → Prop} (hL : ∀ b, L' b → L b) : ∀ (xs : List AV) (vs : List Value), VRs c L xs vs → VRs c L' xs vs
  | [], [], _ => trivial
  | x :: xs, v :: vs, h => ⟨VR.anti hL x v h.1, VRs.anti hL xs vs h.2⟩
  | [], _ :: _, h => h
  | _ :: _, [], h => h
theorem Cells.anti {c : Cx} {L L' : Nat → Prop} (hL : ∀ b, L' b → L b) : ∀ (xs : List AV) (b o : Nat), Cells c L xs b o → Cells c L' xs b o
  | [], _, _, _ => trivial
  | x :: xs, b, o, h => by
    obtain ⟨⟨v, hv, h1, hx⟩, hs⟩ := h
    exact ⟨⟨v, hv, h1, VR.anti hL x v hx⟩, Cells.anti hL xs b (o + 1) hs⟩
end

/-! ### Cells of whatever block, moved -/
theorem Cells.move {c c' : Cx} {L0 Lo Lo' : Nat → Prop} (e : Ext c Lo c' Lo') : ∀ (xs : List AV) (b o b' o' : Nat), (∀ i, i < xs.length → c'.w.cell? ⟨b', o' + i, none⟩ = c.w.cell? ⟨b, o + i, none⟩) → Cells c (un L0 Lo) xs b o → Cells c' (un L0 Lo') xs b' o'
  | [], _, _, _, _, _, _ => trivial
  | x :: xs, b, o, b', o', hm, h => by
    obtain ⟨⟨v, hv, h1, hx⟩, hs⟩ := h
    refine ⟨⟨v, (hm 0 (by simp)).trans hv, h1, VR.ext e x v hx⟩, Cells.move e xs b (o + 1) b' (o' + 1) (fun i hi => ?_) hs⟩
    have := hm (i + 1) (by simpa using hi)
    rwa [Nat.add_right_comm o' 1 i, Nat.add_right_comm o 1 i, Nat.add_assoc, Nat.add_assoc]

theorem VRs.length {c : Cx} {L : Nat → Prop} : ∀ {xs : List AV} {vs : List Value}, VRs c L xs vs → xs.length = vs.length
  | [], [], _ => rfl
  | _ :: _, _ :: _, h => by simp [VRs.length h.2]
  | [], _ :: _, h => h.elim
  | _ :: _, [], h => h.elim

theorem VRs.get {c : Cx} {L : Nat → Prop} : ∀ {xs : List AV} {vs : List Value}, VRs c L xs vs → ∀ (i : Nat) (x : AV), xs[i]? = some x → ∃ v, vs[i]? = some v ∧ VR c L x v
  | [], [], _, i, x, hx => by simp at hx
  | y :: ys, u :: us, h, i, x, hx => by
    cases i with
    | zero => simp at hx; subst hx; exact ⟨u, rfl, h.1⟩
    | succ i => simpa using VRs.get h.2 i x (by simpa using hx)
  | [], _ :: _, h, _, _, _ => h.elim
  | _ :: _, [], h, _, _, _ => h.elim

theorem VRs.append {c : Cx} {L : Nat → Prop} : ∀ {xs ys : List AV} {vs us : List Value}, VRs c L xs vs → VRs c L ys us → VRs c L (xs ++ ys) (vs ++ us)
  | [], _, [], _, _, h => h
  | _ :: _, _, _ :: _, _, h, k => ⟨h.1, VRs.append h.2 k⟩
  | [], _, _ :: _, _, h, _ => h.elim
  | _ :: _, _, [], _, h, _ => h.elim

theorem VRs.drop {c : Cx} {L : Nat → Prop} : ∀ (n : Nat) {xs : List AV} {vs : List Value}, VRs c L xs vs → VRs c L (xs.drop n) (vs.drop n)
  | 0, _, _, h => h
  | _ + 1, [], [], h => h
  | n + 1, _ :: _, _ :: _, h => VRs.drop n h.2
  | _ + 1, [], _ :: _, h => h.elim
  | _ + 1, _ :: _, [], h => h.elim
theorem VRs.take {c : Cx} {L : Nat → Prop} : ∀ (n : Nat) {xs : List AV} {vs : List Value}, VRs c L xs vs → VRs c L (xs.take n) (vs.take n)
  | 0, _, _, _ => by simp [VRs]
  | _ + 1, [], [], h => h
  | n + 1, _ :: _, _ :: _, h => ⟨h.1, VRs.take n h.2⟩
  | _ + 1, [], _ :: _, h => h.elim
  | _ + 1, _ :: _, [], h => h.elim
theorem VRs.set {c : Cx} {L : Nat → Prop} {x : AV} {v : Value} (hx : VR c L x v) : ∀ (n : Nat) {xs : List AV} {vs : List Value}, VRs c L xs vs → VRs c L (xs.set n x) (vs.set n v)
  | _, [], [], h => h
  | 0, _ :: _, _ :: _, h => ⟨hx, h.2⟩
  | n + 1, _ :: _, _ :: _, h => ⟨h.1, VRs.set hx n h.2⟩
  | _, [], _ :: _, h => h.elim
  | _, _ :: _, [], h => h.elim

/-- Cells as values. -/
theorem Cells.vals {c : Cx} {L : Nat → Prop} : ∀ {xs : List AV} {b o : Nat}, Cells c L xs b o → ∃ vs : List Value, VRs c L xs vs ∧ (∀ i, i < xs.length → c.w.cell? ⟨b, o + i, none⟩ = vs[i]?) ∧ ∀ v ∈ vs, v.oneCell' = true
  | [], _, _, _ => ⟨[], trivial, fun i hi => by simp at hi, fun _ h => by cases h⟩
  | x :: xs, b, o, h => by
    obtain ⟨⟨v, hv, h0, hx⟩, hs⟩ := h
    obtain ⟨vs, h1, h2, h3⟩ := Cells.vals hs
    refine ⟨v :: vs, ⟨hx, h1⟩, fun i hi => ?_, fun u hu => ?_⟩
    · cases i with
      | zero => exact hv
      | succ i =>
        have := h2 i (by simpa using hi)
        rw [Nat.add_right_comm, Nat.add_assoc] at this
        simpa using this
    · rcases List.mem_cons.1 hu with rfl | hu
      · exact h0
      · exact h3 u hu

theorem Cells.of_vals {c : Cx} {L : Nat → Prop} : ∀ {xs : List AV} {vs : List Value} {b o : Nat}, VRs c L xs vs → (∀ i, i < vs.length → c.w.cell? ⟨b, o + i, none⟩ = vs[i]?) → (∀ v ∈ vs, v.oneCell' = true) → Cells c L xs b o
  | [], [], _, _, _, _, _ => trivial
  | x :: xs, v :: vs, b, o, h, hc, h1 => by
    refine ⟨⟨v, hc 0 (by simp), h1 v (by simp), h.1⟩, Cells.of_vals h.2 (fun i hi => ?_) (fun u hu => h1 u (by simp [hu]))⟩
    have := hc (i + 1) (by simpa using hi)
    rw [Nat.add_right_comm, Nat.add_assoc]
    simpa using this
  | [], _ :: _, _, _, h, _, _ => h.elim
  | _ :: _, [], _, _, h, _, _ => h.elim

theorem Cells.get' {c : Cx} {L : Nat → Prop} {xs : List AV} {b o : Nat} (h : Cells c L xs b o) (i : Nat) (x : AV) (hx : xs[i]? = some x) : ∃ v, c.w.cell? ⟨b, o + i, none⟩ = some v ∧ v.oneCell' = true ∧ VR c L x v := by
  obtain ⟨vs, h1, h2, h3⟩ := h.vals
  obtain ⟨v, hv, hr⟩ := VRs.get h1 i x hx
  exact ⟨v, (h2 i (List.getElem?_eq_some_iff.1 hx).1).trans hv, h3 v (List.mem_of_getElem? hv), hr⟩
theorem Cells.get {c : Cx} {L : Nat → Prop} {xs : List AV} {b o : Nat} (h : Cells c L xs b o) (i : Nat) (x : AV) (hx : xs[i]? = some x) : ∃ v, c.w.cell? ⟨b, o + i, none⟩ = some v ∧ VR c L x v := by
  obtain ⟨v, h1, _, h2⟩ := h.get' i x hx
  exact ⟨v, h1, h2⟩
end Go.R
