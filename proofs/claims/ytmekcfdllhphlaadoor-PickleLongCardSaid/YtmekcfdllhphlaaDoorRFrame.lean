/- Frames: the relation, and what a step must show. -/
import Derived.Test.YtmekcfdllhphlaaDoorRRel
import Derived.Tactics
set_option linter.unusedVariables false
set_option linter.unusedSimpArgs false
namespace Go.R
open Go

def EntR (c : Cx) (L : Nat → Prop) : List (AV × AV) → List MapEntry → Prop
  | [], [] => True
  | (k, v) :: es, m :: ms => (VR c L k m.key ∧ k.conc.isSome = true) ∧ VR c L v m.val ∧ EntR c L es ms
  | _, _ => False

def Plain (c : Cx) (b : Nat) (n : Nat) : Prop := ∃ (C : Array Value) (e lo hi : Nat), c.w.heap[b]? = some (.cells C e (lo, hi)) ∧ (lo = hi ∨ C.size ≤ lo) ∧ C.size = n

/-- As 'Plain', and nothing is marked. -/
def PlainS (c : Cx) (b : Nat) (n : Nat) : Prop := ∃ (C : Array Value) (e : TypeId), c.w.heap[b]? = some (.cells C e (0, 0)) ∧ C.size = n
theorem PlainS.toPlain {c : Cx} {b n : Nat} (h : PlainS c b n) : Plain c b n := by
  obtain ⟨C, e, h1, h2⟩ := h
  exact ⟨C, e, 0, 0, h1, .inl rfl, h2⟩
theorem PlainS.of_heap {c c' : Cx} {b n : Nat} (h : PlainS c b n) (he : c'.w.heap[b]? = c.w.heap[b]?) : PlainS c' b n := by
  obtain ⟨C, e, h1, h2⟩ := h
  exact ⟨C, e, he.trans h1, h2⟩
theorem PlainS.lt {c : Cx} {b n : Nat} (h : PlainS c b n) : b < c.w.heap.size := by
  obtain ⟨C, e, h1, _⟩ := h
  exact (Array.getElem?_eq_some_iff.1 h1).1

def ObjR (c : Cx) (L : Nat → Prop) (b base : Nat) : AObj → Prop
  | .cells cs => ∃ n, PlainS c b n ∧ base + cs.length ≤ n ∧ Cells c L cs b base
  | .row e cs => base = 0 ∧ ∃ C : Array Value, c.w.heap[b]? = some (.cells C e (0, 0)) ∧ cs.length ≤ C.size ∧ C.size ≤ maxLen ∧ Cells c L cs b 0
  | .map es => ∃ ents clock, c.w.heap[b]? = some (.map ents clock) ∧ EntR c L es ents.toList

structure HRel (c : Cx) (L : Nat → Prop) : Prop where
  lt : ∀ id o, c.h.get id = some o → id < c.h.next
  obj : ∀ id o, c.h.get id = some o → ObjR c L (c.β id).1 (c.β id).2 o
  inj : ∀ id id', Live c.h id → Live c.h id' → (c.β id).1 = (c.β id').1 → id = id'
  out : ∀ id, Live c.h id → ¬ L (c.β id).1
  bd : ∀ b, L b → b < c.w.heap.size
  low : ∀ id, Live c.h id → c.base ≤ (c.β id).1
  ver : ∀ id, c.h.ver id < c.h.next

structure Own (c : Cx) (L0 Lo : Nat → Prop) (lam : Nat → Nat) (k : Nat) (cs : List AV) : Prop where
  own : Lo (lam k)
  plain : Plain c (lam k) cs.length
  cells : Cells c (un L0 Lo) cs (lam k) 0

def SR (c : Cx) (L0 Lo : Nat → Prop) (lam : Nat → Nat) (bx : Nat → Option (List AV)) (x : AV) (v : Value) : Prop :=
  match x with
  | .lp k off => v = .pointer (some ⟨lam k, off, none⟩) ∧ (bx k).isSome = true
  | x => VR c (un L0 Lo) x v

structure Fr (L0 : Nat → Prop) (c : Cx) (Lo : Nat → Prop) (lam : Nat → Nat) (ds : List Nat) (s : RS) (a : Act) : Prop where
  h : c.h = s.h
  rel : HRel c (un L0 Lo)
  slot : ∀ t, SR c L0 Lo lam s.bx (s.ρ t) (a.tmps.getD t undef)
  box : ∀ k cs, s.bx k = some cs → Own c L0 Lo lam k cs
  inj : ∀ k k', (s.bx k).isSome = true → (s.bx k').isSome = true → lam k = lam k' → k = k'
  tidy : ∀ t k off, t ∉ ds → s.ρ t = .lp k off → k = t
  defers : a.defers = []
  lob : ∀ b, Lo b → c.base ≤ b

def none0 : Nat → Prop := fun _ => False

def Inv (L0 : Nat → Prop) (c0 : Cx) (n : Nat) (ds : List Nat) (s : RS) (a : Act) (w : World) : Prop :=
  a.tmps.size = n ∧ ∃ c Lo lam, c.w = w ∧ Fr L0 c Lo lam ds s a ∧ Ext c0 none0 c Lo

theorem SR.vr {c : Cx} {L0 Lo : Nat → Prop} {lam : Nat → Nat} {bx : Nat → Option (List AV)} {x : AV} {v : Value} (h : SR c L0 Lo lam bx x v) (hx : ∀ k off, x ≠ .lp k off) : VR c (un L0 Lo) x v := by
  unfold SR at h
  split at h
  · exact absurd rfl (hx _ _)
  · exact h
theorem SR.of {c : Cx} {L0 Lo : Nat → Prop} {lam : Nat → Nat} {bx : Nat → Option (List AV)} {x : AV} {v : Value} (h : VR c (un L0 Lo) x v) : SR c L0 Lo lam bx x v := by
  unfold SR
  split
  · exact h.elim
  · exact h

/-! ### Closed values -/
theorem ofV1_VR {c : Cx} {L : Nat → Prop} {v : Value} {x : AV} (h : ofV1 v = some x) : VR c L x v := by
  unfold ofV1 at h
  split at h <;> first | (cases h; done) | (cases h; simp [VR])
theorem ofV1s_VR {c : Cx} {L : Nat → Prop} : ∀ {vs : List Value} {xs : List AV}, ofV1s vs = some xs → VRs c L xs vs
  | [], xs, h => by simp [ofV1s] at h; subst h; trivial
  | v :: vs, xs, h => by
    simp only [ofV1s, Option.bind_eq_some_iff] at h
    obtain ⟨x, hx, ys, hy, he⟩ := h
    cases he
    exact ⟨ofV1_VR hx, ofV1s_VR hy⟩
theorem ofV_VR {c : Cx} {L : Nat → Prop} {v : Value} {x : AV} (h : ofV v = some x) : VR c L x v := by
  unfold ofV at h
  split at h
  · rename_i cs
    rw [Option.map_eq_some_iff] at h
    obtain ⟨xs, hx, rfl⟩ := h
    simp only [VR]
    exact ⟨cs, rfl, ofV1s_VR hx⟩
  · exact ofV1_VR h

theorem conc1_VR {c : Cx} {L : Nat → Prop} {x : AV} {u v : Value} (h : x.conc1 = some u) (hx : VR c L x v) : v = u := by
  unfold AV.conc1 at h
  split at h <;> first | (cases h; done) | (cases h; simpa [VR] using hx)
theorem conc1_ne {x : AV} {u : Value} (h : x.conc1 = some u) : ∀ k off, x ≠ .lp k off := by
  rintro k off rfl
  simp [AV.conc1] at h
theorem conc1s_VR {c : Cx} {L : Nat → Prop} : ∀ {xs : List AV} {us vs : List Value}, conc1s xs = some us → VRs c L xs vs → vs = us
  | [], us, [], h, _ => by simp [conc1s] at h; exact h.symm
  | x :: xs, us, v :: vs, h, hx => by
    simp only [conc1s, Option.bind_eq_some_iff] at h
    obtain ⟨u, h1, ws, h2, he⟩ := h
    cases he
    rw [conc1_VR h1 hx.1, conc1s_VR h2 hx.2]
  | [], _, _ :: _, _, h => h.elim
  | _ :: _, _, [], _, h => h.elim
theorem conc_VR {c : Cx} {L : Nat → Prop} {x : AV} {u v : Value} (h : x.conc = some u) (hx : VR c L x v) : v = u := by
  unfold AV.conc at h
  split at h
  · rw [Option.map_eq_some_iff] at h
    obtain ⟨vs, h1, rfl⟩ := h
    simp only [VR] at hx
    obtain ⟨ws, rfl, h2⟩ := hx
    rw [← conc1s_VR h1 h2]
  · exact conc1_VR h hx

theorem pureRun_run {α : Type} {P : Program} {e : Sem α} {r : α} (w : World) : pureRun P e = some r → e.run P w = .ok r w := by
  induction e with
  | pure a => intro h; simp [pureRun] at h; subst h; rfl
  | program k ih => intro h; exact ih P (by simpa [pureRun] using h)
  | _ => intro h; simp [pureRun] at h

theorem opnd_SR {L0 : Nat → Prop} {c : Cx} {Lo : Nat → Prop} {lam : Nat → Nat} {ds : List Nat} {s : RS} {a : Act} (f : Fr L0 c Lo lam ds s a) (x : Operand) : SR c L0 Lo lam s.bx (opnd s.ρ x) (a.eval x) := by
  cases x with
  | tmp t => exact f.slot t
  | const v =>
    refine SR.of ?_
    simp only [opnd, Act.eval]
    cases h : ofV v with
    | none => simp [VR]
    | some x => simpa using ofV_VR h
  | global g => exact SR.of (by simp [opnd, VR])
  | func f => exact SR.of (by simp only [opnd, VR, Act.eval]; exact ⟨#[], rfl, by simp [VRs]⟩)

/-! ### A step -/
def OpOK (P : Program) (L0 : Nat → Prop) (c0 : Cx) (n : Nat) (ds : List Nat) (o : Oper) (s s' : RS) : Prop :=
  ∀ a w (K : Act → World → Prop) (Q : Exit → Act → World → Prop), Inv L0 c0 n ds s a w → (∀ a' w', Inv L0 c0 n ds s' a' w' → K a' w') → o.wp P a w K Q

theorem put_size (a : Act) (d : Option Nat) (v : Value) : (a.put d v).tmps.size = a.tmps.size := by cases d <;> simp [Act.put]
theorem put_defers (a : Act) (d : Option Nat) (v : Value) : (a.put d v).defers = a.defers := by cases d <;> rfl
theorem getD_put (a : Act) (d t : Nat) (v : Value) (hd : d < a.tmps.size) : (a.put (some d) v).tmps.getD t undef = if t = d then v else a.tmps.getD t undef := by
  simp only [Act.put, Array.getD_eq_getD_getElem?, Array.getElem?_setIfInBounds]
  by_cases h : d = t
  · subst h; simp [hd]
  · simp [h, Ne.symm h]

theorem set_ρ (s : RS) (d t : Nat) (x : AV) : (s.set (some d) x).ρ t = if t = d then x else s.ρ t := by
  simp only [RS.set, beq_nat]
  by_cases h : t = d <;> simp [h]

/-- A slot is set; memory stays. -/
theorem Fr.set {L0 : Nat → Prop} {c : Cx} {Lo : Nat → Prop} {lam : Nat → Nat} {ds : List Nat} {s : RS} {a : Act} (f : Fr L0 c Lo lam ds s a) {d : Option Nat} {x : AV} {v : Value} (hx : SR c L0 Lo lam s.bx x v)
    (hd : ∀ t, d = some t → t < a.tmps.size ∧ t ∈ ds) : Fr L0 c Lo lam ds (s.set d x) (a.put d v) := by
  cases d with
  | none => exact f
  | some d =>
    obtain ⟨h1, h2⟩ := hd d rfl
    refine ⟨f.h, f.rel, fun t => ?_, f.box, f.inj, fun t k off ht he => ?_, f.defers, f.lob⟩
    · rw [getD_put _ _ _ _ h1, set_ρ]
      by_cases h : t = d
      · simp only [h, if_true]; exact hx
      · simp only [h, if_false]; exact f.slot t
    · rw [set_ρ] at he
      by_cases h : t = d
      · subst h; exact absurd h2 ht
      · rw [if_neg h] at he; exact f.tidy t k off ht he

section
variable {P : Program} {L0 : Nat → Prop} {c0 : Cx} {n : Nat} {ds : List Nat} {o : Oper} {s : RS}

/-- The destination lies in the frame. -/
def DstOK (n : Nat) (ds : List Nat) (o : Oper) : Prop := ∀ t, o.dst = some t → t < n ∧ t ∈ ds

theorem op_val (hd : DstOK n ds o) {x : AV}
    (h : ∀ a c Lo lam, Fr L0 c Lo lam ds s a → a.tmps.size = n → ∃ v, (execOp a.eval o).run P c.w = .ok (.value v) c.w ∧ SR c L0 Lo lam s.bx x v) : OpOK P L0 c0 n ds o s (s.set o.dst x) := by
  rintro a w K Q ⟨hn, c, Lo, lam, rfl, f, e⟩ hK
  obtain ⟨v, hr, hv⟩ := h a c Lo lam f hn
  unfold Oper.wp
  rw [hr, Oper.upon_value]
  exact hK _ _ ⟨(put_size _ _ _).trans hn, c, Lo, lam, rfl, f.set hv (fun t ht => hn ▸ hd t ht), e⟩

/-- Memory turns: the new state is shown whole. -/
theorem op_any
    {s' : RS} (h : ∀ a c Lo lam, Fr L0 c Lo lam ds s a → a.tmps.size = n → (∃ c' Lo' lam' v, (execOp a.eval o).run P c.w = .ok (.value v) c'.w ∧ Fr L0 c' Lo' lam' ds s' (a.put o.dst v) ∧ Ext c Lo c' Lo') ∨
      (∃ c' Lo' lam', (execOp a.eval o).run P c.w = .ok .skip c'.w ∧ Fr L0 c' Lo' lam' ds s' (a.put o.dst undef) ∧ Ext c Lo c' Lo')) : OpOK P L0 c0 n ds o s s' := by
  rintro a w K Q ⟨hn, c, Lo, lam, rfl, f, e⟩ hK
  unfold Oper.wp
  rcases h a c Lo lam f hn with ⟨c', Lo', lam', v, hr, f', e'⟩ | ⟨c', Lo', lam', hr, f', e'⟩
  · rw [hr, Oper.upon_value]
    exact hK _ _ ⟨(put_size _ _ _).trans hn, c', Lo', lam', rfl, f', e.trans e'⟩
  · rw [hr, Oper.upon_skip]
    exact hK _ _ ⟨(put_size _ _ _).trans hn, c', Lo', lam', rfl, f', e.trans e'⟩
end

/-! ### Memory turns, the frame stays -/
theorem SR.ext {c c' : Cx} {L0 Lo Lo' : Nat → Prop} {lam lam' : Nat → Nat} {bx bx' : Nat → Option (List AV)} {x : AV} {v : Value} (h : SR c L0 Lo lam bx x v) (e : Ext c Lo c' Lo')
    (hl : ∀ k off, x = .lp k off → lam' k = lam k ∧ ((bx k).isSome = true → (bx' k).isSome = true)) : SR c' L0 Lo' lam' bx' x v := by
  unfold SR at h ⊢
  split
  · rename_i k off
    obtain ⟨h1, h2⟩ := h
    obtain ⟨h3, h4⟩ := hl k off rfl
    rw [h3]
    exact ⟨h1, h4 h2⟩
  · rename_i hne
    split at h
    · exact absurd rfl (hne _ _)
    · exact VR.ext e _ _ h

theorem Plain.of_heap {c c' : Cx} {b n : Nat} (h : Plain c b n) (he : Keeps c.w c'.w b) : Plain c' b n := by
  obtain ⟨C, e, lo, hi, h1, h2, h3⟩ := h
  rcases he with he | ⟨C', e', l1, i1, l2, i2, k1, k2, k3⟩
  · exact ⟨C, e, lo, hi, he.trans h1, h2, h3⟩
  · rw [h1] at k1
    simp only [Option.some.injEq, Obj.cells.injEq, Prod.mk.injEq] at k1
    obtain ⟨rfl, rfl, rfl, rfl⟩ := k1
    exact ⟨C, e, l2, i2, k2, k3 h2, h3⟩
theorem Keeps.map {w w' : World} {b : Nat} (h : Keeps w w' b) {es : Array MapEntry} {k : Nat} (hm : w.heap[b]? = some (.map es k)) : w'.heap[b]? = some (.map es k) := by
  rcases h with h | ⟨C, e, lo, hi, lo', hi', h1, _⟩
  · exact h.trans hm
  · rw [h1] at hm; cases hm

theorem Plain.lt {c : Cx} {b n : Nat} (h : Plain c b n) : b < c.w.heap.size := by
  obtain ⟨C, e, lo, hi, h1, _⟩ := h
  exact (Array.getElem?_eq_some_iff.1 h1).1

theorem EntR.ext {c c' : Cx} {L0 Lo Lo' : Nat → Prop} (e : Ext c Lo c' Lo') : ∀ {es : List (AV × AV)} {ms : List MapEntry}, EntR c (un L0 Lo) es ms → EntR c' (un L0 Lo') es ms
  | [], [], _ => trivial
  | (k, v) :: es, m :: ms, h => ⟨⟨VR.ext e _ _ h.1.1, h.1.2⟩, VR.ext e _ _ h.2.1, EntR.ext e h.2.2⟩
  | [], _ :: _, h => h.elim
  | _ :: _, [], h => h.elim

/-- An object in a block that has not been touched. -/
theorem ObjR.ext {c c' : Cx} {L0 Lo Lo' : Nat → Prop} (e : Ext c Lo c' Lo') {b base : Nat} {o : AObj} (h : ObjR c (un L0 Lo) b base o) (he : c'.w.heap[b]? = c.w.heap[b]?) : ObjR c' (un L0 Lo') b base o := by
  cases o with
  | cells cs =>
    obtain ⟨n, h1, h2, h3⟩ := h
    exact ⟨n, h1.of_heap he, h2, Cells.move e cs b base b base (fun i _ => cell_block he _) h3⟩
  | row t cs =>
    obtain ⟨h0, C, h1, h2, h4, h3⟩ := h
    exact ⟨h0, C, he.trans h1, h2, h4, Cells.move e cs b 0 b 0 (fun i _ => cell_block he _) h3⟩
  | map es =>
    obtain ⟨ents, clock, h1, h2⟩ := h
    exact ⟨ents, clock, he.trans h1, h2.ext e⟩

theorem Own.ext {c c' : Cx} {L0 Lo Lo' : Nat → Prop} {lam : Nat → Nat} (e : Ext c Lo c' Lo') {k : Nat} {cs : List AV} (h : Own c L0 Lo lam k cs) (he : Keeps c.w c'.w (lam k)) : Own c' L0 Lo' lam k cs :=
  ⟨e.own _ h.own, h.plain.of_heap he, Cells.move e cs (lam k) 0 (lam k) 0 (fun i _ => he.cell _) h.cells⟩
end Go.R
