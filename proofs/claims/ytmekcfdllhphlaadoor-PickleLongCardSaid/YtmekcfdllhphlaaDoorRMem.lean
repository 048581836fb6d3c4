/- Memory that turns. -/
import Derived.Test.YtmekcfdllhphlaaDoorROps3
import Derived.Laws.IdiomCopy
set_option linter.unusedVariables false
set_option linter.unusedSimpArgs false
namespace Go.R
open Go

theorem Keeps.len {c c' : Cx} {b : Nat} (h : Keeps c.w c'.w b) : c'.len b = c.len b := by
  unfold Cx.len World.shape?
  rcases h with h | ⟨C, e, lo, hi, lo', hi', h1, h2, _⟩
  · rw [h]
  · rw [h1, h2]

theorem HRel.block {c : Cx} {L : Nat → Prop} (r : HRel c L) {id : Nat} (hl : Live c.h id) : (c.β id).1 < c.w.heap.size := by
  obtain ⟨o, ho⟩ := Option.isSome_iff_exists.1 hl.2
  have h := r.obj id o ho
  cases o with
  | cells cs => obtain ⟨n, h1, _⟩ := h; exact h1.lt
  | map es => obtain ⟨ents, clock, h1, _⟩ := h; exact (Array.getElem?_eq_some_iff.1 h1).1
  | row t cs => obtain ⟨_, C, h1, _⟩ := h; exact (Array.getElem?_eq_some_iff.1 h1).1

section
variable {L0 : Nat → Prop} {c : Cx} {Lo : Nat → Prop} {lam : Nat → Nat} {ds : List Nat} {s : RS} {a : Act}

/-- Blocks are laid that nobody tracks, or an order is drawn. -/
theorem Fr.world (f : Fr L0 c Lo lam ds s a) {w' : World} (hk : ∀ b, b < c.w.heap.size → Keeps c.w w' b) (hkl : ∀ id, Live c.h id → w'.heap[(c.β id).1]? = c.w.heap[(c.β id).1]?) (hx : ∀ b, b < c.base → w'.heap[b]? = c.w.heap[b]?) (hs : c.w.heap.size ≤ w'.heap.size)
    (h1 : w'.os = c.w.os) (h2 : w'.tape = c.w.tape) (h3 : w'.output = c.w.output) : Ext c Lo { c with w := w' } Lo ∧ Fr L0 { c with w := w' } Lo lam ds s a := by
  have e : Ext c Lo { c with w := w' } Lo := by
    refine ⟨Nat.le_refl _, fun id hi hl => ⟨hl, rfl, ?_⟩, hs, fun b hb _ _ => hk b hb, hx, rfl, fun id hl => .inr ⟨id, hl, rfl⟩, fun _ h => h, fun _ h => .inl h, h1, h2, h3⟩
    exact Keeps.len (c' := { c with w := w' }) (hk _ (f.rel.block hl))
  refine ⟨e, f.h, ⟨f.rel.lt, fun id o ho => ?_, f.rel.inj, f.rel.out, fun b hb => Nat.lt_of_lt_of_le (f.rel.bd b hb) hs, f.rel.low, f.rel.ver⟩, fun t => ?_, fun k cs hb => ?_, f.inj, f.tidy, f.defers, f.lob⟩
  · have hl : Live c.h id := ⟨f.rel.lt _ _ ho, by rw [ho]; rfl⟩
    exact (f.rel.obj id o ho).ext e (hkl id hl)
  · exact (f.slot t).ext e (fun _ _ _ => ⟨rfl, fun h => h⟩)
  · have ob := f.box k cs hb
    exact ob.ext e (hk _ ob.plain.lt)

/-- One object is laid, or turned, or takes another's block. -/
theorem Fr.upd (f : Fr L0 c Lo lam ds s a) {w' : World} {β' : Nat → Nat × Nat} {h' : AHeap} (tgt : Nat) (ob : AObj)
    (hst : Steady c.h h') (htn : tgt < h'.next) (hget : h'.get tgt = some ob)
    (hcl : ∀ id, id ≠ tgt → h'.get id = none ∨ (h'.get id = c.h.get id ∧ β' id = c.β id))
    (htold : tgt < c.h.next → Live c.h tgt ∧ β' tgt = c.β tgt)
    (hbt : c.w.heap.size ≤ (β' tgt).1 ∨ ∃ id0, Live c.h id0 ∧ (c.β id0).1 = (β' tgt).1 ∧ (id0 = tgt ∨ h'.get id0 = none))
    (hlen : (β' tgt).1 < c.w.heap.size → ((w'.shape? (β' tgt).1).map (·.2)).getD 0 = c.len (β' tgt).1)
    (hk : ∀ b, b < c.w.heap.size → b ≠ (β' tgt).1 → w'.heap[b]? = c.w.heap[b]?) (hx : ∀ b, b < c.base → b ≠ (β' tgt).1 → w'.heap[b]? = c.w.heap[b]?) (hs : c.w.heap.size ≤ w'.heap.size) (hbs : c.base ≤ c.w.heap.size)
    (h1 : w'.os = c.w.os) (h2 : w'.tape = c.w.tape) (h3 : w'.output = c.w.output)
    (hob : ∀ (e : Ext c Lo ⟨β', h', w', c.base⟩ Lo), ObjR ⟨β', h', w', c.base⟩ (un L0 Lo) (β' tgt).1 (β' tgt).2 ob) :
    Ext c Lo ⟨β', h', w', c.base⟩ Lo ∧ Fr L0 ⟨β', h', w', c.base⟩ Lo lam ds { s with h := h' } a := by
  have hn := hst.next
  have hold : ∀ id, id ≠ tgt → Live h' id → Live c.h id ∧ β' id = c.β id := by
    intro id hne hl
    rcases hcl id hne with h | ⟨h, hb⟩
    · have := hl.2; rw [h] at this; cases this
    · have hsome : (c.h.get id).isSome = true := by rw [← h]; exact hl.2
      obtain ⟨o, ho⟩ := Option.isSome_iff_exists.1 hsome
      exact ⟨⟨f.rel.lt _ _ ho, hsome⟩, hb⟩
  have hnot : ∀ id, id ≠ tgt → Live h' id → (c.β id).1 ≠ (β' tgt).1 := by
    intro id hne hl he
    obtain ⟨hl0, hb⟩ := hold id hne hl
    rcases hbt with h | ⟨id0, h4, h5, h6⟩
    · have := f.rel.block hl0; omega
    · have : id = id0 := f.rel.inj id id0 hl0 h4 (he.trans h5.symm)
      subst this
      rcases h6 with h6 | h6
      · exact hne h6
      · have := hl.2; rw [h6] at this; cases this
  have hL : ¬ un L0 Lo (β' tgt).1 := by
    intro hL
    rcases hbt with h | ⟨id0, h4, h5, _⟩
    · have := f.rel.bd _ hL; omega
    · exact f.rel.out id0 h4 (h5 ▸ hL)
  have hlow : c.base ≤ (β' tgt).1 := by
    rcases hbt with h | ⟨id0, h4, h5, _⟩
    · omega
    · rw [← h5]; exact f.rel.low id0 h4
  have e : Ext c Lo ⟨β', h', w', c.base⟩ Lo := by
    refine ⟨hn, fun id hi hl => ?_, hs, fun b hb _ hi => .inl (hk b hb ?_), fun b hb => hx b hb (by omega), rfl, fun id hl => ?_, fun _ h => h, fun _ h => .inl h, h1, h2, h3⟩
    · by_cases hid : id = tgt
      · subst hid
        obtain ⟨h4, h5⟩ := htold hi
        refine ⟨h4, h5, ?_⟩
        have := hlen (by rw [h5]; exact f.rel.block h4)
        rw [h5] at this
        exact this
      · obtain ⟨h4, h5⟩ := hold id hid hl
        exact ⟨h4, h5, Keeps.len (c' := ⟨β', h', w', c.base⟩) (.inl (hk _ (f.rel.block h4) (hnot id hid hl)))⟩
    · rintro rfl
      rcases hbt with h | ⟨id0, h4, h5, _⟩
      · omega
      · exact hi id0 h4 h5
    · by_cases hid : id = tgt
      · subst hid
        rcases hbt with h | ⟨id0, h4, h5, _⟩
        · exact .inl h
        · exact .inr ⟨id0, h4, h5⟩
      · obtain ⟨h4, h5⟩ := hold id hid hl
        exact .inr ⟨id, h4, by rw [← h5]⟩
  refine ⟨e, rfl, ⟨fun id o ho => ?_, fun id o ho => ?_, fun id id' hl hl' he => ?_, fun id hl => ?_, fun b hb => Nat.lt_of_lt_of_le (f.rel.bd b hb) hs, fun id hl => ?_, hst.wf f.rel.ver⟩, fun t => ?_, fun k cs hb => ?_, f.inj, f.tidy, f.defers, f.lob⟩
  · by_cases hid : id = tgt
    · subst hid; exact htn
    · rcases hcl id hid with h | ⟨h, _⟩
      · rw [h] at ho; cases ho
      · rw [h] at ho; exact Nat.lt_of_lt_of_le (f.rel.lt _ _ ho) hn
  · by_cases hid : id = tgt
    · subst hid
      rw [hget] at ho
      cases ho
      exact hob e
    · rcases hcl id hid with h | ⟨h, hb⟩
      · rw [h] at ho; cases ho
      · have hl : Live h' id := ⟨by rw [h] at ho; exact Nat.lt_of_lt_of_le (f.rel.lt _ _ ho) hn, by rw [ho]; rfl⟩
        rw [h] at ho
        have := (f.rel.obj id o ho).ext e (hk _ (f.rel.block (hold id hid hl).1) (hnot id hid hl))
        rw [← hb] at this
        exact this
  · by_cases hid : id = tgt <;> by_cases hid' : id' = tgt
    · rw [hid, hid']
    · subst hid
      obtain ⟨h4, h5⟩ := hold id' hid' hl'
      exact absurd (by rw [← h5]; exact he.symm) (hnot id' hid' hl')
    · subst hid'
      obtain ⟨h4, h5⟩ := hold id hid hl
      exact absurd (by rw [← h5]; exact he) (hnot id hid hl)
    · obtain ⟨h4, h5⟩ := hold id hid hl
      obtain ⟨h6, h7⟩ := hold id' hid' hl'
      exact f.rel.inj id id' h4 h6 (by rw [← h5, ← h7]; exact he)
  · by_cases hid : id = tgt
    · subst hid; exact hL
    · obtain ⟨h4, h5⟩ := hold id hid hl
      show ¬ un L0 Lo (β' id).1
      rw [h5]; exact f.rel.out id h4
  · by_cases hid : id = tgt
    · subst hid; exact hlow
    · obtain ⟨h4, h5⟩ := hold id hid hl
      show c.base ≤ (β' id).1
      rw [h5]; exact f.rel.low id h4
  · exact (f.slot t).ext e (fun _ _ _ => ⟨rfl, fun h => h⟩)
  · have hb2 := f.box k cs hb
    refine hb2.ext e (.inl (hk _ hb2.plain.lt ?_))
    rintro he
    exact hL (he ▸ .inr hb2.own)

/-- A box of the frame's own is laid or written. -/
theorem Fr.updBox (f : Fr L0 c Lo lam ds s a) {w' : World} (k : Nat) (cs : List AV) (b : Nat)
    (hb : c.w.heap.size ≤ b ∨ (b = lam k ∧ (s.bx k).isSome = true))
    (hp : ∀ t off, s.ρ t = .lp k off → b = lam k)
    (hk : ∀ b', b' < c.w.heap.size → b' ≠ b → w'.heap[b']? = c.w.heap[b']?) (hx : ∀ b', b' < c.base → b' ≠ b → w'.heap[b']? = c.w.heap[b']?) (hs : c.w.heap.size ≤ w'.heap.size) (hbw : b < w'.heap.size) (hbs : c.base ≤ c.w.heap.size)
    (h1 : w'.os = c.w.os) (h2 : w'.tape = c.w.tape) (h3 : w'.output = c.w.output)
    (hpl : Plain { c with w := w' } b cs.length)
    (hce : ∀ (e : Ext c Lo { c with w := w' } (fun x => Lo x ∨ x = b)), Cells { c with w := w' } (un L0 (fun x => Lo x ∨ x = b)) cs b 0) :
    ∃ Lo' lam', Ext c Lo { c with w := w' } Lo' ∧ Fr L0 { c with w := w' } Lo' lam' ds (s.box k cs) a ∧ lam' k = b := by
  have hnim : ∀ id, Live c.h id → (c.β id).1 ≠ b := by
    intro id hl he
    rcases hb with h | ⟨h, hb2⟩
    · have := f.rel.block hl; omega
    · obtain ⟨cs0, h0⟩ := Option.isSome_iff_exists.1 hb2
      exact f.rel.out id hl (by rw [he, h]; exact .inr (f.box k cs0 h0).own)
  have hLo : ∀ x, (Lo x ∨ x = b) → Lo x ∨ c.w.heap.size ≤ x := by
    rintro x (h | rfl)
    · exact .inl h
    · rcases hb with h | ⟨h, hb2⟩
      · exact .inr h
      · obtain ⟨cs0, h0⟩ := Option.isSome_iff_exists.1 hb2
        exact .inl (h ▸ (f.box k cs0 h0).own)
  have hlow : c.base ≤ b := by
    rcases hb with h | ⟨h, hb2⟩
    · omega
    · obtain ⟨cs0, h0⟩ := Option.isSome_iff_exists.1 hb2
      rw [h]; exact f.lob _ (f.box k cs0 h0).own
  have hbL : ∀ b', b' < c.w.heap.size → ¬ Lo b' → b' ≠ b := by
    rintro b' hb' hn rfl
    rcases hLo b' (.inr rfl) with h | h
    · exact hn h
    · omega
  have e : Ext c Lo { c with w := w' } (fun x => Lo x ∨ x = b) := by
    refine ⟨Nat.le_refl _, fun id hi hl => ⟨hl, rfl, ?_⟩, hs, fun b' hb' hn _ => .inl (hk b' hb' (hbL b' hb' hn)), fun b' hb' => hx b' hb' (by omega), rfl, fun id hl => .inr ⟨id, hl, rfl⟩, fun _ h => .inl h, hLo, h1, h2, h3⟩
    exact Keeps.len (c' := { c with w := w' }) (.inl (hk _ (f.rel.block hl) (hnim id hl)))
  refine ⟨fun x => Lo x ∨ x = b, fun t => if t = k then b else lam t, e, ⟨f.h, ⟨f.rel.lt, fun id o ho => ?_, f.rel.inj, fun id hl hL => ?_, fun x hx2 => ?_, f.rel.low, f.rel.ver⟩, fun t => ?_, fun k' cs' hb' => ?_, fun k1 k2 hs1 hs2 he => ?_, f.tidy, f.defers, fun x hx2 => ?_⟩, by simp⟩
  · have hl : Live c.h id := ⟨f.rel.lt _ _ ho, by rw [ho]; rfl⟩
    exact (f.rel.obj id o ho).ext e (hk _ (f.rel.block hl) (hnim id hl))
  · rcases hL with h | h | h
    · exact f.rel.out id hl (.inl h)
    · exact f.rel.out id hl (.inr h)
    · exact hnim id hl h
  · rcases hx2 with h | h | h
    · exact Nat.lt_of_lt_of_le (f.rel.bd x (.inl h)) hs
    · exact Nat.lt_of_lt_of_le (f.rel.bd x (.inr h)) hs
    · subst h; exact hbw
  · refine (f.slot t).ext e (fun k' off hk' => ?_)
    by_cases hkk : k' = k
    · subst hkk
      refine ⟨by simp [hp t off hk'], fun _ => by simp [RS.box]⟩
    · exact ⟨by simp [hkk], fun h => by simpa [RS.box, beq_nat, hkk] using h⟩
  · by_cases hkk : k' = k
    · subst hkk
      simp only [RS.box, beq_nat, decide_true, cond_true, Option.some.injEq] at hb'
      subst hb'
      exact ⟨by simp, by simpa using hpl, by simpa using hce e⟩
    · simp only [RS.box, beq_nat, hkk, decide_false, cond_false] at hb'
      have ob := f.box k' cs' hb'
      have hne : lam k' ≠ b := by
        rintro he
        rcases hb with h | ⟨h, hb2⟩
        · have := ob.plain.lt; omega
        · exact hkk (f.inj k' k (by rw [hb']; rfl) hb2 (he.trans h))
      have := ob.ext e (.inl (hk _ ob.plain.lt hne))
      exact ⟨by simp [hkk]; exact .inl ob.own, by simpa [hkk] using this.plain, by simpa [hkk] using this.cells⟩
  · have old : ∀ k', k' ≠ k → ((s.box k cs).bx k').isSome = true → (s.bx k').isSome = true := by
      intro k' hne h
      simpa [RS.box, beq_nat, hne] using h
    have sep : ∀ k', k' ≠ k → (s.bx k').isSome = true → lam k' ≠ b := by
      intro k' hne h5 he2
      obtain ⟨cs1, h6⟩ := Option.isSome_iff_exists.1 h5
      rcases hb with h | ⟨h, hb2⟩
      · have := (f.box k' cs1 h6).plain.lt; omega
      · exact hne (f.inj k' k h5 hb2 (he2.trans h))
    by_cases h4 : k1 = k <;> by_cases h5 : k2 = k
    · rw [h4, h5]
    · simp only [h4, h5, if_true, if_false] at he
      exact absurd he.symm (sep k2 h5 (old k2 h5 hs2))
    · simp only [h4, h5, if_true, if_false] at he
      exact absurd he (sep k1 h4 (old k1 h4 hs1))
    · simp only [h4, h5, if_false] at he
      exact f.inj k1 k2 (old k1 h4 hs1) (old k2 h5 hs2) he
  · rcases hx2 with h | h
    · exact f.lob x h
    · subst h; exact hlow
end
end Go.R
