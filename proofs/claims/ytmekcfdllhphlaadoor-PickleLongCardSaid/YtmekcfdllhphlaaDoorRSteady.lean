/- Whatever the interpreter does to the heap bears a new stamp. -/
import Derived.Test.YtmekcfdllhphlaaDoorRLocal
set_option linter.unusedVariables false
set_option linter.unusedSimpArgs false
namespace Go.R
open Go

def SteadyF (cf : CallF) : Prop := ∀ f args h r h', cf f args h = some (r, h') → Steady h h'

section
variable {P : Program} {cf : CallF} {locs ds : List Nat} {o : Oper} {s s' : RS}

theorem appendA_steady {h h' : AHeap} {t t2 : TypeId} {x y z : AV} (hh : appendA P h t t2 x y = some (z, h')) : Steady h h' := by
  unfold appendA at hh
  rw [Option.bind_eq_some_iff] at hh
  obtain ⟨d, _, hh⟩ := hh
  cases d <;> simp only at hh <;> try (cases hh; done)
  rw [Option.bind_eq_some_iff] at hh
  obtain ⟨i, _, hh⟩ := hh
  rw [Option.bind_eq_some_iff] at hh
  obtain ⟨⟨new, m⟩, _, hh⟩ := hh
  simp only at hh
  split at hh
  · cases hh
  split at hh
  · split at hh
    · cases hh
    · split at hh <;> cases hh
      · exact Steady.refl _
      · exact Steady.put _ _ _
  · split at hh
    · cases hh
    · split at hh <;> cases hh
      · exact Steady.refl _
      · exact Steady.put _ _ _
  · rw [Option.bind_eq_some_iff] at hh
    obtain ⟨ob, _, hh⟩ := hh
    cases ob with
    | map es => cases hh
    | row t cs => cases hh
    | cells cs =>
      simp only at hh
      split at hh
      · cases hh
      · split at hh <;> cases hh
        · exact Steady.refl _
        · exact (Steady.kill _ _).trans (Steady.put _ _ _)
  · cases hh

theorem copyA_steady {h h' : AHeap} {t t2 : TypeId} {x y z : AV} (hh : copyA P h t t2 x y = some (z, h')) : Steady h h' := by
  unfold copyA at hh
  rw [Option.bind_eq_some_iff] at hh
  obtain ⟨d, _, hh⟩ := hh
  cases d <;> simp only at hh <;> try (cases hh; done)
  rw [Option.bind_eq_some_iff] at hh
  obtain ⟨i, _, hh⟩ := hh
  rw [Option.bind_eq_some_iff] at hh
  obtain ⟨⟨new, m⟩, _, hh⟩ := hh
  simp only at hh
  split at hh
  · cases hh
  split at hh
  · rw [Option.bind_eq_some_iff] at hh
    obtain ⟨ob, _, hh⟩ := hh
    cases ob with
    | map es => cases hh
    | row t cs => cases hh
    | cells cs =>
      simp only at hh
      split at hh <;> cases hh
      exact Steady.put _ _ _
  · split at hh <;> cases hh
    exact Steady.refl _
  · cases hh

theorem clearA_steady {h h' : AHeap} {t : TypeId} {x : AV} (hh : clearA P h t x = some h') : Steady h h' := by
  unfold clearA at hh
  rw [Option.bind_eq_some_iff] at hh
  obtain ⟨d, _, hh⟩ := hh
  cases x <;> simp only at hh <;> try (cases hh; done)
  · cases hh; exact Steady.refl _
  · rw [Option.bind_eq_some_iff] at hh
    obtain ⟨ob, _, hh⟩ := hh
    cases ob with
    | cells cs => cases hh
    | row t cs => cases hh
    | map es => cases hh; exact Steady.put _ _ _

theorem mapUpdA_steady {h h' : AHeap} {t : TypeId} {x y z : AV} (hh : mapUpdA P h t x y z = some h') : Steady h h' := by
  unfold mapUpdA at hh
  rw [Option.bind_eq_some_iff] at hh
  obtain ⟨d, _, hh⟩ := hh
  cases d <;> simp only at hh <;> try (cases hh; done)
  split at hh
  · cases hh
  cases x <;> simp only at hh <;> try (cases hh; done)
  rw [Option.bind_eq_some_iff] at hh
  obtain ⟨ob, _, hh⟩ := hh
  cases ob with
  | cells cs => cases hh
  | row t cs => cases hh
  | map es =>
    obtain ⟨es', _, rfl⟩ := Option.map_some' hh
    exact Steady.put _ _ _

theorem makeSliceA_steady {h h' : AHeap} {t : TypeId} {x y z : AV} (hh : makeSliceA P h t x y = some (z, h')) : Steady h h' := by
  unfold makeSliceA at hh
  split at hh
  · rw [Option.bind_eq_some_iff] at hh
    obtain ⟨d, _, hh⟩ := hh
    cases d <;> simp only at hh <;> try (cases hh; done)
    rw [Option.bind_eq_some_iff] at hh
    obtain ⟨i, _, hh⟩ := hh
    rw [Option.bind_eq_some_iff] at hh
    obtain ⟨z, _, hh⟩ := hh
    split at hh <;> cases hh
    exact Steady.put _ _ _
  · cases hh

theorem newBox_steady {cs : List AV} (h : newBox s locs ds o cs = some s') : Steady s.h s'.h := by
  unfold newBox at h
  split at h
  rotate_left
  · cases h
  split at h
  · split at h
    · split at h <;> cases h
      rw [set_h]; exact Steady.refl _
    · cases h
      rw [set_h]; exact Steady.put _ _ _
  · cases h

theorem opE_steady (hcf : SteadyF cf) {e : Operand → AV} (h : opE P cf locs ds e s o = some s') : Steady s.h s'.h := by
  have hval : ∀ {x : Option AV}, (x.map fun x => s.set o.dst x) = some s' → Steady s.h s'.h := by
    intro x hx
    obtain ⟨z, rfl, rfl⟩ := Option.map_some' hx
    rw [set_h]; exact Steady.refl _
  unfold opE at h
  dsimp only at h
  split at h
  · cases h; rw [set_h]; exact Steady.refl _
  · cases h; rw [set_h]; exact Steady.refl _
  · obtain ⟨z, _, rfl⟩ := Option.map_some' h; rw [set_h]; exact Steady.refl _
  · rw [Option.bind_eq_some_iff] at h
    obtain ⟨z, _, h⟩ := h
    exact newBox_steady h
  · exact newBox_steady h
  · exact hval h
  · exact hval h
  · exact hval h
  · split at h
    · cases h
    split at h
    · rw [Option.bind_eq_some_iff] at h
      obtain ⟨cs, _, h⟩ := h
      obtain ⟨z, _, rfl⟩ := Option.map_some' h
      exact Steady.refl _
    · rw [Option.bind_eq_some_iff] at h
      obtain ⟨ob, _, h⟩ := h
      cases ob with
      | map es => cases h
      | row t cs => cases h
      | cells cs =>
        obtain ⟨z, _, rfl⟩ := Option.map_some' h
        exact Steady.put _ _ _
    · cases h
  · exact hval h
  · exact hval h
  · exact hval h
  · exact hval h
  · split at h
    · exact hval h
    · cases h
  · cases h; rw [set_h]; exact Steady.put _ _ _
  · obtain ⟨⟨z, h'⟩, hz, rfl⟩ := Option.map_some' h
    rw [set_h]; exact makeSliceA_steady hz
  · exact hval h
  · exact hval h
  · exact hval h
  · exact hval h
  · exact hval h
  · exact hval h
  · split at h
    · cases h
    obtain ⟨h', hz, rfl⟩ := Option.map_some' h
    exact mapUpdA_steady hz
  · split at h
    · cases h
    obtain ⟨h', hz, rfl⟩ := Option.map_some' h
    exact mapUpdA_steady hz
  · exact hval h
  · unfold callBuiltin at h
    split at h
    · exact hval h
    · obtain ⟨⟨z, h'⟩, hz, rfl⟩ := Option.map_some' h
      rw [set_h]; exact appendA_steady hz
    · obtain ⟨⟨z, h'⟩, hz, rfl⟩ := Option.map_some' h
      rw [set_h]; exact copyA_steady hz
    · obtain ⟨h', hz, rfl⟩ := Option.map_some' h
      rw [set_h]; exact clearA_steady hz
    · rw [Option.bind_eq_some_iff] at h
      obtain ⟨v, _, h⟩ := h
      rw [Option.bind_eq_some_iff] at h
      obtain ⟨vs, _, h⟩ := h
      rw [Option.bind_eq_some_iff] at h
      obtain ⟨u, _, h⟩ := h
      exact hval h
    · rw [Option.bind_eq_some_iff] at h
      obtain ⟨v, _, h⟩ := h
      rw [Option.bind_eq_some_iff] at h
      obtain ⟨vs, _, h⟩ := h
      rw [Option.bind_eq_some_iff] at h
      obtain ⟨u, _, h⟩ := h
      exact hval h
    · cases h
  · split at h
    · split at h
      · obtain ⟨⟨z, h'⟩, hz, rfl⟩ := Option.map_some' h
        rw [set_h]; exact hcf _ _ _ _ _ hz
      · cases h
    · cases h
  · cases h

theorem stepA_steady (hcf : SteadyF cf) {ops : List Oper} (h : stepA P cf locs ops s o = some s') : Steady s.h s'.h := by
  unfold stepA at h
  rw [Option.bind_eq_some_iff] at h
  obtain ⟨w, _, h⟩ := h
  cases w with
  | true => exact opE_steady hcf (by simpa [opA] using h)
  | false =>
    simp only [Bool.false_eq_true, if_false, Option.some.injEq] at h
    subst h
    rw [set_h]; exact Steady.refl _

theorem runA_steady (hcf : SteadyF cf) {ops : List Oper} : ∀ {l : List Oper} {s s' : RS}, runA P cf locs ops s l = some s' → Steady s.h s'.h
  | [], s, s', h => by simp only [runA, Option.some.injEq] at h; subst h; exact Steady.refl _
  | o :: l, s, s', h => by
    simp only [runA, Option.bind_eq_some_iff] at h
    obtain ⟨s1, h1, h2⟩ := h
    exact (stepA_steady hcf h1).trans (runA_steady hcf h2)

theorem runD_steady (hcf : SteadyF cf) {ops : List Oper} : ∀ {l : List Oper} {s r : RS} {es : List Ent}, runD P cf locs ops s l = some (es, r) → Steady s.h r.h
  | [], s, r, es, h => by simp only [runD, Option.some.injEq, Prod.mk.injEq] at h; rw [h.2]; exact Steady.refl _
  | o :: l, s, r, es, h => by
    simp only [runD, Option.bind_eq_some_iff, Option.map_eq_some_iff] at h
    obtain ⟨w, hw, s1, h1, ⟨es', r'⟩, h2, h3⟩ := h
    simp only [Prod.mk.injEq] at h3
    obtain ⟨_, rfl⟩ := h3
    have h4 : stepA P cf locs ops s o = some s1 := by unfold stepA; rw [hw]; exact h1
    exact (stepA_steady hcf h4).trans (runD_steady hcf h2)

theorem drawsA_steady (hcf : SteadyF cf) {ops : Array Oper} (h : drawsA P cf locs ops s = some s') : Steady s.h s'.h := by
  unfold drawsA at h
  dsimp only at h
  split at h
  rotate_left
  · cases h
  rw [Option.bind_eq_some_iff] at h
  obtain ⟨⟨es, r⟩, hrun, h⟩ := h
  simp only at h
  split at h
  · cases h; exact runD_steady hcf hrun
  · cases h

theorem execA_steady (hcf : SteadyF cf) {A : Ann} {m : Nat} : ∀ (c : Code) (st st' : St) (e : Ex), execA P cf A m c st = some (e, st') → Steady st.h st'.h
  | .skip, st, st', e, h => by simp only [execA, Option.some.injEq, Prod.mk.injEq] at h; rw [h.2]; exact Steady.refl _
  | .label _, st, st', e, h => by simp only [execA, Option.some.injEq, Prod.mk.injEq] at h; rw [h.2]; exact Steady.refl _
  | .ret, st, st', e, h => by simp only [execA, Option.some.injEq, Prod.mk.injEq] at h; rw [h.2]; exact Steady.refl _
  | .exit _, st, st', e, h => by simp only [execA, Option.some.injEq, Prod.mk.injEq] at h; rw [h.2]; exact Steady.refl _
  | .seq x y, st, st', e, h => by
    simp only [execA, Option.bind_eq_some_iff] at h
    obtain ⟨⟨e1, s1⟩, h1, h2⟩ := h
    have := execA_steady hcf x st s1 e1 h1
    cases e1 with
    | norm => exact this.trans (execA_steady hcf y s1 st' e h2)
    | exit id => simp only [Option.some.injEq, Prod.mk.injEq] at h2; rw [← h2.2]; exact this
    | ret => simp only [Option.some.injEq, Prod.mk.injEq] at h2; rw [← h2.2]; exact this
  | .cond k x y, st, st', e, h => by
    simp only [execA, Option.bind_eq_some_iff] at h
    obtain ⟨t, _, h⟩ := h
    cases t with
    | true => exact execA_steady hcf x st st' e (by simpa using h)
    | false => exact execA_steady hcf y st st' e (by simpa using h)
  | .block id x, st, st', e, h => by
    simp only [execA, Option.map_eq_some_iff] at h
    obtain ⟨⟨e1, s1⟩, h1, h2⟩ := h
    have := execA_steady hcf x st s1 e1 h1
    cases e1 <;> (simp only [Prod.mk.injEq] at h2; rw [← h2.2]; exact this)
  | .loop x, st, st', e, h => by
    simp only [execA] at h
    have key : ∀ (j : Nat) (st : St), iterA (execA P cf A m x) j st = some (e, st') → Steady st.h st'.h := by
      intro j
      induction j with
      | zero => intro st h; simp [iterA] at h
      | succ j ih =>
        intro st h
        simp only [iterA, Option.bind_eq_some_iff] at h
        obtain ⟨⟨e1, s1⟩, h1, h2⟩ := h
        have := execA_steady hcf x st s1 e1 h1
        cases e1 with
        | norm => exact this.trans (ih s1 h2)
        | exit id => simp only [Option.some.injEq, Prod.mk.injEq] at h2; rw [← h2.2]; exact this
        | ret => simp only [Option.some.injEq, Prod.mk.injEq] at h2; rw [← h2.2]; exact this
    exact key m st h
  | .region id ops draw, st, st', e, h => by
    simp only [execA, Option.map_eq_some_iff, Prod.mk.injEq] at h
    obtain ⟨s', h1, _, rfl⟩ := h
    cases draw with
    | true => exact drawsA_steady (s := st.open A) hcf (by simpa using h1)
    | false => exact runA_steady (s := st.open A) hcf (by simpa using h1)
  | .rangeFunc .., st, st', e, h => by simp [execA] at h
  | .scope .., st, st', e, h => by simp [execA] at h
  | .goto .., st, st', e, h => by simp [execA] at h
  | .refuse .., st, st', e, h => by simp [execA] at h

theorem bodyA_steady (hcf : SteadyF cf) {ann : FuncId → Ann} {m : Nat} : SteadyF (bodyA P ann cf m) := by
  intro f args h r h' hc
  unfold bodyA at hc
  rw [Option.bind_eq_some_iff] at hc
  obtain ⟨fn, hf, hc⟩ := hc
  rw [Option.bind_eq_some_iff] at hc
  obtain ⟨c, hb, hc⟩ := hc
  split at hc
  rotate_left
  · cases hc
  rw [Option.bind_eq_some_iff] at hc
  obtain ⟨⟨e, st⟩, hex, hc⟩ := hc
  have := execA_steady hcf c _ _ _ hex
  cases e with
  | norm => obtain ⟨r', _, h2⟩ := Option.map_some' hc; cases h2; exact this
  | ret => obtain ⟨r', _, h2⟩ := Option.map_some' hc; cases h2; exact this
  | exit id => cases hc
end
end Go.R
