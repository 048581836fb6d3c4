/- Regions in the text's order; code; calls. -/
import Derived.Test.YtmekcfdllhphlaaDoorROpAll
import Derived.Tactics
set_option linter.unusedVariables false
set_option linter.unusedSimpArgs false
namespace Go.R
open Go

section
variable {P : Program} {L0 : Nat → Prop} {c0 : Cx} {n : Nat} {ds : List Nat} {o : Oper} {s : RS}

theorem wanted_ok {ops : Array Oper} {c : Cx} {Lo : Nat → Prop} {lam : Nat → Nat} {a : Act} (f : Fr L0 c Lo lam ds s a) {b : Bool} (h : wantedA ops.toList s.ρ o = some b) : Region.wanted o (yielded ops a.tmps) = b := by
  unfold wantedA at h
  unfold Region.wanted
  split at h
  · rename_i hg; rw [hg]; cases h; rfl
  · rename_i j want hg
    rw [hg]
    rw [Option.bind_eq_some_iff] at h
    obtain ⟨d, hd, h⟩ := h
    have hd' : (ops[j]?).bind (·.dst) = some d := by simpa using hd
    have hs := f.slot d
    simp only [yielded, hd', Option.bind_some]
    rw [Array.getD_eq_getD_getElem?] at hs
    split at h
    · rename_i b' hb
      cases h
      rw [hb] at hs
      simp only [SR, VR] at hs
      cases hq : a.tmps[d]? with
      | none => rw [hq] at hs; simp [undef] at hs
      | some v =>
        rw [hq] at hs
        simp only [Option.getD_some] at hs
        subst hs
        cases b' <;> cases want <;> rfl
    · rename_i hb
      cases h
      rw [hb] at hs
      simp only [SR, VR] at hs
      obtain ⟨vs, hv, _⟩ := hs
      cases hq : a.tmps[d]? with
      | none => rfl
      | some v =>
        rw [hq] at hv
        simp only [Option.getD_some] at hv
        subst hv
        rfl
    · cases h

theorem stepA_ok {cf : CallF} (hcf : CallOK P cf) (hb0 : c0.base ≤ c0.w.heap.size) {ops : Array Oper} (hds : ds = ops.toList.filterMap (·.dst)) (hd : DstOK n ds o) {locs : List Nat} {s' : RS} (h : stepA P cf locs ops.toList s o = some s')
    {a : Act} {w : World} {K : Act → World → Prop} {Q : Exit → Act → World → Prop} (hi : Inv L0 c0 n ds s a w) (hK : ∀ a' w', Inv L0 c0 n ds s' a' w' → K a' w') :
    if Region.wanted o (yielded ops a.tmps) then o.wp P a w K Q else K (a.put o.dst undef) w := by
  unfold stepA at h
  rw [Option.bind_eq_some_iff] at h
  obtain ⟨b, hb, h⟩ := h
  have hi0 := hi
  obtain ⟨hn, c, Lo, lam, rfl, f, e⟩ := hi
  rw [wanted_ok f hb]
  cases b with
  | true =>
    simp only [if_true] at h ⊢
    rw [← hds] at h
    exact opA_ok hcf hb0 hd h a c.w K Q hi0 hK
  | false =>
    simp only [Bool.false_eq_true, if_false, Option.some.injEq] at h ⊢
    subst h
    exact hK _ _ ⟨(put_size _ _ _).trans hn, c, Lo, lam, rfl, f.set (SR.of (by simp [VR, undef, VRs])) (fun t ht => by rw [hn]; exact hd t ht), e⟩

/-- The destinations lie in the frame. -/
def dstsB (n : Nat) (ops : List Oper) : Bool := ops.all fun o => match o.dst with | some t => Nat.blt t n | none => true

theorem dstsB_ok {ops : List Oper} (h : dstsB n ops = true) {o : Oper} (ho : o ∈ ops) : DstOK n (ops.filterMap (·.dst)) o := by
  intro t ht
  unfold dstsB at h
  rw [List.all_eq_true] at h
  have := h o ho
  rw [ht] at this
  exact ⟨Nat.blt_eq.mp this, List.mem_filterMap.2 ⟨o, ho, ht⟩⟩

theorem runA_ok {cf : CallF} (hcf : CallOK P cf) (hb0 : c0.base ≤ c0.w.heap.size) {ops : Array Oper} (hds : ds = ops.toList.filterMap (·.dst)) (hdn : dstsB n ops.toList = true) {locs : List Nat} {Q : Exit → Act → World → Prop} {s' : RS} (hQ : ∀ a' w', Inv L0 c0 n ds s' a' w' → Q .normal a' w') :
    ∀ (l : List Oper) (s : RS), (∀ o ∈ l, o ∈ ops.toList) → runA P cf locs ops.toList s l = some s' → ∀ a w, Inv L0 c0 n ds s a w → wpList P ops Q l a w
  | [], s, _, h, a, w, hi => by
    simp only [runA, Option.some.injEq] at h
    subst h
    exact wpList_nil (hQ a w hi)
  | o :: l, s, hl, h, a, w, hi => by
    simp only [runA, Option.bind_eq_some_iff] at h
    obtain ⟨s1, h1, h2⟩ := h
    refine wpList_step fun K hK => ?_
    exact stepA_ok hcf hb0 hds (by rw [hds]; exact dstsB_ok hdn (hl o (by simp))) h1 hi fun a' w' hi' => hK a' w' (runA_ok hcf hb0 hds hdn hQ l s1 (fun o ho => hl o (by simp [ho])) h2 a' w' hi')

/-! ### Between regions -/
theorem look_mem {α : Type} (d : α) : ∀ (ks : List Nat) (g : Nat → α) (t : Nat), look d ks (ks.map g) t = if t ∈ ks then g t else d
  | [], g, t => rfl
  | k :: ks, g, t => by
    simp only [List.map_cons, look, beq_nat, look_mem d ks g t, List.mem_cons]
    by_cases h : t = k
    · subst h; simp
    · simp [h]

/-- Fewer things are known. -/
theorem Fr.forget {c : Cx} {Lo : Nat → Prop} {lam : Nat → Nat} {a : Act} (f : Fr L0 c Lo lam ds s a) {s2 : RS} (hh : s2.h = s.h) (hb : ∀ k cs, s2.bx k = some cs → s.bx k = some cs)
    (hr : ∀ t, s2.ρ t = .any ∨ s2.ρ t = s.ρ t ∧ ∀ k off, s.ρ t = .lp k off → k = t ∧ ((s.bx k).isSome = true → (s2.bx k).isSome = true)) : Fr L0 c Lo lam [] s2 a := by
  refine ⟨f.h.trans hh.symm, f.rel, fun t => ?_, fun k cs h => f.box k cs (hb k cs h), fun k k' h h' => f.inj k k' ?_ ?_, fun t k off _ he => ?_, f.defers, f.lob⟩
  · rcases hr t with h | ⟨h, h2⟩
    · rw [h]; exact SR.of (by simp [VR])
    · rw [h]
      have hs := f.slot t
      cases hx : s.ρ t <;> rw [hx] at hs <;> try exact hs
      rename_i k off
      simp only [SR] at hs ⊢
      exact ⟨hs.1, (h2 k off hx).2 hs.2⟩
  · obtain ⟨cs, hcs⟩ := Option.isSome_iff_exists.1 h; rw [hb k cs hcs]; rfl
  · obtain ⟨cs, hcs⟩ := Option.isSome_iff_exists.1 h'; rw [hb k' cs hcs]; rfl
  · rcases hr t with h | ⟨h, h2⟩
    · rw [h] at he; cases he
    · exact (h2 k off (h ▸ he)).1

theorem Inv.shut {a : Act} {w : World} (A : Ann) (h : Inv L0 c0 n ds s a w) : Inv L0 c0 n [] ((s.shut A).open A) a w := by
  obtain ⟨hn, c, Lo, lam, rfl, f, e⟩ := h
  refine ⟨hn, c, Lo, lam, rfl, f.forget rfl (fun k cs hk => ?_) (fun t => ?_), e⟩
  · simp only [RS.shut, St.open, look_mem] at hk
    split at hk
    · exact hk
    · cases hk
  · simp only [RS.shut, St.open, look_mem]
    split
    · unfold shutV
      cases hx : s.ρ t <;> simp only <;> try (right; exact ⟨trivial, fun k off he => by cases he⟩)
      rename_i k off
      cases hc : (Nat.beq k t && Nat.beq off 0 && A.locs.contains k) with
      | false => left; rfl
      | true =>
        right
        simp only [Bool.and_eq_true, beq_nat, decide_eq_true_eq, List.contains_iff_mem] at hc
        refine ⟨rfl, fun k' off' he => ?_⟩
        cases he
        refine ⟨hc.1.1, fun hs => ?_⟩
        rw [if_pos hc.2]
        exact hs
    · left; rfl

theorem Inv.wide {a : Act} {w : World} (h : Inv L0 c0 n [] s a w) (ds : List Nat) : Inv L0 c0 n ds s a w := by
  obtain ⟨hn, c, Lo, lam, rfl, f, e⟩ := h
  exact ⟨hn, c, Lo, lam, rfl, ⟨f.h, f.rel, f.slot, f.box, f.inj, fun t k off _ he => f.tidy t k off (by simp) he, f.defers, f.lob⟩, e⟩

/-- The tape is drawn from. -/
theorem Inv.drew {a : Act} {w : World} (h : Inv L0 c0 n ds s a w) : Inv L0 c0 n ds s a { w with drawn := w.drawn + 1 } := by
  obtain ⟨hn, c, Lo, lam, rfl, f, e⟩ := h
  obtain ⟨e', f'⟩ := f.world (w' := { c.w with drawn := c.w.drawn + 1 }) (fun b _ => .inl rfl) (fun _ _ => rfl) (fun b _ => rfl) (Nat.le_refl _) rfl rfl rfl
  exact ⟨hn, _, Lo, lam, rfl, f', e.trans e'⟩

/-! ### Loops -/
def LoopWP (P : Program) (c : Code) (Q : Exit → Act → World → Prop) (a : Act) (w : World) : Prop :=
  ∀ (b : Frame) (k : List Item) (cs : List Frame), ∃ e a' w', Q e a' w' ∧ Arrives P (lone (b.at a (.code c :: .inLoop c :: k)) cs w) b k cs e a' w'

theorem LoopWP.step {c : Code} {Q : Exit → Act → World → Prop} {a : Act} {w : World} (h : c.wp P (Exit.then (LoopWP P c Q) Q) a w) : LoopWP P c Q a w := by
  intro b k cs
  obtain ⟨e, a₁, w₁, hq, harr⟩ := h b (.inLoop c :: k) cs
  cases e with
  | normal =>
    obtain ⟨e₂, a₂, w₂, hq₂, harr₂⟩ := hq b k cs
    exact ⟨e₂, a₂, w₂, hq₂, .of_steps (Steps.trans harr (.one step_inLoop)) harr₂⟩
  | exit id => exact ⟨_, a₁, w₁, hq, .pass (x := .inLoop c) rfl (fun _ _ => .inl (by simp)) harr⟩
  | goto l => exact ⟨_, a₁, w₁, hq, .pass (x := .inLoop c) rfl (fun _ _ => .inl (by simp)) harr⟩
  | ret => exact ⟨_, a₁, w₁, hq, .pass (x := .inLoop c) rfl (fun _ _ => .inl (by simp)) harr⟩
  | panic ch => exact ⟨_, a₁, w₁, hq, .pass (x := .inLoop c) rfl (fun _ _ => .inl (by simp)) harr⟩
  | outgrown => exact ⟨_, a₁, w₁, hq, .pass (x := .inLoop c) rfl (fun _ _ => .inl (by simp)) harr⟩

theorem LoopWP.loop {c : Code} {Q : Exit → Act → World → Prop} {a : Act} {w : World} (h : LoopWP P c Q a w) : (Code.loop c).wp P Q a w := by
  intro b k cs
  obtain ⟨e, a', w', hq, harr⟩ := h b k cs
  exact ⟨e, a', w', hq, .of_steps (.one step_loop) harr⟩

/-! ### Code -/
def Ex.exit' : Ex → Exit
  | .norm => .normal
  | .exit id => .exit id
  | .ret => .ret

/-- Every region's destinations lie in the frame. -/
def codeB (n : Nat) : Code → Bool
  | .region _ ops _ => dstsB n ops.toList
  | .seq a b => codeB n a && codeB n b
  | .cond _ x y => codeB n x && codeB n y
  | .block _ c => codeB n c
  | .loop c => codeB n c
  | _ => true

/-- What is asked of the regions whose order is open. -/
def DrawOK (P : Program) (cf : CallF) : Prop :=
  ∀ (L0 : Nat → Prop) (c0 : Cx) (n : Nat) (locs : List Nat) (id : Nat) (ops : Array Oper) (s s' : RS), drawsA P cf locs ops s = some s' → c0.base ≤ c0.w.heap.size → dstsB n ops.toList = true →
    ∀ a w Q, Inv L0 c0 n (ops.toList.filterMap (·.dst)) s a w → (∀ a' w', Inv L0 c0 n (ops.toList.filterMap (·.dst)) s' a' w' → Q .normal a' w') → (Code.region id ops true).wp P Q a w

theorem execA_ok {cf : CallF} (hcf : CallOK P cf) (hdr : DrawOK P cf) (hb0 : c0.base ≤ c0.w.heap.size) {A : Ann} {m : Nat} : ∀ (c : Code), codeB n c = true → ∀ (st st' : St) (ex : Ex), execA P cf A m c st = some (ex, st') →
    ∀ a w Q, Inv L0 c0 n [] (st.open A) a w → (∀ a' w', Inv L0 c0 n [] (st'.open A) a' w' → Q ex.exit' a' w') → c.wp P Q a w
  | .skip, _, st, st', ex, h, a, w, Q, hi, hQ => by
    simp only [execA, Option.some.injEq, Prod.mk.injEq] at h
    obtain ⟨rfl, rfl⟩ := h
    exact wp_skip (hQ a w hi)
  | .label _, _, st, st', ex, h, a, w, Q, hi, hQ => by
    simp only [execA, Option.some.injEq, Prod.mk.injEq] at h
    obtain ⟨rfl, rfl⟩ := h
    exact wp_label (hQ a w hi)
  | .ret, _, st, st', ex, h, a, w, Q, hi, hQ => by
    simp only [execA, Option.some.injEq, Prod.mk.injEq] at h
    obtain ⟨rfl, rfl⟩ := h
    exact wp_ret (hQ a w hi)
  | .exit id, _, st, st', ex, h, a, w, Q, hi, hQ => by
    simp only [execA, Option.some.injEq, Prod.mk.injEq] at h
    obtain ⟨rfl, rfl⟩ := h
    exact wp_exit (hQ a w hi)
  | .seq x y, hB, st, st', ex, h, a, w, Q, hi, hQ => by
    simp only [codeB, Bool.and_eq_true] at hB
    simp only [execA, Option.bind_eq_some_iff] at h
    obtain ⟨⟨ex1, st1⟩, h1, h2⟩ := h
    refine wp_seq (execA_ok hcf hdr hb0 x hB.1 st st1 ex1 h1 a w _ hi fun a' w' hi' => ?_)
    cases ex1 with
    | norm => exact execA_ok hcf hdr hb0 y hB.2 st1 st' ex h2 a' w' Q hi' hQ
    | exit id =>
      simp only [Option.some.injEq, Prod.mk.injEq] at h2
      obtain ⟨rfl, rfl⟩ := h2
      exact hQ a' w' hi'
    | ret =>
      simp only [Option.some.injEq, Prod.mk.injEq] at h2
      obtain ⟨rfl, rfl⟩ := h2
      exact hQ a' w' hi'
  | .cond k x y, hB, st, st', ex, h, a, w, Q, hi, hQ => by
    simp only [codeB, Bool.and_eq_true] at hB
    simp only [execA, Option.bind_eq_some_iff] at h
    obtain ⟨t, ht, h⟩ := h
    have hk : a.eval k = .bool t := by
      obtain ⟨hn, c, Lo, lam, rfl, f, e⟩ := hi
      have hk := opnd_SR f k
      unfold boolA at ht
      split at ht
      · rename_i b hb
        cases ht
        rw [hb] at hk
        simpa [SR, VR] using hk
      · cases ht
    refine wp_cond hk ?_
    cases t with
    | true => exact execA_ok hcf hdr hb0 x hB.1 st st' ex (by simpa using h) a w Q hi hQ
    | false => exact execA_ok hcf hdr hb0 y hB.2 st st' ex (by simpa using h) a w Q hi hQ
  | .block id x, hB, st, st', ex, h, a, w, Q, hi, hQ => by
    simp only [codeB] at hB
    simp only [execA, Option.map_eq_some_iff] at h
    obtain ⟨⟨ex1, st1⟩, h1, h2⟩ := h
    refine wp_block (execA_ok hcf hdr hb0 x hB st st1 ex1 h1 a w _ hi fun a' w' hi' => ?_)
    cases ex1 with
    | norm =>
      simp only [Prod.mk.injEq] at h2
      obtain ⟨rfl, rfl⟩ := h2
      exact hQ a' w' hi'
    | exit id' =>
      simp only [Prod.mk.injEq] at h2
      obtain ⟨rfl, rfl⟩ := h2
      have := hQ a' w' hi'
      simp only [Ex.exit', Exit.inBlock]
      split
      · rename_i he; rw [if_pos he] at this; exact this
      · rename_i he; rw [if_neg he] at this; exact this
    | ret =>
      simp only [Prod.mk.injEq] at h2
      obtain ⟨rfl, rfl⟩ := h2
      exact hQ a' w' hi'
  | .loop x, hB, st, st', ex, h, a, w, Q, hi, hQ => by
    simp only [codeB] at hB
    simp only [execA] at h
    have key : ∀ (j : Nat) (st : St), iterA (execA P cf A m x) j st = some (ex, st') → ∀ a w, Inv L0 c0 n [] (st.open A) a w → LoopWP P x Q a w := by
      intro j
      induction j with
      | zero => intro st h; simp [iterA] at h
      | succ j ih =>
        intro st h a w hi
        simp only [iterA, Option.bind_eq_some_iff] at h
        obtain ⟨⟨ex1, st1⟩, h1, h2⟩ := h
        refine LoopWP.step (execA_ok hcf hdr hb0 x hB st st1 ex1 h1 a w _ hi fun a' w' hi' => ?_)
        cases ex1 with
        | norm => exact ih st1 h2 a' w' hi'
        | exit id =>
          simp only [Option.some.injEq, Prod.mk.injEq] at h2
          obtain ⟨rfl, rfl⟩ := h2
          exact hQ a' w' hi'
        | ret =>
          simp only [Option.some.injEq, Prod.mk.injEq] at h2
          obtain ⟨rfl, rfl⟩ := h2
          exact hQ a' w' hi'
    exact LoopWP.loop (key m st h a w hi)
  | .region id ops draw, hB, st, st', ex, h, a, w, Q, hi, hQ => by
    simp only [codeB] at hB
    simp only [execA, Option.map_eq_some_iff, Prod.mk.injEq] at h
    obtain ⟨s', h1, rfl, rfl⟩ := h
    cases draw with
    | true =>
      simp only [if_true] at h1
      exact hdr L0 c0 n A.locs id ops _ s' h1 hb0 hB a w Q (hi.wide _) fun a' w' hi' => hQ a' w' (hi'.shut A)
    | false =>
      simp only [Bool.false_eq_true, if_false] at h1
      exact wp_region_list (runA_ok hcf hb0 rfl hB (fun a' w' hi' => hQ a' w' (hi'.shut A)) ops.toList _ (fun _ h => h) h1 a w (hi.wide _))
  | .rangeFunc .., _, st, st', ex, h, _, _, _, _, _ => by simp [execA] at h
  | .scope .., _, st, st', ex, h, _, _, _, _, _ => by simp [execA] at h
  | .goto .., _, st, st', ex, h, _, _, _, _, _ => by simp [execA] at h
  | .refuse .., _, st, st', ex, h, _, _, _, _, _ => by simp [execA] at h

/-! ### Calls -/
theorem resA_ok {c : Cx} {Lo : Nat → Prop} {lam : Nat → Nat} {a : Act} (f : Fr L0 c Lo lam ds s a) : ∀ (rs : List ResultVar) (l : List AV), resA P s rs = some l → l.all AV.argOK = true →
    ∃ vs : List Value, (rs.mapM (m := Sem) fun | .tmp t => pure (a.tmps.getD t undef) | .cell x t => do loadVar t (← asAddr (a.tmps.getD x undef))).run P c.w = .ok vs c.w ∧ VRs c (un L0 Lo) l vs
  | [], l, h, _ => by
    simp only [resA, Option.some.injEq] at h
    subst h
    exact ⟨[], rfl, trivial⟩
  | .tmp t :: rs, l, h, hl => by
    simp only [resA, Option.map_eq_some_iff] at h
    obtain ⟨l', h1, rfl⟩ := h
    simp only [List.all_cons, Bool.and_eq_true] at hl
    obtain ⟨vs, h2, h3⟩ := resA_ok f rs l' h1 hl.2
    refine ⟨a.tmps.getD t undef :: vs, ?_, (f.slot t).vr (argOK_ne hl.1), h3⟩
    simp only [List.mapM_cons, Sem.run_bind, Sem.run_pure, Result.andThen_ok, h2]
  | .cell x t :: rs, l, h, hl => by
    simp only [resA, Option.bind_eq_some_iff, Option.map_eq_some_iff] at h
    obtain ⟨y, hy, l', h1, rfl⟩ := h
    simp only [List.all_cons, Bool.and_eq_true] at hl
    obtain ⟨vs, h2, h3⟩ := resA_ok f rs l' h1 hl.2
    have hx := f.slot x
    obtain ⟨u, hr, hu⟩ := run_loadAt (P := P) f (t := t) hx hy
    have hp : ∃ ad, a.tmps.getD x undef = .pointer (some ad) := by
      unfold loadA at hy
      cases hq : s.ρ x <;> rw [hq] at hy hx <;> simp only at hy <;> try (cases hy; done)
      · simp only [SR, VR] at hx; obtain ⟨_, ad, h, _⟩ := hx; exact ⟨ad, h⟩
      · simp only [SR] at hx; exact ⟨_, hx.1⟩
      · simp only [SR, VR] at hx; obtain ⟨_, _, h, _⟩ := hx; exact ⟨_, h⟩
    obtain ⟨ad, hp⟩ := hp
    rw [hp] at hr
    have hr' : (loadVar t ad).run P c.w = .ok u c.w := by simpa [Instr.loadAt, Instr.sureAddr] using hr
    refine ⟨u :: vs, ?_, hu, h3⟩
    have ha : (asAddr (a.tmps.getD x undef)).run P c.w = .ok ad c.w := by rw [hp]; rfl
    simp only [List.mapM_cons, Sem.run_bind, Sem.run_pure, Result.andThen_ok, h2, ha, hr']

theorem un_none0 : un L0 none0 = L0 := by funext b; simp [un, none0]

theorem Ext.close {c c' : Cx} {Lo' : Nat → Prop} (e : Ext c none0 c' Lo') : Ext c none0 c' none0 :=
  ⟨e.next, e.live, e.size, e.keep, e.exact, e.base, e.img, fun _ h => h, fun _ h => h.elim, e.os, e.tape, e.output⟩

theorem HRel.anti {c : Cx} {L L' : Nat → Prop} (hL : ∀ b, L' b → L b) (h : HRel c L) : HRel c L' :=
  ⟨h.lt, fun id o ho => by
    have := h.obj id o ho
    cases o with
    | cells cs => obtain ⟨m, h1, h2, h3⟩ := this; exact ⟨m, h1, h2, Cells.anti hL _ _ _ h3⟩
    | row t cs => obtain ⟨h0, C, h1, h2, h4, h3⟩ := this; exact ⟨h0, C, h1, h2, h4, Cells.anti hL _ _ _ h3⟩
    | map es =>
      obtain ⟨ents, clock, h1, h2⟩ := this
      refine ⟨ents, clock, h1, ?_⟩
      clear h1
      have : ∀ (es : List (AV × AV)) (ms : List MapEntry), EntR c L es ms → EntR c L' es ms := by
        intro es
        induction es with
        | nil => intro ms h; cases ms with | nil => trivial | cons m ms => exact h.elim
        | cons e es ih => intro ms h; cases ms with
          | nil => exact h.elim
          | cons m ms => obtain ⟨h1, h2, h3⟩ := h; exact ⟨⟨VR.anti hL _ _ h1.1, h1.2⟩, VR.anti hL _ _ h2, ih _ h3⟩
      exact this _ _ h2, h.inj, fun id hl hb => h.out id hl (hL _ hb), fun b hb => h.bd b (hL b hb), h.low, h.ver⟩

/-- The program is such that the interpreter may be believed. -/
structure Fit (P : Program) : Prop where
  mixed : P.follows .mixedOrders = true
  codes : ∀ (f : FuncId) fn c, P.funcs[f]? = some fn → fn.body = some c → codeB fn.ntmps c = true ∧ fn.name ≠ "runtime.NumGoroutine"

/-- What the functions that the interpreter does not read must show. -/
def IntrOK (P : Program) (intr : FuncId → Option (List AV → AHeap → Option (AV × AHeap))) : Prop :=
  ∀ f g, intr f = some g → (CallOK P fun f' args h => if f' = f then g args h else none) ∧ ∀ args h r h', g args h = some (r, h') → Steady h h'

theorem callFunc_enter {f : FuncId} {fn : Func} {c : Code} (hf : P.funcs[f]? = some fn) (hc : fn.body = some c) (hn : fn.name ≠ "runtime.NumGoroutine") (vs : Array Value) (w : World) : (callFunc f vs).run P w = .ok (.enter f vs) w := by
  have hn' : (fn.name == "runtime.NumGoroutine") = false := by simpa using hn
  simp [callFunc, program, Sem.run, hf, hn, hc]

theorem bodyA_ok (hP : Fit P) {ann : FuncId → Ann} {cf : CallF} (ih : CallOK P cf) (hdr : DrawOK P cf) (m : Nat) : CallOK P (bodyA P ann cf m) := by
  intro f args h r h' hc
  unfold bodyA at hc
  rw [Option.bind_eq_some_iff] at hc
  obtain ⟨fn, hf, hc⟩ := hc
  rw [Option.bind_eq_some_iff] at hc
  obtain ⟨c, hb, hc⟩ := hc
  obtain ⟨hB, hname⟩ := hP.codes f fn c hf hb
  refine ⟨callFunc_enter hf hb hname, fun L0 c0 vs hh hb0 hrel hargs => ?_⟩
  split at hc
  rotate_left
  · cases hc
  rename_i hlen
  rw [Option.bind_eq_some_iff] at hc
  obtain ⟨⟨ex, st⟩, hex, hc⟩ := hc
  have hl := hargs.length
  refine calls_of_wp hf hb ?_
  refine execA_ok (L0 := L0) (c0 := c0) (n := fn.ntmps) ih hdr hb0 c hB _ _ _ hex _ _ _ ?_ ?_
  · refine ⟨by simp; omega, c0, none0, fun _ => 0, rfl, ⟨hh, by rw [un_none0]; exact hrel, fun t => ?_, fun k cs hk => ?_, fun k k' hk => ?_, fun t k off _ he => ?_, rfl, fun b hb => hb.elim⟩, Ext.refl _ _⟩
    · simp only [St.open, argsVars, look_mem]
      split
      · by_cases ht : t < args.length
        · obtain ⟨v, hv, hr⟩ := hargs.get t args[t] (by simp [ht])
          have : args.getD t AV.any = args[t] := by simp [ht]
          rw [this, Array.getD_eq_getD_getElem?, Array.getElem?_append_left (by simp; omega)]
          have hv' : vs.toArray[t]? = some v := by simpa using hv
          rw [hv']
          exact SR.of (by rw [un_none0]; exact hr)
        · have : args.getD t AV.any = .any := by simp [List.getElem?_eq_none (Nat.not_lt.1 ht)]
          rw [this]
          exact SR.of (by simp [VR])
      · exact SR.of (by simp [VR])
    · simp only [St.open, look_mem] at hk
      split at hk <;> cases hk
    · simp only [St.open, look_mem] at hk
      split at hk <;> cases hk
    · simp only [St.open, argsVars, look_mem] at he
      split at he
      · by_cases ht : t < args.length
        · obtain ⟨v, hv, hr⟩ := hargs.get t args[t] (by simp [ht])
          have h1 : args.getD t AV.any = args[t] := by simp [ht]
          rw [h1] at he
          rw [he] at hr
          exact hr.elim
        · have : args.getD t AV.any = .any := by simp [List.getElem?_eq_none (Nat.not_lt.1 ht)]
          rw [this] at he
          cases he
      · cases he
  · intro a' w' hi'
    have hfin : (resultA P (st.open (ann f)) fn.results.toList).map (fun r => (r, st.h)) = some (r, h') → a'.defers = [] ∧ ∃ v, (results fn a'.tmps).run P w' = .ok v w' ∧ (∃ c' v', Ending.returned v = .returned v' ∧ c'.w = w' ∧ c'.h = h' ∧ VR c' L0 r v' ∧ HRel c' L0 ∧ Ext c0 none0 c' none0) := by
      intro hc
      rw [Option.map_eq_some_iff] at hc
      obtain ⟨r', hr', he⟩ := hc
      cases he
      obtain ⟨hn, c', Lo, lam, rfl, f', e'⟩ := hi'
      refine ⟨f'.defers, ?_⟩
      unfold resultA at hr'
      rw [Option.bind_eq_some_iff] at hr'
      obtain ⟨l, hl, hr'⟩ := hr'
      split at hr'
      rotate_left
      · cases hr'
      rename_i hall
      obtain ⟨us, hus, hvr⟩ := resA_ok f' _ _ hl hall
      have hvr' : VRs c' L0 l us := VRs.anti (fun b hb => .inl hb) _ _ hvr
      have hrun : (results fn a'.tmps).run P c'.w = .ok (if h : us.toArray.size = 1 then us.toArray[0] else .tuple us.toArray) c'.w := by
        unfold results
        rw [← Array.toArray_toList (xs := fn.results)]
        rw [List.mapM_toArray]
        simp only [Sem.run_bind, Sem.run_map, Result.andThen_ok, Sem.run_pure]
        exact (congrArg (fun z => (Result.andThen z (fun (a : List Value) w' => Result.ok a.toArray w')).andThen (fun (a : Array Value) w' => Result.ok (if h : a.size = 1 then a[0] else Value.tuple a) w')) hus).trans rfl
      refine ⟨_, hrun, c', _, rfl, rfl, f'.h, ?_, HRel.anti (fun b hb => .inl hb) f'.rel, e'.close⟩
      split at hr'
      · rename_i x
        cases hr'
        cases us with
        | nil => exact hvr'.elim
        | cons u us => cases us with
          | nil => exact hvr'.1
          | cons u2 us => exact hvr'.2.elim
      · rename_i hne
        cases hr'
        have hne1 : us.length ≠ 1 := by
          intro h1
          rw [← hvr'.length] at h1
          cases l with
          | nil => simp at h1
          | cons x l => cases l with
            | nil => exact hne x rfl
            | cons y l => simp at h1
        have : ¬ us.toArray.size = 1 := by simpa using hne1
        rw [dif_neg this]
        simp only [VR]
        exact ⟨us.toArray, rfl, hvr'⟩
    cases ex with
    | norm => exact hfin hc
    | ret => exact hfin hc
    | exit id => cases hc
end
end Go.R
