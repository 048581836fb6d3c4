/- Calls that are run with no heap; calls. -/
import Derived.Test.YtmekcfdllhphlaaDoorRDraw
set_option linter.unusedVariables false
set_option linter.unusedSimpArgs false
namespace Go.R
open Go

section
variable {c d : Cx} {L L' : Nat → Prop}

mutual
theorem VR_noId (hw : d.w = c.w) (hbs : d.base ≤ c.base) (hRO : ∀ b, RO c L b → RO d L' b) : ∀ (x : AV) (v : Value), x.noId = true → VR c L x v → VR d L' x v
  | .any, _, h, _ => by simp [AV.noId] at h
  | .bool _, _, _, h => h
  | .int _ _, _, _, h => h
  | .str _, _, _, h => h
  | .nilp, _, _, h => h
  | .ptr _ _, _, h, _ => by simp [AV.noId] at h
  | .lp _ _, _, h, _ => by simp [AV.noId] at h
  | .fp cs off, v, h, hv => by
    simp only [AV.noId] at h
    simp only [VR] at hv ⊢
    obtain ⟨b, o, rfl, hc⟩ := hv
    exact ⟨b, o, rfl, hc.imp id fun ⟨hr, hc⟩ => ⟨hRO b hr, Cells_noId hw hbs hRO cs b o h hc⟩⟩
  | .nils, _, _, h => h
  | .fz cs n ex, v, h, hv => by
    simp only [AV.noId] at h
    simp only [VR] at hv ⊢
    obtain ⟨a, cap, rfl, h1, h2, hs, hc⟩ := hv
    exact ⟨a, cap, rfl, h1, h2, hs, hc.imp id fun ⟨b, o, ha, hr, hex, hc⟩ => ⟨b, o, ha, hRO b hr, fun h => Nat.le_trans hbs (hex h), Cells_noId hw hbs hRO cs b o h hc⟩⟩
  | .rs _ _ _ _, _, h, _ => by simp [AV.noId] at h
  | .nilm, _, _, h => h
  | .mp _, _, h, _ => by simp [AV.noId] at h
  | .fn f cap, v, h, hv => by
    simp only [AV.noId] at h
    simp only [VR] at hv ⊢
    obtain ⟨vs, rfl, h1⟩ := hv
    exact ⟨vs, rfl, VRs_noId hw hbs hRO cap vs.toList h h1⟩
  | .nilf, _, _, h => h
  | .agg cs, v, h, hv => by
    simp only [AV.noId] at h
    simp only [VR] at hv ⊢
    obtain ⟨vs, rfl, h1⟩ := hv
    exact ⟨vs, rfl, VRs_noId hw hbs hRO cs vs.toList h h1⟩
  | .tup cs, v, h, hv => by
    simp only [AV.noId] at h
    simp only [VR] at hv ⊢
    obtain ⟨vs, rfl, h1⟩ := hv
    exact ⟨vs, rfl, VRs_noId hw hbs hRO cs vs.toList h h1⟩
theorem VRs_noId (hw : d.w = c.w) (hbs : d.base ≤ c.base) (hRO : ∀ b, RO c L b → RO d L' b) : ∀ (xs : List AV) (vs : List Value), noIds xs = true → VRs c L xs vs → VRs d L' xs vs
  | [], [], _, _ => trivial
  | x :: xs, v :: vs, h, hv => by
    simp only [noIds, Bool.and_eq_true] at h
    exact ⟨VR_noId hw hbs hRO x v h.1 hv.1, VRs_noId hw hbs hRO xs vs h.2 hv.2⟩
  | [], _ :: _, _, h => h.elim
  | _ :: _, [], _, h => h.elim
theorem Cells_noId (hw : d.w = c.w) (hbs : d.base ≤ c.base) (hRO : ∀ b, RO c L b → RO d L' b) : ∀ (xs : List AV) (b o : Nat), noIds xs = true → Cells c L xs b o → Cells d L' xs b o
  | [], _, _, _, _ => trivial
  | x :: xs, b, o, h, hv => by
    simp only [noIds, Bool.and_eq_true] at h
    obtain ⟨⟨v, h1, h2, h3⟩, h4⟩ := hv
    exact ⟨⟨v, by rw [hw]; exact h1, h2, VR_noId hw hbs hRO x v h.1 h3⟩, Cells_noId hw hbs hRO xs b (o + 1) h.2 h4⟩
end

mutual
theorem VR_uni (hw : d.w = c.w) (hRO : ∀ b, RO c L b → RO d L' b) : ∀ (x : AV) (v : Value), x.noId = true → VR c L x v → VR d L' x.unex v
  | .any, _, h, _ => by simp [AV.noId] at h
  | .bool _, _, _, h => h
  | .int _ _, _, _, h => h
  | .str _, _, _, h => h
  | .nilp, _, _, h => h
  | .ptr _ _, _, h, _ => by simp [AV.noId] at h
  | .lp _ _, _, h, _ => by simp [AV.noId] at h
  | .fp cs off, v, h, hv => by
    simp only [AV.noId] at h
    simp only [VR, AV.unex] at hv ⊢
    obtain ⟨b, o, rfl, hc⟩ := hv
    refine ⟨b, o, rfl, ?_⟩
    rcases hc with rfl | ⟨hr, hc⟩
    · exact .inl rfl
    · exact .inr ⟨hRO b hr, Cells_uni hw hRO cs b o h hc⟩
  | .nils, _, _, h => h
  | .fz cs n ex, v, h, hv => by
    simp only [AV.noId] at h
    simp only [VR, AV.unex] at hv ⊢
    obtain ⟨a, cap, rfl, h1, h2, hs, hc⟩ := hv
    refine ⟨a, cap, rfl, h1, by simp, hs, ?_⟩
    rcases hc with rfl | ⟨b, o, ha, hr, hex, hc⟩
    · exact .inl rfl
    · exact .inr ⟨b, o, ha, hRO b hr, by simp, Cells_uni hw hRO cs b o h hc⟩
  | .rs _ _ _ _, _, h, _ => by simp [AV.noId] at h
  | .nilm, _, _, h => h
  | .mp _, _, h, _ => by simp [AV.noId] at h
  | .fn f cap, v, h, hv => by
    simp only [AV.noId] at h
    simp only [VR, AV.unex] at hv ⊢
    obtain ⟨vs, rfl, h1⟩ := hv
    exact ⟨vs, rfl, VRs_uni hw hRO cap vs.toList h h1⟩
  | .nilf, _, _, h => h
  | .agg cs, v, h, hv => by
    simp only [AV.noId] at h
    simp only [VR, AV.unex] at hv ⊢
    obtain ⟨vs, rfl, h1⟩ := hv
    exact ⟨vs, rfl, VRs_uni hw hRO cs vs.toList h h1⟩
  | .tup cs, v, h, hv => by
    simp only [AV.noId] at h
    simp only [VR, AV.unex] at hv ⊢
    obtain ⟨vs, rfl, h1⟩ := hv
    exact ⟨vs, rfl, VRs_uni hw hRO cs vs.toList h h1⟩
theorem VRs_uni (hw : d.w = c.w) (hRO : ∀ b, RO c L b → RO d L' b) : ∀ (xs : List AV) (vs : List Value), noIds xs = true → VRs c L xs vs → VRs d L' (unexs xs) vs
  | [], [], _, _ => trivial
  | x :: xs, v :: vs, h, hv => by
    simp only [noIds, Bool.and_eq_true] at h
    exact ⟨VR_uni hw hRO x v h.1 hv.1, VRs_uni hw hRO xs vs h.2 hv.2⟩
  | [], _ :: _, _, h => h.elim
  | _ :: _, [], _, h => h.elim
theorem Cells_uni (hw : d.w = c.w) (hRO : ∀ b, RO c L b → RO d L' b) : ∀ (xs : List AV) (b o : Nat), noIds xs = true → Cells c L xs b o → Cells d L' (unexs xs) b o
  | [], _, _, _, _ => trivial
  | x :: xs, b, o, h, hv => by
    simp only [noIds, Bool.and_eq_true] at h
    obtain ⟨⟨v, h1, h2, h3⟩, h4⟩ := hv
    exact ⟨⟨v, by rw [hw]; exact h1, h2, VR_uni hw hRO x v h.1 h3⟩, Cells_uni hw hRO xs b (o + 1) h.2 h4⟩
end

mutual
theorem freeze_ok (hw : d.w = c.w) (hbs : d.base ≤ c.base) (hRO : ∀ b, RO c L b → RO d L' b) (hrel : HRel c L) (hid : ∀ id, Live c.h id → RO d L' (c.β id).1) : ∀ (n : Nat) (x y : AV) (v : Value), freezeA c.h n x = some y → VR c L x v → VR d L' y v
  | 0, x, y, v, h, _ => by simp [freezeA] at h
  | n + 1, x, y, v, h, hv => by
    have hdef : (if x.noId then some x else none) = some y → VR d L' y v := by
      intro h
      split at h
      · rename_i hn; cases h; exact VR_noId hw hbs hRO x v hn hv
      · cases h
    cases x with
    | ptr id off =>
      simp only [freezeA, Option.bind_eq_some_iff] at h
      obtain ⟨ob, ho, h⟩ := h
      cases ob with
      | map es => cases h
      | row t cs => cases h
      | cells cs =>
        simp only [Option.map_eq_some_iff] at h
        obtain ⟨cs', hcs, rfl⟩ := h
        have hl : Live c.h id := ⟨hrel.lt _ _ ho, by simp [ho]⟩
        obtain ⟨m, _, _, hc⟩ := hrel.obj _ _ ho
        simp only [VR] at hv ⊢
        obtain ⟨_, a, rfl, ha⟩ := hv
        rw [ha hl]
        exact ⟨_, _, rfl, .inr ⟨hid id hl, freezeCells_ok hw hbs hRO hrel hid n cs cs' _ _ hcs hc⟩⟩
    | rs id off len esz =>
      simp only [freezeA, Option.bind_eq_some_iff] at h
      obtain ⟨ob, ho, h⟩ := h
      cases ob with
      | map es => cases h
      | row t cs => cases h
      | cells cs =>
        simp only at h
        split at h
        rotate_left
        · cases h
        rename_i hle
        simp only [Option.map_eq_some_iff] at h
        obtain ⟨cs', hcs, rfl⟩ := h
        have hl : Live c.h id := ⟨hrel.lt _ _ ho, by simp [ho]⟩
        obtain ⟨m, _, _, hc⟩ := hrel.obj _ _ ho
        simp only [VR] at hv ⊢
        obtain ⟨_, a, cap, rfl, h1, h2, h3⟩ := hv
        refine ⟨a, cap, rfl, h1, by simp, h2, ?_⟩
        rcases h3 hl with ⟨h4, _⟩ | h4
        · exact .inr ⟨_, _, h4, hid id hl, by simp, freezeCells_ok hw hbs hRO hrel hid n _ cs' _ _ hcs ((hc.drop off).take (len * esz))⟩
        · left
          have hz : len = 0 := by omega
          subst hz
          rw [Nat.zero_mul, List.take_zero] at hcs
          cases n with
          | zero => simp [freezeAs] at hcs
          | succ n => simp only [freezeAs, Option.some.injEq] at hcs; exact hcs.symm
    | agg cs =>
      simp only [freezeA, Option.map_eq_some_iff] at h
      obtain ⟨cs', hcs, rfl⟩ := h
      simp only [VR] at hv ⊢
      obtain ⟨vs, rfl, h1⟩ := hv
      exact ⟨vs, rfl, freezeAs_ok hw hbs hRO hrel hid n cs cs' vs.toList hcs h1⟩
    | tup cs =>
      simp only [freezeA, Option.map_eq_some_iff] at h
      obtain ⟨cs', hcs, rfl⟩ := h
      simp only [VR] at hv ⊢
      obtain ⟨vs, rfl, h1⟩ := hv
      exact ⟨vs, rfl, freezeAs_ok hw hbs hRO hrel hid n cs cs' vs.toList hcs h1⟩
    | _ => exact hdef (by simpa only [freezeA] using h)
theorem freezeAs_ok (hw : d.w = c.w) (hbs : d.base ≤ c.base) (hRO : ∀ b, RO c L b → RO d L' b) (hrel : HRel c L) (hid : ∀ id, Live c.h id → RO d L' (c.β id).1) : ∀ (n : Nat) (xs ys : List AV) (vs : List Value), freezeAs c.h n xs = some ys → VRs c L xs vs → VRs d L' ys vs
  | 0, xs, ys, vs, h, _ => by simp [freezeAs] at h
  | n + 1, [], ys, vs, h, hv => by
    simp only [freezeAs, Option.some.injEq] at h
    subst h
    cases vs with
    | nil => trivial
    | cons v vs => exact hv.elim
  | n + 1, x :: xs, ys, vs, h, hv => by
    simp only [freezeAs, Option.bind_eq_some_iff, Option.map_eq_some_iff] at h
    obtain ⟨y, hy, zs, hz, rfl⟩ := h
    cases vs with
    | nil => exact hv.elim
    | cons v vs => exact ⟨freeze_ok hw hbs hRO hrel hid n x y v hy hv.1, freezeAs_ok hw hbs hRO hrel hid n xs zs vs hz hv.2⟩
theorem freezeCells_ok (hw : d.w = c.w) (hbs : d.base ≤ c.base) (hRO : ∀ b, RO c L b → RO d L' b) (hrel : HRel c L) (hid : ∀ id, Live c.h id → RO d L' (c.β id).1) : ∀ (n : Nat) (xs ys : List AV) (b o : Nat), freezeAs c.h n xs = some ys → Cells c L xs b o → Cells d L' ys b o
  | 0, xs, ys, b, o, h, _ => by simp [freezeAs] at h
  | n + 1, [], ys, b, o, h, hv => by
    simp only [freezeAs, Option.some.injEq] at h
    subst h
    trivial
  | n + 1, x :: xs, ys, b, o, h, hv => by
    simp only [freezeAs, Option.bind_eq_some_iff, Option.map_eq_some_iff] at h
    obtain ⟨y, hy, zs, hz, rfl⟩ := h
    obtain ⟨⟨v, h1, h2, h3⟩, h4⟩ := hv
    exact ⟨⟨v, by rw [hw]; exact h1, h2, freeze_ok hw hbs hRO hrel hid n x y v hy h3⟩, freezeCells_ok hw hbs hRO hrel hid n xs zs b (o + 1) hz h4⟩
end
end

section
variable {P : Program}

theorem pure_ok {cf : CallF} (hcf : CallOK P cf) (deep : Nat) : CallOK P fun f args h => if noIds args then (cf f (unexs args) heap0).bind fun x => (freezeA x.2 deep x.1).map fun r => (r, h) else cf f args h := by
  intro f args h r h' hc
  dsimp only at hc
  split at hc
  rotate_left
  · exact hcf f args h r h' hc
  rename_i hno
  rw [Option.bind_eq_some_iff] at hc
  obtain ⟨⟨x, h1⟩, hx, hc⟩ := hc
  rw [Option.map_eq_some_iff] at hc
  obtain ⟨r', hr, he⟩ := hc
  simp only [Prod.mk.injEq] at he
  obtain ⟨rfl, rfl⟩ := he
  obtain ⟨hin, hcall⟩ := hcf f (unexs args) heap0 x h1 hx
  refine ⟨hin, fun L0 c vs hh hb0 hrel hargs => ?_⟩
  let L1 : Nat → Prop := fun b => L0 b ∨ ∃ id, Live c.h id ∧ (c.β id).1 = b
  let c0 : Cx := ⟨fun _ => (0, 0), heap0, c.w, c.w.heap.size⟩
  have hnl : ∀ id, ¬ Live c0.h id := fun id hl => by have := hl.2; cases this
  have hRO1 : ∀ b, RO c L0 b → RO c0 L1 b := fun b hb => ⟨fun id hl => absurd hl (hnl id), fun h => by
    rcases h with h | ⟨id, h1, h2⟩
    · exact hb.2 h
    · exact hb.1 id h1 h2⟩
  have hrel0 : HRel c0 L1 := ⟨fun id o ho => (by cases ho), fun id o ho => (by cases ho), fun id _ hl _ _ => absurd hl (hnl id), fun id hl => absurd hl (hnl id), fun b hb => by
    rcases hb with h | ⟨id, h1, h2⟩
    · exact hrel.bd b h
    · rw [← h2]; exact hrel.block h1, fun id hl => absurd hl (hnl id), fun _ => Nat.zero_lt_one⟩
  refine (hcall L1 c0 vs rfl (Nat.le_refl _) hrel0 (VRs_uni (c := c) (d := c0) rfl hRO1 _ _ hno hargs)).mono ?_
  rintro e w' ⟨c1, v, rfl, rfl, hh1, hv, hrel1, e1⟩
  let d : Cx := ⟨c.β, c.h, c1.w, c.base⟩
  have hk : ∀ b, b < c.w.heap.size → c1.w.heap[b]? = c.w.heap[b]? := fun b hb => e1.exact b hb
  have ed : Ext c none0 d none0 := ⟨Nat.le_refl _, fun id _ hl => ⟨hl, rfl, Keeps.len (c := c) (c' := d) (.inl (hk _ (hrel.block hl)))⟩, e1.size, fun b hb _ _ => .inl (hk b hb), fun b hb => hk b (Nat.lt_of_lt_of_le hb hb0), rfl, fun id hl => .inr ⟨id, hl, rfl⟩, fun _ h => h, fun _ h => .inl h, e1.os, e1.tape, e1.output⟩
  have hb1 : d.base ≤ c1.base := by rw [e1.base]; exact hb0
  have hRO2 : ∀ b, RO c1 L1 b → RO d L0 b := fun b hb => ⟨fun id hl he => hb.2 (.inr ⟨id, hl, he⟩), fun h => hb.2 (.inl h)⟩
  refine ⟨d, v, rfl, rfl, hh, ?_, ⟨hrel.lt, fun id o ho => ?_, hrel.inj, hrel.out, fun b hb => Nat.lt_of_lt_of_le (hrel.bd b hb) e1.size, hrel.low, hrel.ver⟩, ed⟩
  · refine freeze_ok (c := c1) (d := d) (L := L1) rfl hb1 hRO2 hrel1 (fun id hl => ⟨fun id' hl' he => hrel1.out id hl (.inr ⟨id', hl', he⟩), fun h => hrel1.out id hl (.inl h)⟩) deep x r' v ?_ hv
    rw [hh1]; exact hr
  · have hl : Live c.h id := ⟨hrel.lt _ _ ho, by rw [ho]; rfl⟩
    have := (hrel.obj id o ho)
    have h2 := ObjR.ext (L0 := L0) ed (b := (c.β id).1) (base := (c.β id).2) (o := o) (by rw [un_none0]; exact this) (hk _ (hrel.block hl))
    rw [un_none0] at h2
    exact h2

theorem callA_steady {T : Tells} (hintr : IntrOK P T.intr) (m : Nat) : ∀ k, SteadyF (callA P T m k)
  | 0 => fun f args h r h' hc => by simp [callA] at hc
  | k + 1 => fun f args h r h' hc => by
    have hb := bodyA_steady (P := P) (ann := T.ann) (m := m) (callA_steady hintr m k)
    simp only [callA] at hc
    split at hc
    · rename_i g hg
      exact (hintr f g hg).2 _ _ _ _ hc
    · split at hc
      · split at hc
        · rw [Option.bind_eq_some_iff] at hc
          obtain ⟨x, _, hc⟩ := hc
          obtain ⟨r', _, h2⟩ := Option.map_some' hc
          cases h2
          exact Steady.refl _
        · exact hb _ _ _ _ _ hc
      · exact hb _ _ _ _ _ hc

theorem callA_ok (hP : Fit P) {T : Tells} (hintr : IntrOK P T.intr) (m : Nat) : ∀ k, CallOK P (callA P T m k)
  | 0 => fun f args h r h' hc => by simp [callA] at hc
  | k + 1 => fun f args h r h' hc => by
    have ih := callA_ok hP hintr m k
    have hb := bodyA_ok hP (ann := T.ann) ih (draws_ok hP.mixed ih (callA_steady hintr m k)) m
    simp only [callA] at hc
    split at hc
    · rename_i g hg
      exact (hintr f g hg).1 f args h r h' (by simpa using hc)
    · split at hc
      · rename_i deep _
        exact pure_ok hb deep f args h r h' hc
      · exact hb f args h r h' hc

/-- The whole program's closed facts, as one question. -/
def fitB (P : Program) : Bool := P.funcs.toList.all fun fn => fn.name != "runtime.NumGoroutine" && match fn.body with | some c => codeB fn.ntmps c | none => true

theorem fit_of (h1 : P.follows .mixedOrders = true) (h2 : fitB P = true) : Fit P := by
  refine ⟨h1, fun f fn c hf hb => ?_⟩
  unfold fitB at h2
  rw [List.all_eq_true] at h2
  have := h2 fn (Array.mem_toList_iff.2 (Array.mem_of_getElem? hf))
  rw [hb] at this
  simp only [Bool.and_eq_true, bne_iff_ne, ne_eq] at this
  exact ⟨this.2, this.1⟩

/-- No function is served otherwise. -/
theorem intr_none : IntrOK P fun _ => none := fun f g h => by cases h

/-- What is shown of calls serves in their place. -/
theorem intr_of {cf : CallF} (hcf : CallOK P cf) (hst : SteadyF cf) {intr : FuncId → Option (List AV → AHeap → Option (AV × AHeap))} (h : ∀ f g, intr f = some g → ∀ args hp x, g args hp = some x → cf f args hp = some x) : IntrOK P intr := by
  intro f g hg
  refine ⟨fun f' args hp r h' hc => ?_, fun args hp r h' hc => hst f args hp r h' (h f g hg _ _ _ hc)⟩
  dsimp only at hc
  split at hc
  · rename_i he
    subst he
    exact hcf _ _ _ _ _ (h _ g hg _ _ _ hc)
  · cases hc
end
end Go.R
