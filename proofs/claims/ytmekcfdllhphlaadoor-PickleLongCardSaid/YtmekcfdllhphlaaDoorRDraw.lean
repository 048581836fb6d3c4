/- Regions whose order is open: whatever order is drawn, it comes to what the text's order comes to. -/
import Derived.Test.YtmekcfdllhphlaaDoorRSteady
import Derived.StillTail
set_option linter.unusedVariables false
set_option linter.unusedSimpArgs false
namespace Go.R
open Go

section
variable {P : Program} {cf : CallF} {locs ds : List Nat} {o : Oper} {s s' : RS}

theorem opE_congr {e e' : Operand → AV} (h : ∀ x ∈ o.op.operands, e x = e' x) : opE P cf locs ds e s o = opE P cf locs ds e' s o := by
  have hmap : ∀ (l : List Operand), (∀ x ∈ l, e x = e' x) → l.map e = l.map e' := fun l hl => List.map_congr_left hl
  have hopt : ∀ (q : Option Operand), (∀ x, q = some x → e x = e' x) → q.map e = q.map e' := by
    intro q hq; cases q with
    | none => rfl
    | some x => simp [hq x rfl]
  unfold opE
  cases hop : o.op <;> rw [hop] at h
  case build t ps =>
    have : (ps.toList.map fun (i, x) => (i, e x)) = (ps.toList.map fun (i, x) => (i, e' x)) :=
      List.map_congr_left fun p hp => by
        have := h p.2 (by simp only [Op.operands, List.mem_toArray, List.mem_map]; exact ⟨p, hp, rfl⟩)
        simp [this]
    simp only [this]
  case buildSlice t n ps =>
    have : (ps.toList.map fun (i, x) => (i, e x)) = (ps.toList.map fun (i, x) => (i, e' x)) :=
      List.map_congr_left fun p hp => by
        have := h p.2 (by simp only [Op.operands, List.mem_toArray, List.mem_map]; exact ⟨p, hp, rfl⟩)
        simp [this]
    simp only [this]
  case makeFunc f first cap =>
    have : cap.toList.map e = cap.toList.map e' := hmap _ fun x hx => h x (by simp only [Op.operands, Array.mem_append]; right; exact Array.mem_toList_iff.1 hx)
    cases f <;> first | rfl | simp only [this]
  case makeMap t r => cases r <;> rfl
  case slice t x lo hi mx =>
    have h1 : e x = e' x := h x (by simp [Op.operands])
    have h2 := hopt lo fun y hy => h y (by simp [Op.operands, hy])
    have h3 := hopt hi fun y hy => h y (by simp [Op.operands, hy])
    have h4 := hopt mx fun y hy => h y (by simp [Op.operands, hy])
    simp only [h1, h2, h3, h4]
  case call c =>
    obtain ⟨callee, args, ats⟩ := c
    have h1 : args.toList.map e = args.toList.map e' := hmap _ fun x hx => h x (by
      simp only [Op.operands, Call.operands]
      cases callee <;> simp <;> first | exact Array.mem_toList_iff.1 hx | (right; exact Array.mem_toList_iff.1 hx) | (left; exact Array.mem_toList_iff.1 hx))
    cases callee with
    | builtin b => simp only [h1]
    | value f =>
      have h2 : e f = e' f := h f (by simp [Op.operands, Call.operands])
      simp only [h1, h2]
    | invoke r nm => rfl
  all_goals first
    | rfl
    | (simp [Op.operands] at h; simp [h])
end

/-! ### Masks -/
theorem testBit_fold (acc : List Nat) (i : Nat) : ∀ (l : List Edge) (m : Nat), (l.foldl (fun m e => bif Region.binds .any e then m ||| (2 ^ e.on ||| acc.getD e.on 0) else m) m).testBit i = true →
    m.testBit i = true ∨ ∃ e ∈ l, Region.binds .any e = true ∧ (e.on = i ∨ (acc.getD e.on 0).testBit i = true)
  | [], m, h => .inl h
  | e :: l, m, h => by
    rcases testBit_fold acc i l _ h with h1 | ⟨e', he, h1⟩
    · dsimp only at h1
      cases hb : Region.binds .any e with
      | false => rw [hb] at h1; exact .inl h1
      | true =>
        rw [hb] at h1
        simp only [cond_true, Nat.testBit_or, Bool.or_eq_true, Nat.testBit_two_pow, decide_eq_true_eq] at h1
        rcases h1 with h1 | h1 | h1
        · exact .inl h1
        · exact .inr ⟨e, by simp, hb, .inl h1⟩
        · exact .inr ⟨e, by simp, hb, .inr h1⟩
    · exact .inr ⟨e', by simp [he], h1⟩

theorem masksA_spec : ∀ (l : List Oper) (acc : List Nat), (∀ j, j < acc.length → (masksA acc l).getD j 0 = acc.getD j 0) ∧
    ∀ j i, ((masksA acc l).getD j 0).testBit i = true → acc.length ≤ j → ∃ o, l[j - acc.length]? = some o ∧ ∃ e ∈ o.after.toList, Region.binds .any e = true ∧ (e.on = i ∨ ((masksA acc l).getD e.on 0).testBit i = true)
  | [], acc => ⟨fun j hj => rfl, fun j i h hj => by simp [masksA, List.getD, List.getElem?_eq_none hj] at h⟩
  | o :: l, acc => by
    simp only [masksA]
    generalize hm : (o.after.toList.foldl (fun m e => bif Region.binds .any e then m ||| (2 ^ e.on ||| acc.getD e.on 0) else m) 0) = m
    obtain ⟨h1, h2⟩ := masksA_spec l (acc ++ [m])
    have hold : ∀ j, j < acc.length → (masksA (acc ++ [m]) l).getD j 0 = acc.getD j 0 := fun j hj => by
      rw [h1 j (by simp; omega)]
      simp [List.getD, List.getElem?_append_left hj]
    refine ⟨hold, fun j i h hj => ?_⟩
    by_cases hje : j = acc.length
    · subst hje
      have : (masksA (acc ++ [m]) l).getD acc.length 0 = m := by
        rw [h1 _ (by simp)]; simp [List.getD]
      rw [this, ← hm] at h
      rcases testBit_fold acc i _ _ h with h3 | ⟨e, he, hb, h3⟩
      · simp at h3
      · refine ⟨o, by simp, e, he, hb, h3.imp id fun h4 => ?_⟩
        by_cases hl : e.on < acc.length
        · rw [hold _ hl]; exact h4
        · simp [List.getD, List.getElem?_eq_none (Nat.not_lt.1 hl)] at h4
    · obtain ⟨o', ho', h3⟩ := h2 j i h (by simp; omega)
      refine ⟨o', ?_, h3⟩
      rw [show j - acc.length = (j - (acc ++ [m]).length) + 1 by simp; omega]
      simpa using ho'

theorem pairsAll_spec {α : Type} (p : Nat → α → Nat → α → Bool) : ∀ (l : List α) (k : Nat), pairsAll p k l = true → ∀ i j x y, i < j → l[i]? = some x → l[j]? = some y → p (k + i) x (k + j) y = true
  | [], k, _, i, j, x, y, _, hx, _ => by simp at hx
  | a :: l, k, h, i, j, x, y, hij, hx, hy => by
    simp only [pairsAll, Bool.and_eq_true, List.all_eq_true] at h
    obtain ⟨h1, h2⟩ := h
    cases j with
    | zero => omega
    | succ j =>
      cases i with
      | zero =>
        simp only [List.getElem?_cons_zero, Option.some.injEq] at hx
        subst hx
        have := h1 (y, k + 1 + j) (by rw [List.mk_add_mem_zipIdx_iff_getElem?]; simpa using hy)
        simpa [Nat.add_assoc, Nat.add_comm 1 j] using this
      | succ i =>
        have := pairsAll_spec p l (k + 1) h2 i j x y (by omega) (by simpa using hx) (by simpa using hy)
        rw [show k + (i + 1) = k + 1 + i by omega, show k + (j + 1) = k + 1 + j by omega]
        exact this

theorem edgesOK_spec : ∀ (l : List Oper) (k : Nat), edgesOK k l = true → ∀ i o, l[i]? = some o → ∀ e ∈ o.after.toList, Region.binds .any e = true → e.on < k + i
  | [], k, _, i, o, h, _, _, _ => by simp at h
  | a :: l, k, h, i, o, ho, e, he, hb => by
    simp only [edgesOK, Bool.and_eq_true, List.all_eq_true] at h
    obtain ⟨h1, h2⟩ := h
    cases i with
    | zero =>
      simp only [List.getElem?_cons_zero, Option.some.injEq] at ho
      subst ho
      have := h1 e he
      simp only [hb, Bool.not_true, Bool.false_or] at this
      exact Nat.blt_eq.mp this
    | succ i =>
      have := edgesOK_spec l (k + 1) h2 i o (by simpa using ho) e he hb
      omega

/-! ### Sequences -/
theorem seq_read {V : Type} {n i : Nat} (hi : i ≤ n) {W : Nat → Prop} {S : Nat → Bool} {m x : Nat → V} (h0 : m 0 = x 0) (hm1 : ∀ k, k < n → W k → S k = true → m (k + 1) = x (k + 1)) (hm2 : ∀ k, k < n → (¬ W k ∨ S k = false) → m (k + 1) = m k)
    (hx : ∀ k, k < n → ¬ W k → x (k + 1) = x k) (hS : ∀ k, k < n → W k → (S k = true ↔ k < i)) : m n = x i := by
  have key : ∀ k, k ≤ n → m k = x (min k i) := by
    intro k
    induction k with
    | zero => intro _; simpa using h0
    | succ k ih =>
      intro hk
      have ih := ih (by omega)
      by_cases hw : W k
      · have hs := hS k (by omega) hw
        by_cases hki : k < i
        · rw [hm1 k (by omega) hw (hs.2 hki), Nat.min_eq_left (by omega)]
        · have : S k = false := by
            cases h : S k with
            | false => rfl
            | true => exact absurd (hs.1 h) hki
          rw [hm2 k (by omega) (.inr this), ih, Nat.min_eq_right (by omega), Nat.min_eq_right (by omega)]
      · rw [hm2 k (by omega) (.inl hw), ih]
        by_cases hki : k < i
        · rw [Nat.min_eq_left (by omega), Nat.min_eq_left (by omega), hx k (by omega) hw]
        · rw [Nat.min_eq_right (by omega), Nat.min_eq_right (by omega)]
  rw [key n (Nat.le_refl n), Nat.min_eq_right hi]

open Classical in
theorem seq_add {V : Type} {n i : Nat} (hi : i < n) {W : Nat → Prop} {S S' : Nat → Bool} {m m' x : Nat → V} (h0 : m' 0 = m 0) (hm1 : ∀ k, k < n → W k → S k = true → m (k + 1) = x (k + 1)) (hm2 : ∀ k, k < n → (¬ W k ∨ S k = false) → m (k + 1) = m k)
    (hn1 : ∀ k, k < n → W k → S' k = true → m' (k + 1) = x (k + 1)) (hn2 : ∀ k, k < n → (¬ W k ∨ S' k = false) → m' (k + 1) = m' k)
    (hS' : ∀ k, S' k = if k = i then true else S k) (hSi : S i = false) (hl : W i → ∀ j, j < n → i < j → W j → S j = false) : m' n = if W i then x (i + 1) else m n := by
  have key : ∀ k, k ≤ n → m' k = if i < k ∧ W i then x (i + 1) else m k := by
    intro k
    induction k with
    | zero => intro _; simpa using h0
    | succ k ih =>
      intro hk
      have ih := ih (by omega)
      by_cases hki : k = i
      · subst hki
        by_cases hw : W k
        · rw [hn1 k (by omega) hw (by rw [hS']; simp), if_pos ⟨by omega, hw⟩]
        · rw [hn2 k (by omega) (.inl hw), ih, if_neg (fun h => hw h.2), if_neg (fun h => hw h.2), hm2 k (by omega) (.inl hw)]
      · have hs : S' k = S k := by rw [hS', if_neg hki]
        by_cases hw : W k
        · cases hk2 : S k with
          | true =>
            rw [hn1 k (by omega) hw (hs.trans hk2)]
            by_cases hik : i < k + 1 ∧ W i
            · have := hl hik.2 k (by omega) (by omega) hw
              rw [hk2] at this; cases this
            · rw [if_neg hik, hm1 k (by omega) hw hk2]
          | false =>
            rw [hn2 k (by omega) (.inr (hs.trans hk2)), ih, hm2 k (by omega) (.inr hk2)]
            by_cases hik : i < k ∧ W i
            · rw [if_pos hik, if_pos ⟨by omega, hik.2⟩]
            · rw [if_neg hik, if_neg (fun h => hik ⟨by omega, h.2⟩)]
        · rw [hn2 k (by omega) (.inl hw), ih, hm2 k (by omega) (.inl hw)]
          by_cases hik : i < k ∧ W i
          · rw [if_pos hik, if_pos ⟨by omega, hik.2⟩]
          · rw [if_neg hik, if_neg (fun h => hik ⟨by omega, h.2⟩)]
  rw [key n (Nat.le_refl n)]
  by_cases hw : W i
  · rw [if_pos ⟨hi, hw⟩, if_pos hw]
  · rw [if_neg (fun h => hw h.2), if_neg hw]

/-! ### The run in the text's order -/
structure Txt (P : Program) (cf : CallF) (locs : List Nat) (ops : Array Oper) (tx : Nat → RS) (ft : Nat → Foot) (ord : Nat → Nat → Prop) : Prop where
  op : ∀ k o, ops[k]? = some o → ∃ w, wantedA ops.toList (tx k).ρ o = some w ∧ (if w then opA P cf locs (ops.toList.filterMap (·.dst)) (tx k) o = some (tx (k + 1)) ∧ ft k = footE locs (opnd (tx k).ρ) o else tx (k + 1) = (tx k).set o.dst (.tup []) ∧ ft k = {})
  edge : ∀ k i, ord k i → ∃ o, ops[i]? = some o ∧ ∃ e ∈ o.after, Region.binds .any e = true ∧ (e.on = k ∨ ord k e.on)
  back : ∀ i o, ops[i]? = some o → ∀ e ∈ o.after, Region.binds .any e = true → e.on < i
  temps : ∀ i j x y, i ≠ j → ops[i]? = some x → ops[j]? = some y → ord i j ∨ ord j i ∨ ∀ d, x.dst = some d → d ∉ y.looksAt ops ∧ y.dst ≠ some d
  boxes : ∀ i j, i < ops.size → j < ops.size → i ≠ j → ord i j ∨ ord j i ∨ (∀ k, (ft i).wb = some k → k ∉ (ft j).rb ∧ (ft j).wb ≠ some k) ∧ ((ft i).wh = true → (ft j).wh = false ∧ ∀ id ∈ (ft j).rh, (tx i).h.get id = (tx (i + 1)).h.get id)
  lays : ∀ i o d, ops[i]? = some o → (ft i).al = true → o.dst = some d → (∀ t ∈ ops.toList.filterMap (·.dst), t ≠ d → ∀ off, (tx 0).ρ t ≠ .lp d off) ∧ ∀ j y t, ops[j]? = some y → j ≠ i → ord i j ∨ (y.dst = some t → ∀ off, (tx (j + 1)).ρ t ≠ .lp d off)

section
variable {P : Program} {cf : CallF} {locs : List Nat} {ops : Array Oper} {tx : Nat → RS} {ft : Nat → Foot} {ord : Nat → Nat → Prop}

def dstAt (ops : Array Oper) (k : Nat) : Option Nat := (ops[k]?).bind (·.dst)

def mix (ops : Array Oper) (tx : Nat → RS) (ft : Nat → Foot) (S : Nat → Bool) : Nat → RS
  | 0 => tx 0
  | k + 1 => if S k then (mix ops tx ft S k).shift (ft k) (dstAt ops k) (tx (k + 1)) else mix ops tx ft S k

theorem Txt.shift (T : Txt P cf locs ops tx ft ord) {k : Nat} (hk : k < ops.size) : tx (k + 1) = (tx k).shift (ft k) (dstAt ops k) (tx (k + 1)) := by
  have ho : ops[k]? = some ops[k] := by simp [hk]
  obtain ⟨w, hw, h⟩ := T.op k _ ho
  have hd : dstAt ops k = ops[k].dst := by simp [dstAt, hk]
  rw [hd]
  cases w with
  | true =>
    simp only [if_true] at h
    obtain ⟨h1, h2⟩ := h
    have := opE_local (s2 := tx k) (e := opnd (tx k).ρ) h1 (fun _ _ => rfl) (fun _ _ => rfl) (fun _ => rfl) (fun hal d hdd => by
      -- the box was laid
      unfold opA opE at h1
      dsimp only at h1
      have hfoot : ∀ (cs : List AV) (s s' : RS), newBox s locs (ops.toList.filterMap (·.dst)) ops[k] cs = some s' → locs.contains d = true → noLp d s.ρ ((ops.toList.filterMap (·.dst)).filter fun t => !Nat.beq t d) = true := by
        intro cs s s' hb hl
        unfold newBox at hb
        simp only [hdd, hl, if_true] at hb
        by_cases hn : noLp d s.ρ ((ops.toList.filterMap (·.dst)).filter fun t => !Nat.beq t d) = true
        · exact hn
        · simp [hn] at hb
      unfold footE at hal
      split at hal
      · rename_i t hop
        rw [hdd] at hal
        simp only at hal
        split at hal
        · rename_i hl
          rw [hop] at h1
          simp only [Option.bind_eq_some_iff] at h1
          obtain ⟨z, _, h1⟩ := h1
          exact hfoot _ _ _ h1 hl
        · cases hal
      · rename_i t x hop
        rw [hdd] at hal
        simp only at hal
        split at hal
        · rename_i hl
          rw [hop] at h1
          exact hfoot _ _ _ h1 hl
        · cases hal
      all_goals first
        | (split at hal <;> cases hal)
        | cases hal)
    unfold opA at h1
    rw [h1] at this
    rw [h2]
    exact Option.some.inj this
  | false =>
    simp only [Bool.false_eq_true, if_false] at h
    rw [h.1, h.2]
    exact shift_val (tx k) (tx k) {} _ _ rfl rfl

theorem shift_ρ (s2 : RS) (f : Foot) (d : Option Nat) (s' : RS) (t : Nat) : (s2.shift f d s').ρ t = if d = some t then s'.ρ t else s2.ρ t := by
  cases d with
  | none => simp [RS.shift]
  | some d =>
    simp only [RS.shift, Option.some.injEq]
    by_cases h : t = d
    · subst h; simp
    · rw [if_neg h, if_neg (Ne.symm h)]
theorem shift_bx (s2 : RS) (f : Foot) (d : Option Nat) (s' : RS) (b : Nat) : (s2.shift f d s').bx b = if f.wb = some b then s'.bx b else s2.bx b := by
  cases hf : f.wb with
  | none => simp [RS.shift, hf]
  | some k =>
    simp only [RS.shift, hf, Option.some.injEq]
    by_cases h : b = k
    · subst h; simp
    · rw [if_neg h, if_neg (Ne.symm h)]

theorem Txt.lt (T : Txt P cf locs ops tx ft ord) : ∀ {j k : Nat}, ord k j → k < j := by
  intro j
  induction j using Nat.strongRecOn with
  | _ j ih =>
    intro k h
    obtain ⟨o, ho, e, he, hb, h1⟩ := T.edge k j h
    have h2 := T.back j o ho e he hb
    rcases h1 with h1 | h1
    · omega
    · have := ih e.on h2 h1; omega

/-- Whoever stands in S has all behind it that surely comes before. -/
def Closed (ops : Array Oper) (S : Nat → Bool) : Prop := ∀ j o, ops[j]? = some o → S j = true → ∀ e ∈ o.after, Region.binds .any e = true → S e.on = true

theorem Txt.down (T : Txt P cf locs ops tx ft ord) {S : Nat → Bool} (hc : Closed ops S) : ∀ {j k : Nat}, ord k j → S j = true → S k = true := by
  intro j
  induction j using Nat.strongRecOn with
  | _ j ih =>
    intro k h hs
    obtain ⟨o, ho, e, he, hb, h1⟩ := T.edge k j h
    have h2 := T.back j o ho e he hb
    have h3 := hc j o ho hs e he hb
    rcases h1 with h1 | h1
    · rw [← h1]; exact h3
    · exact ih e.on h2 h1 h3

variable {S : Nat → Bool} {i : Nat} {oi : Oper}

theorem Txt.before (T : Txt P cf locs ops tx ft ord) (hc : Closed ops S) (ho : ops[i]? = some oi) (hr : ∀ e ∈ oi.after, Region.binds .any e = true → S e.on = true) {k : Nat} (h : ord k i) : S k = true := by
  obtain ⟨o, ho', e, he, hb, h1⟩ := T.edge k i h
  rw [ho] at ho'
  cases ho'
  rcases h1 with h1 | h1
  · rw [← h1]; exact hr e he hb
  · exact T.down hc h1 (hr e he hb)

/-- Of two in order, with i next: the other has come exactly if the text has it before. -/
theorem Txt.iff (T : Txt P cf locs ops tx ft ord) (hc : Closed ops S) (ho : ops[i]? = some oi) (hr : ∀ e ∈ oi.after, Region.binds .any e = true → S e.on = true) (hi : S i = false) {k : Nat} (h : ord i k ∨ ord k i) : S k = true ↔ k < i := by
  rcases h with h | h
  · have := T.lt h
    refine ⟨fun hk => ?_, fun _ => by omega⟩
    have := T.down hc h hk
    rw [hi] at this; cases this
  · exact ⟨fun _ => T.lt h, fun _ => T.before hc ho hr h⟩

theorem mix_ρ1 (t : Nat) (k : Nat) (hd : dstAt ops k = some t) (hs : S k = true) : (mix ops tx ft S (k + 1)).ρ t = (tx (k + 1)).ρ t := by
  simp only [mix, hs, if_true, shift_ρ, hd]
theorem mix_ρ2 (t : Nat) (k : Nat) (h : ¬ dstAt ops k = some t ∨ S k = false) : (mix ops tx ft S (k + 1)).ρ t = (mix ops tx ft S k).ρ t := by
  simp only [mix]
  split
  · rename_i hs
    rcases h with h | h
    · rw [shift_ρ, if_neg h]
    · rw [h] at hs; cases hs
  · rfl
theorem mix_bx1 (b : Nat) (k : Nat) (hd : (ft k).wb = some b) (hs : S k = true) : (mix ops tx ft S (k + 1)).bx b = (tx (k + 1)).bx b := by
  simp only [mix, hs, if_true, shift_bx, hd]
theorem mix_bx2 (b : Nat) (k : Nat) (h : ¬ (ft k).wb = some b ∨ S k = false) : (mix ops tx ft S (k + 1)).bx b = (mix ops tx ft S k).bx b := by
  simp only [mix]
  split
  · rename_i hs
    rcases h with h | h
    · rw [shift_bx, if_neg h]
    · rw [h] at hs; cases hs
  · rfl
theorem mix_h1 (k : Nat) (hd : (ft k).wh = true) (hs : S k = true) : (mix ops tx ft S (k + 1)).h = (tx (k + 1)).h := by
  simp only [mix, hs, if_true, RS.shift, hd]
theorem mix_h2 (k : Nat) (h : ¬ (ft k).wh = true ∨ S k = false) : (mix ops tx ft S (k + 1)).h = (mix ops tx ft S k).h := by
  simp only [mix]
  split
  · rename_i hs
    rcases h with h | h
    · simp only [RS.shift]; rw [if_neg h]
    · rw [h] at hs; cases hs
  · rfl

theorem Txt.tx_ρ (T : Txt P cf locs ops tx ft ord) (t : Nat) (k : Nat) (hk : k < ops.size) (h : ¬ dstAt ops k = some t) : (tx (k + 1)).ρ t = (tx k).ρ t := by
  rw [T.shift hk, shift_ρ, if_neg h]
theorem Txt.tx_bx (T : Txt P cf locs ops tx ft ord) (b : Nat) (k : Nat) (hk : k < ops.size) (h : ¬ (ft k).wb = some b) : (tx (k + 1)).bx b = (tx k).bx b := by
  rw [T.shift hk, shift_bx, if_neg h]
theorem Txt.tx_h (T : Txt P cf locs ops tx ft ord) (k : Nat) (hk : k < ops.size) (h : ¬ (ft k).wh = true) : (tx (k + 1)).h = (tx k).h := by
  rw [T.shift hk]; simp only [RS.shift]; rw [if_neg h]

/-- What i reads is as the text's order has it. -/
theorem Txt.reads (T : Txt P cf locs ops tx ft ord) (hc : Closed ops S) (ho : ops[i]? = some oi) (hr : ∀ e ∈ oi.after, Region.binds .any e = true → S e.on = true) (hi : S i = false) :
    (∀ t ∈ oi.looksAt ops, (mix ops tx ft S ops.size).ρ t = (tx i).ρ t) ∧ (∀ b ∈ (ft i).rb, (mix ops tx ft S ops.size).bx b = (tx i).bx b) ∧
    (∀ id ∈ (ft i).rh, (mix ops tx ft S ops.size).h.get id = (tx i).h.get id) ∧ ((ft i).wh = true → (mix ops tx ft S ops.size).h = (tx i).h) := by
  have hin : i < ops.size := (Array.getElem?_eq_some_iff.1 ho).1
  have hat : ∀ k, k < ops.size → ops[k]? = some ops[k]! := fun k hk => by simp [hk]
  have hself : ∀ k, k = i → (S k = true ↔ k < i) := by
    rintro k rfl
    rw [hi]; simp
  refine ⟨fun t ht => ?_, fun b hb => ?_, fun id hid => ?_, fun hw => ?_⟩
  · refine seq_read (W := fun k => dstAt ops k = some t) (m := fun k => (mix ops tx ft S k).ρ t) (x := fun k => (tx k).ρ t) (S := S) (Nat.le_of_lt hin) rfl (fun k _ h hs => mix_ρ1 t k h hs) (fun k _ h => mix_ρ2 t k h) (fun k hk h => T.tx_ρ t k hk h) (fun k hk h => ?_)
    by_cases hki : k = i
    · exact hself k hki
    · obtain ⟨y, hy, hyd⟩ := Option.bind_eq_some_iff.1 h
      rcases T.temps k i y oi hki hy ho with h1 | h1 | h1
      · exact T.iff hc ho hr hi (.inr h1)
      · exact T.iff hc ho hr hi (.inl h1)
      · exact absurd ht (h1 t hyd).1
  · refine seq_read (W := fun k => (ft k).wb = some b) (m := fun k => (mix ops tx ft S k).bx b) (x := fun k => (tx k).bx b) (S := S) (Nat.le_of_lt hin) rfl (fun k _ h hs => mix_bx1 b k h hs) (fun k _ h => mix_bx2 b k h) (fun k hk h => T.tx_bx b k hk h) (fun k hk h => ?_)
    by_cases hki : k = i
    · exact hself k hki
    · rcases T.boxes k i hk hin hki with h1 | h1 | h1
      · exact T.iff hc ho hr hi (.inr h1)
      · exact T.iff hc ho hr hi (.inl h1)
      · exact absurd hb (h1.1 b h).1
  · -- the effects that have come are the first of them
    obtain ⟨p, hp, hpS⟩ : ∃ p, p ≤ ops.size ∧ ∀ k, k < ops.size → (ft k).wh = true → (S k = true ↔ k < p) := by
      have key : ∀ m, m ≤ ops.size → (∀ k, k < m → (ft k).wh = true → S k = true) ∨ ∃ p, p < m ∧ (ft p).wh = true ∧ S p = false ∧ ∀ k, k < p → (ft k).wh = true → S k = true := by
        intro m
        induction m with
        | zero => intro _; exact .inl fun k hk => by omega
        | succ m ih =>
          intro hm
          rcases ih (by omega) with h | ⟨p, h1, h2⟩
          · by_cases hw : (ft m).wh = true ∧ S m = false
            · exact .inr ⟨m, by omega, hw.1, hw.2, h⟩
            · refine .inl fun k hk hkw => ?_
              by_cases hkm : k = m
              · subst hkm
                cases hs : S k with
                | true => rfl
                | false => exact absurd ⟨hkw, hs⟩ hw
              · exact h k (by omega) hkw
          · exact .inr ⟨p, by omega, h2⟩
      rcases key ops.size (Nat.le_refl _) with h | ⟨p, h1, h2, h3, h4⟩
      · exact ⟨ops.size, Nat.le_refl _, fun k hk hw => ⟨fun _ => hk, fun _ => h k hk hw⟩⟩
      · refine ⟨p, by omega, fun k hk hw => ⟨fun hs => ?_, fun hkp => h4 k hkp hw⟩⟩
        rcases Nat.lt_or_ge k p with h5 | h5
        · exact h5
        · by_cases hkp : k = p
          · subst hkp; rw [h3] at hs; cases hs
          · rcases T.boxes p k h1 hk (Ne.symm hkp) with h6 | h6 | h6
            · have := T.down hc h6 hs; rw [h3] at this; cases this
            · have := T.lt h6; omega
            · have := (h6.2 h2).1; rw [hw] at this; cases this
    have hmix : (mix ops tx ft S ops.size).h = (tx p).h :=
      seq_read (W := fun k => (ft k).wh = true) (m := fun k => (mix ops tx ft S k).h) (x := fun k => (tx k).h) (S := S) hp rfl (fun k _ h hs => mix_h1 k h hs) (fun k _ h => mix_h2 k h) (fun k hk h => T.tx_h k hk h) hpS
    rw [hmix]
    have hstep : ∀ k, k < ops.size → (p ≤ k ∧ k < i) ∨ (i ≤ k ∧ k < p) → (tx (k + 1)).h.get id = (tx k).h.get id := by
      intro k hk hb
      by_cases hw : (ft k).wh = true
      · have hs := hpS k hk hw
        have hki : k ≠ i := by
          rintro rfl
          rcases hb with hb | hb
          · omega
          · have := hs.2 hb.2; rw [hi] at this; cases this
        rcases T.boxes k i hk hin hki with h1 | h1 | h1
        · have hlt := T.lt h1
          have := hs.1 (T.before hc ho hr h1)
          omega
        · have hlt := T.lt h1
          have := T.down hc h1 (hs.2 (by omega))
          rw [hi] at this; cases this
        · exact ((h1.2 hw).2 id hid).symm
      · rw [T.tx_h k hk hw]
    have walk : ∀ a b, a ≤ b → b ≤ ops.size → (∀ k, a ≤ k → k < b → (tx (k + 1)).h.get id = (tx k).h.get id) → (tx b).h.get id = (tx a).h.get id := by
      intro a b hab
      induction b with
      | zero => intro _ _; have : a = 0 := by omega
                subst this; rfl
      | succ b ih =>
        intro hb hk
        by_cases hab' : a = b + 1
        · subst hab'; rfl
        · rw [hk b (by omega) (by omega)]
          exact ih (by omega) (by omega) fun k h1 h2 => hk k h1 (by omega)
    rcases Nat.le_total p i with h | h
    · exact (walk p i h (Nat.le_of_lt hin) fun k h1 h2 => hstep k (by omega) (.inl ⟨h1, h2⟩)).symm
    · exact walk i p h hp fun k h1 h2 => hstep k (by omega) (.inr ⟨h1, h2⟩)
  · refine seq_read (W := fun k => (ft k).wh = true) (m := fun k => (mix ops tx ft S k).h) (x := fun k => (tx k).h) (S := S) (Nat.le_of_lt hin) rfl (fun k _ h hs => mix_h1 k h hs) (fun k _ h => mix_h2 k h) (fun k hk h => T.tx_h k hk h) (fun k hk h => ?_)
    by_cases hki : k = i
    · exact hself k hki
    · rcases T.boxes k i hk hin hki with h1 | h1 | h1
      · exact T.iff hc ho hr hi (.inr h1)
      · exact T.iff hc ho hr hi (.inl h1)
      · have := (h1.2 h).1; rw [hw] at this; cases this

theorem mix_from (t : Nat) : ∀ k, (mix ops tx ft S k).ρ t = (tx 0).ρ t ∨ ∃ j, j < k ∧ S j = true ∧ dstAt ops j = some t ∧ (mix ops tx ft S k).ρ t = (tx (j + 1)).ρ t
  | 0 => .inl rfl
  | k + 1 => by
    by_cases h : dstAt ops k = some t ∧ S k = true
    · exact .inr ⟨k, by omega, h.2, h.1, mix_ρ1 t k h.1 h.2⟩
    · have h' : ¬ dstAt ops k = some t ∨ S k = false := by
        by_cases h1 : dstAt ops k = some t
        · right; cases hs : S k with
          | true => exact absurd ⟨h1, hs⟩ h
          | false => rfl
        · exact .inl h1
      rw [mix_ρ2 t k h']
      rcases mix_from t k with h1 | ⟨j, h1, h2⟩
      · exact .inl h1
      · exact .inr ⟨j, by omega, h2⟩

theorem noLp_intro {k : Nat} {ρ : Nat → AV} : ∀ {l : List Nat}, (∀ t ∈ l, ∀ off, ρ t ≠ .lp k off) → noLp k ρ l = true
  | [], _ => rfl
  | t :: l, h => by
    simp only [noLp, Bool.and_eq_true]
    refine ⟨?_, noLp_intro fun u hu => h u (by simp [hu])⟩
    have := h t (by simp)
    split
    · rename_i j off heq
      simp only [bne_iff_ne, ne_eq]
      rintro rfl
      exact this off heq
    · rfl

open Classical in
/-- The next one. -/
theorem Txt.next (T : Txt P cf locs ops tx ft ord) (hc : Closed ops S) (ho : ops[i]? = some oi) (hr : ∀ e ∈ oi.after, Region.binds .any e = true → S e.on = true) (hi : S i = false) {S' : Nat → Bool} (hS' : ∀ k, S' k = if k = i then true else S k) :
    stepA P cf locs ops.toList (mix ops tx ft S ops.size) oi = some (mix ops tx ft S' ops.size) := by
  have hin : i < ops.size := (Array.getElem?_eq_some_iff.1 ho).1
  obtain ⟨h1, h2, h3, h4⟩ := T.reads hc ho hr hi
  obtain ⟨w, hw, hop⟩ := T.op i oi ho
  have hdst : dstAt ops i = oi.dst := by simp [dstAt, ho]
  have hcomp : ∀ j, i < j → j < ops.size → (ord i j ∨ ord j i) → S j = false := by
    intro j hij hj h
    cases hs : S j with
    | false => rfl
    | true => have := (T.iff hc ho hr hi h).1 hs; omega
  have hmix : mix ops tx ft S' ops.size = (mix ops tx ft S ops.size).shift (ft i) (dstAt ops i) (tx (i + 1)) := by
    refine RS.ext' (fun t => ?_) (fun b => ?_) ?_
    · rw [shift_ρ]
      have := seq_add (W := fun k => dstAt ops k = some t) (m := fun k => (mix ops tx ft S k).ρ t) (m' := fun k => (mix ops tx ft S' k).ρ t) (x := fun k => (tx k).ρ t) (S := S) (S' := S') hin rfl
        (fun k _ h hs => mix_ρ1 t k h hs) (fun k _ h => mix_ρ2 t k h) (fun k _ h hs => mix_ρ1 t k h hs) (fun k _ h => mix_ρ2 t k h) hS' hi (fun hwi j hj hij hwj => by
          obtain ⟨y, hy, hyd⟩ := Option.bind_eq_some_iff.1 hwj
          rw [hdst] at hwi
          rcases T.temps i j oi y (by omega) ho hy with h | h | h
          · exact hcomp j hij hj (.inl h)
          · exact hcomp j hij hj (.inr h)
          · exact absurd hyd (h t hwi).2)
      rw [this]
      by_cases hd : dstAt ops i = some t
      · rw [if_pos hd, if_pos hd]
      · rw [if_neg hd, if_neg hd]
    · rw [shift_bx]
      have := seq_add (W := fun k => (ft k).wb = some b) (m := fun k => (mix ops tx ft S k).bx b) (m' := fun k => (mix ops tx ft S' k).bx b) (x := fun k => (tx k).bx b) (S := S) (S' := S') hin rfl
        (fun k _ h hs => mix_bx1 b k h hs) (fun k _ h => mix_bx2 b k h) (fun k _ h hs => mix_bx1 b k h hs) (fun k _ h => mix_bx2 b k h) hS' hi (fun hwi j hj hij hwj => by
          rcases T.boxes i j hin hj (by omega) with h | h | h
          · exact hcomp j hij hj (.inl h)
          · exact hcomp j hij hj (.inr h)
          · exact absurd hwj (h.1 b hwi).2)
      rw [this]
      by_cases hd : (ft i).wb = some b
      · rw [if_pos hd, if_pos hd]
      · rw [if_neg hd, if_neg hd]
    · have := seq_add (W := fun k => (ft k).wh = true) (m := fun k => (mix ops tx ft S k).h) (m' := fun k => (mix ops tx ft S' k).h) (x := fun k => (tx k).h) (S := S) (S' := S') hin rfl
        (fun k _ h hs => mix_h1 k h hs) (fun k _ h => mix_h2 k h) (fun k _ h hs => mix_h1 k h hs) (fun k _ h => mix_h2 k h) hS' hi (fun hwi j hj hij hwj => by
          rcases T.boxes i j hin hj (by omega) with h | h | h
          · exact hcomp j hij hj (.inl h)
          · exact hcomp j hij hj (.inr h)
          · have := (h.2 hwi).1; rw [hwj] at this; cases this)
      rw [this]
      simp only [RS.shift]
      by_cases hd : (ft i).wh = true
      · rw [if_pos hd, if_pos hd]
      · rw [if_neg hd, if_neg hd]
  have hlook : ∀ x ∈ oi.op.operands, opnd (mix ops tx ft S ops.size).ρ x = opnd (tx i).ρ x := by
    intro x hx
    cases x with
    | tmp t =>
      refine h1 t ?_
      unfold Oper.looksAt
      rw [List.mem_append]
      left
      rw [List.mem_filterMap]
      exact ⟨.tmp t, Array.mem_toList_iff.2 hx, rfl⟩
    | _ => rfl
  have hwant : wantedA ops.toList (mix ops tx ft S ops.size).ρ oi = wantedA ops.toList (tx i).ρ oi := by
    unfold wantedA
    cases hg : oi.guard with
    | none => rfl
    | some g =>
      obtain ⟨g, want⟩ := g
      simp only
      cases hq : (ops.toList[g]?).bind (·.dst) with
      | none => rfl
      | some d =>
        simp only [Option.bind_some]
        rw [h1 d]
        unfold Oper.looksAt
        rw [List.mem_append]
        right
        rw [hg]
        simp only
        have : (ops[g]?).bind (·.dst) = some d := by simpa using hq
        rw [this]
        simp
  unfold stepA
  rw [hwant, hw]
  simp only [Option.bind_some]
  rw [hmix, hdst]
  cases w with
  | false =>
    simp only [Bool.false_eq_true, if_false] at hop ⊢
    rw [hop.1, hop.2]
    congr 1
    exact shift_val (tx i) _ {} _ _ rfl rfl
  | true =>
    simp only [if_true] at hop ⊢
    obtain ⟨hop, hft⟩ := hop
    unfold opA at hop ⊢
    rw [opE_congr hlook, hft]
    rw [hft] at h2 h3 h4
    refine opE_local hop h2 h3 h4 (fun hal d hdd => noLp_intro fun t ht off he => ?_)
    rw [List.mem_filter] at ht
    obtain ⟨ht1, ht2⟩ := ht
    have htd : t ≠ d := by simpa [beq_nat] using ht2
    obtain ⟨l1, l2⟩ := T.lays i oi d ho (by rw [hft]; exact hal) hdd
    rcases mix_from (ops := ops) (tx := tx) (ft := ft) (S := S) t ops.size with h | ⟨j, hj, hs, hjd, h⟩
    · rw [h] at he
      exact l1 t ht1 htd off he
    · rw [h] at he
      obtain ⟨y, hy, hyd⟩ := Option.bind_eq_some_iff.1 hjd
      have hji : j ≠ i := by rintro rfl; rw [hi] at hs; cases hs
      rcases l2 j y t hy hji with h5 | h5
      · have := T.down hc h5 hs; rw [hi] at this; cases this
      · exact h5 hyd off he

theorem mix_all (T : Txt P cf locs ops tx ft ord) (hall : ∀ k, k < ops.size → S k = true) : ∀ k, k ≤ ops.size → mix ops tx ft S k = tx k
  | 0, _ => rfl
  | k + 1, hk => by
    simp only [mix, hall k (by omega), if_true]
    rw [mix_all T hall k (by omega)]
    exact (T.shift (by omega)).symm

def left (n : Nat) (S : Nat → Bool) : Nat := (List.range n).countP fun j => !S j

theorem left_zero {n : Nat} {S : Nat → Bool} (h : left n S = 0) : ∀ k, k < n → S k = true := by
  intro k hk
  unfold left at h
  rw [List.countP_eq_zero] at h
  simpa using h k (List.mem_range.2 hk)

theorem left_add {n i : Nat} (hi : i < n) {S S' : Nat → Bool} (hSi : S i = false) (hS' : ∀ k, S' k = if k = i then true else S k) : left n S' + 1 = left n S := by
  unfold left
  have : ∀ m, (List.range m).countP (fun j => !S' j) + (if i < m then 1 else 0) = (List.range m).countP fun j => !S j := by
    intro m
    induction m with
    | zero => simp
    | succ m ih =>
      rw [List.range_succ, List.countP_append, List.countP_append]
      simp only [List.countP_cons, List.countP_nil]
      by_cases hm : m = i
      · subst hm
        have h1 : S' m = true := by rw [hS']; simp
        rw [h1, hSi]
        simp at ih ⊢
        omega
      · have h1 : S' m = S m := by rw [hS', if_neg hm]
        rw [h1]
        by_cases him : i < m
        · have h3 : i < m + 1 := by omega
          simp only [him, h3, if_true] at ih ⊢
          omega
        · have h3 : ¬ i < m + 1 := by omega
          simp only [him, h3, if_false] at ih ⊢
          omega
  have := this n
  rw [if_pos hi] at this
  exact this

theorem any_ok (T : Txt P cf locs ops tx ft ord) (hcf : CallOK P cf) {L0 : Nat → Prop} {c0 : Cx} {n : Nat} (hb0 : c0.base ≤ c0.w.heap.size) (hdn : dstsB n ops.toList = true) {Q : Exit → Act → World → Prop}
    (hQ : ∀ a' w', Inv L0 c0 n (ops.toList.filterMap (·.dst)) (tx ops.size) a' w' → Q .normal a' w') :
    ∀ (fuel : Nat) (listed : Array Bool) (a : Act) (w : World), listed.size = ops.size → Closed ops (fun j => listed.getD j false) → left ops.size (fun j => listed.getD j false) ≤ fuel →
      Inv L0 c0 n (ops.toList.filterMap (·.dst)) (mix ops tx ft (fun j => listed.getD j false) ops.size) a w → wpAny P .any ops Q fuel listed a w := by
  intro fuel
  have hready : ∀ (listed : Array Bool) a w, listed.size = ops.size → Region.ready .any ops listed = [] → Inv L0 c0 n (ops.toList.filterMap (·.dst)) (mix ops tx ft (fun j => listed.getD j false) ops.size) a w → Q .normal a w := by
    intro listed a w hsz hrd hi
    have hall : ∀ k, k < ops.size → listed.getD k false = true := by
      intro k
      induction k using Nat.strongRecOn with
      | _ k ih =>
        intro hk
        cases hl : listed.getD k false with
        | true => rfl
        | false =>
          have : k ∈ Region.ready .any ops listed := mem_ready.2 ⟨getD_in (by omega) hl, ops[k], by simp [hk], fun e he hb => by
            have := T.back k ops[k] (by simp [hk]) e he hb
            exact ih e.on this (by omega)⟩
          rw [hrd] at this
          cases this
    rw [mix_all (S := fun j => listed.getD j false) T hall _ (Nat.le_refl _)] at hi
    exact hQ a w hi
  induction fuel with
  | zero =>
    intro listed a w hsz hc hl hi
    have hall := left_zero (Nat.le_zero.1 hl)
    have hrd : Region.ready .any ops listed = [] := by
      rw [List.eq_nil_iff_forall_not_mem]
      intro j hj
      obtain ⟨h1, o, ho, _⟩ := mem_ready.1 hj
      have hjn : j < ops.size := (Array.getElem?_eq_some_iff.1 ho).1
      have h2 := hall j hjn
      have hj2 : j < listed.size := by omega
      simp [hj2] at h1 h2
      rw [h1] at h2; cases h2
    exact ⟨hrd, hready listed a w hsz hrd hi⟩
  | succ fuel ih =>
    intro listed a w hsz hc hl hi
    refine ⟨fun hrd => hready listed a w hsz hrd hi, fun i hmem => ?_⟩
    obtain ⟨h1, o, ho, hpre⟩ := mem_ready.1 hmem
    have hin : i < ops.size := (Array.getElem?_eq_some_iff.1 ho).1
    have hil : i < listed.size := by omega
    have hSi : listed.getD i false = false := by simp [hil] at h1 ⊢; exact h1
    have hS' : ∀ k, (listed.setIfInBounds i true).getD k false = if k = i then true else listed.getD k false := by
      intro k
      by_cases hk : k = i
      · subst hk
        rw [if_pos rfl]
        simp [hil]
      · rw [if_neg hk, getD_set_ne false (Ne.symm hk)]
    have hst := T.next (S := fun j => listed.getD j false) (S' := fun k => (listed.setIfInBounds i true).getD k false) hc ho hpre hSi hS'
    unfold wpOp
    rw [ho]
    simp only
    have hmemo : o ∈ ops.toList := Array.mem_toList_iff.2 (Array.mem_of_getElem? ho)
    have := stepA_ok (Q := Q) (K := wpAny P .any ops Q fuel (listed.setIfInBounds i true)) hcf hb0 rfl (dstsB_ok hdn hmemo) hst hi (fun a' w' hi' => by
      refine ih _ a' w' (by simpa using hsz) ?_ ?_ hi'
      · intro j oj hoj hj e he hb
        dsimp only at hj ⊢
        rw [hS'] at hj ⊢
        by_cases hji : j = i
        · subst hji
          rw [ho] at hoj
          cases hoj
          have := hpre e he hb
          rw [this]; simp
        · rw [if_neg hji] at hj
          have := hc j oj hoj hj e he hb
          simp only at this
          rw [this]; simp
      · have := left_add hin (S := fun j => listed.getD j false) hSi hS'
        omega)
    split
    · rename_i hw; rw [if_pos hw] at this; exact .inl this
    · rename_i hw; rw [if_neg hw] at this; exact this


/-! ### From the check -/
theorem runD_spec {opsL : List Oper} : ∀ (l : List Oper) (s r : RS) (es : List Ent), runD P cf locs opsL s l = some (es, r) → ∃ tx : Nat → RS, tx 0 = s ∧ tx l.length = r ∧
    ∀ k o, l[k]? = some o → ∃ w, wantedA opsL (tx k).ρ o = some w ∧ (if w then opA P cf locs (opsL.filterMap (·.dst)) (tx k) o = some (tx (k + 1)) else tx (k + 1) = (tx k).set o.dst (.tup [])) ∧
      es[k]? = some { o, f := if w then footE locs (opnd (tx k).ρ) o else {}, s := tx k, s' := tx (k + 1) }
  | [], s, r, es, h => by
    simp only [runD, Option.some.injEq, Prod.mk.injEq] at h
    obtain ⟨rfl, rfl⟩ := h
    exact ⟨fun _ => s, rfl, rfl, fun k o ho => by simp at ho⟩
  | o :: l, s, r, es, h => by
    simp only [runD, Option.bind_eq_some_iff, Option.map_eq_some_iff] at h
    obtain ⟨w, hw, s1, h1, ⟨es', r'⟩, h2, h3⟩ := h
    simp only [Prod.mk.injEq] at h3
    obtain ⟨rfl, rfl⟩ := h3
    obtain ⟨tx, t0, tn, ht⟩ := runD_spec l s1 r' es' h2
    refine ⟨fun | 0 => s | k + 1 => tx k, rfl, tn, fun k o' ho => ?_⟩
    cases k with
    | zero =>
      simp only [List.getElem?_cons_zero, Option.some.injEq] at ho
      subst ho
      refine ⟨w, hw, ?_, ?_⟩
      · cases w with
        | true => simpa [t0] using h1
        | false =>
          simp only [Bool.false_eq_true, if_false, Option.some.injEq] at h1 ⊢
          rw [t0]; exact h1.symm
      · simp [t0]
    | succ k =>
      obtain ⟨w', h4, h5, h6⟩ := ht k o' (by simpa using ho)
      exact ⟨w', h4, h5, by simpa using h6⟩

theorem footE_al {e : Operand → AV} {o : Oper} (h : (footE locs e o).al = true) : (footE locs e o).wb.isSome = true := by
  unfold footE at h ⊢
  split at h <;> try (cases h; done)
  all_goals (split at h <;> try (cases h; done))
  all_goals (split at h <;> try (cases h; done))
  all_goals simp_all

theorem isLp_spec {k : Nat} {x : AV} (h : isLp k x = false) : ∀ off, x ≠ .lp k off := by
  rintro off rfl
  simp [isLp] at h

theorem draws_ok (hm : P.follows .mixedOrders = true) (hcf : CallOK P cf) (hsf : SteadyF cf) : DrawOK P cf := by
  intro L0 c0 n locs id ops s s' h hb0 hdn a w Q hi hQ
  unfold drawsA at h
  dsimp only at h
  split at h
  rotate_left
  · cases h
  rename_i hstill
  rw [Option.bind_eq_some_iff] at h
  obtain ⟨⟨es, r⟩, hrun, h⟩ := h
  simp only at h
  split at h
  rotate_left
  · cases h
  rename_i hloud
  cases h
  obtain ⟨tx, t0, tn, ht⟩ := runD_spec ops.toList s s' es hrun
  generalize hms : masksA [] ops.toList = ms at hstill hloud
  have hord : ∀ k i, (ms.getD i 0).testBit k = true → ∃ o, ops[i]? = some o ∧ ∃ e ∈ o.after, Region.binds .any e = true ∧ (e.on = k ∨ (ms.getD e.on 0).testBit k = true) := by
    intro k i hk
    obtain ⟨o, ho, e, he, hb, h1⟩ := (masksA_spec ops.toList []).2 i k (by rw [hms]; exact hk) (by simp)
    refine ⟨o, by simpa using ho, e, Array.mem_toList_iff.1 he, hb, ?_⟩
    rw [hms] at h1
    exact h1
  unfold stillText at hstill
  simp only [Bool.and_eq_true] at hstill
  obtain ⟨hedges, hpairs⟩ := hstill
  let ft : Nat → Foot := fun k => ((es[k]?).map (·.f)).getD {}
  have hent : ∀ k o, ops[k]? = some o → ∃ w, wantedA ops.toList (tx k).ρ o = some w ∧ (if w then opA P cf locs (ops.toList.filterMap (·.dst)) (tx k) o = some (tx (k + 1)) else tx (k + 1) = (tx k).set o.dst (.tup [])) ∧
      es[k]? = some { o, f := ft k, s := tx k, s' := tx (k + 1) } ∧ ft k = if w then footE locs (opnd (tx k).ρ) o else {} := by
    intro k o ho
    obtain ⟨w, h1, h2, h3⟩ := ht k o (by simpa using ho)
    have hft : ft k = if w then footE locs (opnd (tx k).ρ) o else {} := by simp only [ft, h3, Option.map_some, Option.getD_some]
    exact ⟨w, h1, h2, by rw [hft]; exact h3, hft⟩
  have hmem : ∀ k o, ops[k]? = some o → ((⟨o, ft k, tx k, tx (k + 1)⟩ : Ent), k) ∈ es.zipIdx := by
    intro k o ho
    obtain ⟨w, _, _, h3, _⟩ := hent k o ho
    exact List.mk_mem_zipIdx_iff_getElem?.2 h3
  simp only [List.all_eq_true, List.mem_filter, Bool.and_eq_true] at hloud
  have hlo : ∀ k o, ops[k]? = some o → (ft k).quiet = false → (((⟨o, ft k, tx k, tx (k + 1)⟩ : Ent), k) ∈ es.zipIdx ∧ (!(ft k).quiet) = true) := fun k o ho hq => ⟨hmem k o ho, by rw [hq]; rfl⟩
  have hat : ∀ k, k < ops.size → ops[k]? = some ops[k]! := fun k hk => by simp [hk]
  have hspare : ∀ i j x y, ops[i]? = some x → ops[j]? = some y → i ≠ j → (ft i).quiet = false → (ft j).quiet = false → (ms.getD j 0).testBit i = true ∨ (ms.getD i 0).testBit j = true ∨
      Ent.spares ⟨x, ft i, tx i, tx (i + 1)⟩ ⟨y, ft j, tx j, tx (j + 1)⟩ = true := by
    intro i j x y hx hy hij hqi hqj
    rcases Nat.lt_or_ge i j with hlt | hge
    · have := (hloud _ (hlo i x hx hqi)).2 _ (hlo j y hy hqj)
      simp only [Bool.or_eq_true, Bool.and_eq_true] at this
      rcases this with (h1 | h1) | h1
      · have := Nat.le_of_ble_eq_true h1; omega
      · exact .inl h1
      · exact .inr (.inr h1.1)
    · have := (hloud _ (hlo j y hy hqj)).2 _ (hlo i x hx hqi)
      simp only [Bool.or_eq_true, Bool.and_eq_true] at this
      rcases this with (h1 | h1) | h1
      · have := Nat.le_of_ble_eq_true h1; omega
      · exact .inr (.inl h1)
      · exact .inr (.inr h1.2)
  have hwf0 : ∀ id, (tx 0).h.ver id < (tx 0).h.next := by
    obtain ⟨_, c, Lo, lam, _, f, _⟩ := hi
    rw [t0, ← f.h]; exact f.rel.ver
  have hst : ∀ k, k < ops.size → Steady (tx k).h (tx (k + 1)).h := by
    intro k hk
    obtain ⟨w, h1, h2, _⟩ := hent k _ (hat k hk)
    cases w with
    | true => exact opE_steady hsf (by simpa [opA] using h2)
    | false =>
      simp only [Bool.false_eq_true, if_false] at h2
      rw [h2, set_h]; exact Steady.refl _
  have hwf : ∀ k, k ≤ ops.size → ∀ id, (tx k).h.ver id < (tx k).h.next := by
    intro k
    induction k with
    | zero => intro _; exact hwf0
    | succ k ih => intro hk; exact (hst k (by omega)).wf (ih (by omega))
  have T : Txt P cf locs ops tx ft (fun k i => (ms.getD i 0).testBit k = true) := by
    refine ⟨fun k o ho => ?_, hord, fun i o ho e he hb => ?_, fun i j x y hij hx hy => ?_, fun i j hin hjn hij => ?_, fun i o d ho hal hd => ?_⟩
    · obtain ⟨w, h1, h2, h3, h4⟩ := hent k o ho
      refine ⟨w, h1, ?_⟩
      cases w with
      | true => exact ⟨h2, h4⟩
      | false => exact ⟨h2, h4⟩
    · have := edgesOK_spec _ 0 hedges i o (by simpa using ho) e (Array.mem_toList_iff.2 he) hb
      omega
    · have hap : ∀ x y : Oper, apartA ops x y = true → ∀ d, x.dst = some d → d ∉ y.looksAt ops ∧ y.dst ≠ some d := by
        intro x y h d hd
        unfold apartA at h
        rw [hd] at h
        simpa using h
      rcases Nat.lt_or_ge i j with hlt | hge
      · have := pairsAll_spec _ _ 0 hpairs i j x y hlt (by simpa using hx) (by simpa using hy)
        simp only [Nat.zero_add, Bool.or_eq_true, Bool.and_eq_true] at this
        rcases this with h1 | h1
        · exact .inl h1
        · exact .inr (.inr (hap _ _ h1.1))
      · have := pairsAll_spec _ _ 0 hpairs j i y x (by omega) (by simpa using hy) (by simpa using hx)
        simp only [Nat.zero_add, Bool.or_eq_true, Bool.and_eq_true] at this
        rcases this with h1 | h1
        · exact .inr (.inl h1)
        · exact .inr (.inr (hap _ _ h1.2))
    · cases hqi : (ft i).quiet with
      | true =>
        unfold Foot.quiet at hqi
        simp only [Bool.and_eq_true, Option.isNone_iff_eq_none, Bool.not_eq_true'] at hqi
        exact .inr (.inr ⟨fun k hk => (by rw [hqi.1.1.2] at hk; cases hk), fun hk => (by rw [hqi.2] at hk; cases hk)⟩)
      | false =>
        cases hqj : (ft j).quiet with
        | true =>
          unfold Foot.quiet at hqj
          simp only [Bool.and_eq_true, Option.isNone_iff_eq_none, Bool.not_eq_true', List.isEmpty_iff] at hqj
          obtain ⟨⟨⟨q1, q2⟩, q3⟩, q4⟩ := hqj
          exact .inr (.inr ⟨fun k hk => ⟨by rw [q1]; simp, by rw [q2]; simp⟩, fun hk => ⟨q4, by rw [q3]; simp⟩⟩)
        | false =>
          rcases hspare i j _ _ (hat i hin) (hat j hjn) hij hqi hqj with h1 | h1 | h1
          · exact .inl h1
          · exact .inr (.inl h1)
          · refine .inr (.inr ?_)
            unfold Ent.spares at h1
            simp only [Bool.and_eq_true, Bool.or_eq_true, Bool.not_eq_true', List.all_eq_true] at h1
            obtain ⟨h2, h3⟩ := h1
            refine ⟨fun k hk => ?_, fun hk => ?_⟩
            · rw [hk] at h2
              simpa using h2
            · rcases h3 with h3 | h3
              · rw [hk] at h3; cases h3
              · refine ⟨h3.1, fun id hid => ?_⟩
                have hv := Nat.eq_of_beq_eq_true (h3.2 id hid)
                rcases (hst i hin).keep id with ⟨_, h5⟩ | h5
                · exact h5.symm
                · have := hwf i (by omega) id; omega
    · obtain ⟨w, h1, h2, h3, h4⟩ := hent i o ho
      have hq : (ft i).quiet = false := by
        cases w with
        | false => rw [h4] at hal; cases hal
        | true =>
          rw [h4] at hal ⊢
          have := footE_al hal
          unfold Foot.quiet
          simp only [if_true] at this ⊢
          cases hwb : (footE locs (opnd (tx i).ρ) o).wb with
          | none => rw [hwb] at this; cases this
          | some k => simp
      have := (hloud _ (hlo i o ho hq)).1
      unfold allocOK at this
      simp only [hal, hd] at this
      simp only [Bool.and_eq_true, List.all_eq_true, Bool.or_eq_true] at this
      obtain ⟨k1, k2⟩ := this
      refine ⟨fun t ht htd off => ?_, fun j y t hy hji => ?_⟩
      · rw [t0]
        exact noLp_spec k1 t (by rw [List.mem_filter]; exact ⟨ht, by simpa [beq_nat] using htd⟩) off
      · have := k2 _ (hmem j y hy)
        rcases this with (h5 | h5) | h5
        · have := Nat.eq_of_beq_eq_true h5; omega
        · exact .inl h5
        · right
          intro hyd off
          simp only [Ent.out, hyd, Bool.not_eq_true'] at h5
          exact isLp_spec h5 off
  have hlen : tx ops.size = s' := by simpa using tn
  refine wp_region_any hm ?_
  refine any_ok T hcf hb0 hdn (fun a' w' hi' => hQ a' w' (by rw [hlen] at hi'; exact hi')) ops.size _ _ _ (by simp) ?_ ?_ ?_
  · intro j o _ hj
    simp only [getD_replicate_false] at hj
    cases hj
  · unfold left
    exact Nat.le_trans (List.countP_le_length) (by simp)
  · have hnone : ∀ k, mix ops tx ft (fun j => (Array.replicate ops.size false).getD j false) k = tx 0 := by
      intro k
      induction k with
      | zero => rfl
      | succ k ih =>
        rw [mix, getD_replicate_false, if_neg (by simp)]
        exact ih
    rw [hnone, t0]
    exact hi.drew
end
end Go.R
