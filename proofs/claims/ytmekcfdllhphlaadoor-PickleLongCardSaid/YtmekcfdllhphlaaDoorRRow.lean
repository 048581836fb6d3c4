/- From the interpreter's answer to a row: arguments that read as data, and what is told of the return. -/
import Derived.Test.YtmekcfdllhphlaaDoorRPure
import Derived.ProofKit
set_option linter.unusedVariables false
set_option linter.unusedSimpArgs false
namespace Go.R
open Go

/-! ### The shape of what reads as data -/
def FitsFs (P : Program) (F : TypeId → List AV → Prop) : List Field → List AV → Prop
  | [], xs => xs = []
  | f :: fs, xs => ∃ a b, xs = a ++ b ∧ a.length = P.cellsOf f.type ∧ F f.type a ∧ FitsFs P F fs b

def Fits (P : Program) : Nat → TypeId → List AV → Prop
  | 0, _, _ => False
  | n + 1, t, xs =>
    match P.underlying t with
    | some .bool => ∃ b, xs = [.bool b]
    | some (.int k) => ∃ z, xs = [.int k z] ∧ k.min ≤ z ∧ z ≤ k.max
    | some .string => ∃ s : ByteArray, xs = [.str s] ∧ s.size ≤ maxLen
    | some (.slice e) => xs = [.nils] ∨ ∃ els : List (List AV), xs = [.fz els.flatten els.length false] ∧ els.length ≤ maxLen ∧ ∀ el ∈ els, el.length = P.cellsOf e ∧ Fits P n e el
    | some (.struct fs) => FitsFs P (Fits P n) fs.toList xs
    | _ => False

def contigB (P : Program) : Nat → List Field → Bool
  | _, [] => true
  | k, f :: fs => Nat.beq f.offset k && contigB P (k + P.cellsOf f.type) fs

/-- The types that are served. -/
def flatB (P : Program) : Nat → TypeId → Bool
  | 0, _ => false
  | n + 1, t =>
    match P.underlying t with
    | some .bool | some (.int _) | some .string => true
    | some (.slice e) => flatB P n e
    | some (.struct fs) => contigB P 0 fs.toList && Nat.beq (P.cellsOf t) ((fs.toList.map fun f => P.cellsOf f.type).sum) && fs.toList.all fun f => flatB P n f.type
    | _ => false

theorem mapM_some {α β : Type} {f : α → Option β} : ∀ {l : List α} {ys : List β}, l.mapM f = some ys → ys.length = l.length ∧ ∀ (i : Nat) (x : α), l[i]? = some x → ∃ y, ys[i]? = some y ∧ f x = some y
  | [], ys, h => by
    simp at h; subst h
    exact ⟨rfl, fun i x hx => by simp at hx⟩
  | a :: l, ys, h => by
    simp only [List.mapM_cons, Option.bind_eq_bind, Option.bind_eq_some_iff, Option.pure_def, Option.some.injEq] at h
    obtain ⟨y, hy, zs, hz, rfl⟩ := h
    obtain ⟨h1, h2⟩ := mapM_some hz
    refine ⟨by simp [h1], fun i x hx => ?_⟩
    cases i with
    | zero => simp at hx; subst hx; exact ⟨y, rfl, hy⟩
    | succ i => simpa using h2 i x (by simpa using hx)

theorem cell_plain {w : World} {a : Addr} {v : Value} (h : w.cell? a = some v) : w.cell? ⟨a.block, a.off, none⟩ = some v ∧ a.spot = none := by
  unfold World.cell? at h ⊢
  split at h
  · rename_i c t fr hb
    rw [hb]
    simp only at h ⊢
    cases hs : a.spot with
    | none => rw [hs] at h; exact ⟨by simpa using h, rfl⟩
    | some _ => rw [hs] at h; simp at h
  · cases h

theorem add_parts (a : Addr) (n : Nat) : (a.add n).block = a.block ∧ (a.add n).off = a.off + n := by
  unfold Addr.add
  split
  · rename_i h; subst h; exact ⟨rfl, rfl⟩
  · exact ⟨rfl, rfl⟩

theorem cells?_spec {w : World} {base : Nat} {a : Addr} {n : Nat} {cs : List Value} (h : w.cells? base a n = some cs) : cs.length = n ∧ ∀ i, i < n → w.cell? ⟨a.block, a.off + i, none⟩ = cs[i]? ∧ (i = 0 → a.spot = none) := by
  unfold World.cells? at h
  split at h
  · obtain ⟨h1, h2⟩ := mapM_some h
    refine ⟨by simpa using h1, fun i hi => ?_⟩
    obtain ⟨y, hy, hc⟩ := h2 i i (by simp [hi])
    obtain ⟨h3, h4⟩ := cell_plain hc
    rw [(add_parts a i).1, (add_parts a i).2] at h3
    refine ⟨by rw [h3, hy], fun h0 => ?_⟩
    subst h0
    simpa [Addr.add] using h4
  · cases h

theorem exists_list {α : Type} {Q : Nat → α → Prop} : ∀ n, (∀ i, i < n → ∃ x, Q i x) → ∃ l : List α, l.length = n ∧ ∀ i x, l[i]? = some x → Q i x
  | 0, _ => ⟨[], rfl, fun i x h => by simp at h⟩
  | n + 1, h => by
    obtain ⟨l, h1, h2⟩ := exists_list n fun i hi => h i (by omega)
    obtain ⟨x, hx⟩ := h n (by omega)
    refine ⟨l ++ [x], by simp [h1], fun i y hy => ?_⟩
    by_cases hi : i < n
    · exact h2 i y (by rwa [List.getElem?_append_left (by omega)] at hy)
    · rw [List.getElem?_append_right (by omega)] at hy
      have : i = n := by
        have := (List.getElem?_eq_some_iff.1 hy).1
        simp at this; omega
      subst this
      simp [h1] at hy
      subst hy; exact hx

theorem Cells.append {c : Cx} {L : Nat → Prop} : ∀ {xs ys : List AV} {b o : Nat}, Cells c L xs b o → Cells c L ys b (o + xs.length) → Cells c L (xs ++ ys) b o
  | [], ys, b, o, _, h => by simpa using h
  | x :: xs, ys, b, o, h, k => ⟨h.1, Cells.append h.2 (by simpa [Nat.add_assoc, Nat.add_comm 1] using k)⟩

theorem Cells.flatten {c : Cx} {L : Nat → Prop} {b size : Nat} : ∀ (els : List (List AV)) (o : Nat), (∀ i el, els[i]? = some el → el.length = size ∧ Cells c L el b (o + i * size)) → Cells c L els.flatten b o
  | [], o, _ => trivial
  | el :: els, o, h => by
    obtain ⟨h1, h2⟩ := h 0 el rfl
    rw [List.flatten_cons]
    refine Cells.append (by simpa using h2) (Cells.flatten (size := size) els _ fun i el' he => ?_)
    obtain ⟨h3, h4⟩ := h (i + 1) el' (by simpa using he)
    refine ⟨h3, ?_⟩
    rw [h1]
    rwa [show o + size + i * size = o + (i + 1) * size by rw [Nat.add_mul, Nat.one_mul]; omega]

section
variable {H : Type} {enc : TypeId × Value → H} {P : Program} {c : Cx} {sp : Nat → Bool} {held : Bool}

theorem trod_fields {F : TypeId → List AV → Prop} {g : TypeId → List Value → Option (DataW H × List MemPlace)} (hg : ∀ t cs x, g t cs = some x → cs.length = P.cellsOf t → (∃ u : Nat, u = 0) → True) :
    ∀ (fs : List Field) (k : Nat) (cs : List Value) (xs : List (DataW H × List MemPlace)), contigB P k fs = true → (∀ f ∈ fs, ∀ cs x, g f.type cs = some x → cs.length = P.cellsOf f.type → ∃ ys, VRs c none0 ys cs ∧ F f.type ys ∧ ∀ v ∈ cs, v.oneCell' = true) →
      (fs.mapM fun f => g f.type ((cs.drop f.offset).take (P.cellsOf f.type))) = some xs → k + (fs.map fun f => P.cellsOf f.type).sum ≤ cs.length →
      ∃ ys, VRs c none0 ys ((cs.drop k).take ((fs.map fun f => P.cellsOf f.type).sum)) ∧ FitsFs P F fs ys ∧ ∀ v ∈ (cs.drop k).take ((fs.map fun f => P.cellsOf f.type).sum), v.oneCell' = true
  | [], k, cs, xs, _, _, _, _ => ⟨[], by simp [VRs], rfl, by simp⟩
  | f :: fs, k, cs, xs, hc, hF, h, hl => by
    simp only [contigB, Bool.and_eq_true, beq_nat, decide_eq_true_eq] at hc
    obtain ⟨rfl, hc⟩ := hc
    simp only [List.mapM_cons, Option.bind_eq_bind, Option.bind_eq_some_iff, Option.pure_def, Option.some.injEq] at h
    obtain ⟨y, hy, zs, hz, rfl⟩ := h
    simp only [List.map_cons, List.sum_cons] at hl ⊢
    have hlen : ((cs.drop f.offset).take (P.cellsOf f.type)).length = P.cellsOf f.type := by simp; omega
    obtain ⟨a, ha, hFa, h1⟩ := hF f (by simp) _ _ hy hlen
    obtain ⟨b, hb, hFb, h2⟩ := trod_fields hg fs (f.offset + P.cellsOf f.type) cs zs hc (fun f' hf' => hF f' (by simp [hf'])) hz (by omega)
    have hsplit : (cs.drop f.offset).take (P.cellsOf f.type + (fs.map fun f => P.cellsOf f.type).sum) = (cs.drop f.offset).take (P.cellsOf f.type) ++ ((cs.drop (f.offset + P.cellsOf f.type)).take ((fs.map fun f => P.cellsOf f.type).sum)) := by
      rw [List.take_add, List.drop_drop]
    rw [hsplit]
    refine ⟨a ++ b, VRs.append ha hb, ⟨a, b, rfl, ?_, hFa, hFb⟩, fun v hv => ?_⟩
    · rw [ha.length, hlen]
    · rcases List.mem_append.1 hv with hv | hv
      · exact h1 v hv
      · exact h2 v hv

theorem trod_fits (hno : ∀ id, c.h.get id = none) : ∀ (m : Nat) (t : TypeId) (fuel : Nat) (cs : List Value) (d : DataW H) (ps : List MemPlace), flatB P m t = true → DataW.trod enc P c.w 0 sp held fuel t cs = some (d, ps) →
    ∃ xs, VRs c none0 xs cs ∧ Fits P m t xs ∧ ∀ v ∈ cs, v.oneCell' = true
  | 0, _, _, _, _, _, hB, _ => by simp [flatB] at hB
  | m + 1, t, 0, cs, d, ps, hB, h => by simp [DataW.trod] at h
  | m + 1, t, fuel + 1, cs, d, ps, hB, h => by
    have hnl : ∀ id, ¬ Live c.h id := fun id hl => by have := hl.2; rw [hno id] at this; cases this
    unfold flatB at hB
    unfold Fits
    cases hu : P.underlying t with
    | none => rw [hu] at hB; cases hB
    | some td =>
    rw [hu] at hB
    cases td <;> simp only at hB ⊢ <;> try (cases hB; done)
    · -- bool
      unfold DataW.trod at h
      rw [hu] at h
      split at h <;> first | (rename_i heq; cases heq; done) | skip
      all_goals try (rename_i heq _; cases heq; done)
      all_goals (first | (cases h; done) | skip)
      · rename_i b _
        exact ⟨[.bool b], ⟨by simp [VR], trivial⟩, ⟨b, rfl⟩, by simp [Value.oneCell']⟩
    · rename_i k
      unfold DataW.trod at h
      rw [hu] at h
      split at h <;> first | (rename_i heq; cases heq; done) | skip
      all_goals try (rename_i heq _; cases heq; done)
      · rename_i k' k2 n heq
        cases heq
        split at h
        · rename_i hk
          obtain ⟨rfl, hwf⟩ := hk
          simp only [Lit.wf, Bool.and_eq_true, decide_eq_true_eq] at hwf
          exact ⟨[.int k2 n], ⟨by simp [VR], trivial⟩, ⟨n, rfl, hwf⟩, by simp [Value.oneCell']⟩
        · cases h
      · cases h
    · -- string
      unfold DataW.trod at h
      rw [hu] at h
      split at h <;> first | (rename_i heq; cases heq; done) | skip
      all_goals try (rename_i heq _; cases heq; done)
      · rename_i s _
        split at h
        · rename_i hs
          exact ⟨[.str s], ⟨by simp [VR], trivial⟩, ⟨s, rfl, hs⟩, by simp [Value.oneCell']⟩
        · cases h
      · cases h
    · -- slice
      rename_i e
      unfold DataW.trod at h
      rw [hu] at h
      split at h <;> first | (rename_i heq; cases heq; done) | skip
      all_goals try (rename_i heq _; cases heq; done)
      · exact ⟨[.nils], ⟨by simp [VR], trivial⟩, .inl rfl, by simp [Value.oneCell']⟩
      · rename_i e' a len cap heq
        cases heq
        simp only at h
        split at h
        rotate_left
        · cases h
        rename_i hbound
        obtain ⟨_, hlc, hcap⟩ := hbound
        rw [Option.bind_eq_some_iff] at h
        obtain ⟨elems, hel, _⟩ := h
        obtain ⟨hn, hget⟩ := mapM_some hel
        have key : ∀ i, i < len → ∃ el : List AV, el.length = P.cellsOf e ∧ Fits P m e el ∧ Cells c none0 el a.block (a.off + i * P.cellsOf e) ∧ (i = 0 → 0 < P.cellsOf e → a.spot = none) := by
          intro i hi
          obtain ⟨y, _, hy⟩ := hget i i (by simp [hi])
          rw [Option.bind_eq_some_iff] at hy
          obtain ⟨csi, hcs, hy⟩ := hy
          obtain ⟨hl, hcell⟩ := cells?_spec hcs
          obtain ⟨el, hv, hf, h1⟩ := trod_fits hno m e fuel csi y.1 y.2 hB hy
          refine ⟨el, by rw [hv.length, hl], hf, Cells.of_vals hv (fun j hj => ?_) h1, fun h0 hpos => ?_⟩
          · have := (hcell j (by omega)).1
            rwa [(add_parts a _).1, (add_parts a _).2] at this
          · subst h0
            have := (hcell 0 hpos).2 rfl
            simpa [Addr.add] using this
        obtain ⟨els, hl, hels⟩ := exists_list len key
        refine ⟨[.fz els.flatten els.length false], ⟨?_, trivial⟩, .inr ⟨els, rfl, by omega, fun el hel => ?_⟩, by simp [Value.oneCell']⟩
        · simp only [VR]
          refine ⟨some a, cap, by rw [hl], by omega, by simp, rfl, ?_⟩
          by_cases hemp : els.flatten = []
          · exact .inl hemp
          · have hpos : 0 < len ∧ 0 < P.cellsOf e := by
              cases els with
              | nil => simp at hemp
              | cons el els =>
                refine ⟨by simp at hl; omega, ?_⟩
                rcases Nat.eq_zero_or_pos (P.cellsOf e) with h0 | h0
                · exfalso
                  apply hemp
                  rw [List.flatten_eq_nil_iff]
                  intro l hl'
                  obtain ⟨i, hi⟩ := List.getElem?_of_mem hl'
                  have := (hels i l hi).1
                  exact List.eq_nil_of_length_eq_zero (by omega)
                · exact h0
            have hspot : a.spot = none := by
              cases els with
              | nil => simp at hl; omega
              | cons el els => exact (hels 0 el rfl).2.2.2 rfl hpos.2
            refine .inr ⟨a.block, a.off, ?_, ⟨fun id hl => absurd hl (hnl id), fun h => h.elim⟩, by simp, Cells.flatten els a.off fun i el hi => ⟨(hels i el hi).1, (hels i el hi).2.2.1⟩⟩
            cases a; simp at hspot; subst hspot; rfl
        · obtain ⟨i, hi⟩ := List.getElem?_of_mem hel
          exact ⟨(hels i el hi).1, (hels i el hi).2.1⟩
      · cases h
    · -- struct
      rename_i fs
      simp only [Bool.and_eq_true, beq_nat, decide_eq_true_eq, List.all_eq_true] at hB
      obtain ⟨⟨hcon, hsum⟩, hflat⟩ := hB
      simp only [DataW.trod, hu] at h
      split at h
      rotate_left
      · cases h
      rename_i hlen
      rw [Option.map_eq_some_iff] at h
      obtain ⟨xs, hx, _⟩ := h
      obtain ⟨ys, h1, h2, h3⟩ := trod_fields (P := P) (c := c) (F := Fits P m) (g := fun t cs => DataW.trod enc P c.w 0 sp held fuel t cs) (fun _ _ _ _ _ _ => trivial) fs.toList 0 cs xs hcon
        (fun f hf cs x hx _ => trod_fits hno m f.type fuel cs x.1 x.2 (hflat f hf) hx) hx (by omega)
      have hall : (cs.drop 0).take ((fs.toList.map fun f => P.cellsOf f.type).sum) = cs := by
        rw [List.drop_zero, ← hsum, ← hlen, List.take_length]
      rw [hall] at h1 h3
      exact ⟨ys, h1, h2, h3⟩

/-! ### The arguments -/
def argAV (P : Program) (t : TypeId) (xs : List AV) : AV :=
  match P.underlying t with
  | some (.struct _) => .agg xs
  | _ => xs.headD .any

def ArgsFit (P : Program) (m : Nat) : List TypeId → List AV → Prop
  | [], [] => True
  | t :: ts, x :: avs => (∃ xs, x = argAV P t xs ∧ Fits P m t xs) ∧ ArgsFit P m ts avs
  | _, _ => False

theorem flat_cell {w : World} {m : Nat} {t : TypeId} {v : Value} {base : Nat} (hB : flatB P m t = true) (hs : ∀ fs, P.underlying t ≠ some (.struct fs)) (h : Value.okWide P w .any base t v) : v.cells.toList = [v] := by
  cases m with
  | zero => simp [flatB] at hB
  | succ m =>
  unfold flatB at hB
  unfold Value.okWide at h
  cases hu : P.underlying t with
  | none => rw [hu] at hB; cases hB
  | some td =>
  rw [hu] at hB h
  cases td <;> simp only at hB h <;> first
    | (cases hB; done)
    | (exact absurd hu (hs _))
    | (cases v <;> simp only [Cell.okWide, Cell.ok, hu] at h <;> first | (exact h.elim) | rfl | (simp [Value.cells]))

theorem arg_fits (hno : ∀ id, c.h.get id = none) {m : Nat} {t : TypeId} {v : Value} {d : DataW H} {ps : List MemPlace} {base : Nat} (hB : flatB P m t = true) (ho : Value.okWide P c.w .any base t v) (h : DataW.Trod enc P c.w 0 sp held t v d ps) :
    ∃ xs, Fits P m t xs ∧ VR c none0 (argAV P t xs) v := by
  obtain ⟨fuel, h⟩ := h
  obtain ⟨xs, h1, h2, _⟩ := trod_fits hno m t fuel _ d ps hB h
  refine ⟨xs, h2, ?_⟩
  by_cases hs : ∃ fs, P.underlying t = some (.struct fs)
  · obtain ⟨fs, hs⟩ := hs
    unfold Value.okWide at ho
    rw [hs] at ho
    obtain ⟨cs, rfl, _⟩ := ho
    unfold argAV
    rw [hs]
    simp only [VR]
    exact ⟨cs, rfl, h1⟩
  · have hs' : ∀ fs, P.underlying t ≠ some (.struct fs) := fun fs h => hs ⟨fs, h⟩
    have hc := flat_cell hB hs' ho
    rw [hc] at h1
    have hx : argAV P t xs = xs.headD .any := by
      unfold argAV
      split
      · rename_i fs h; exact absurd h (hs' fs)
      · rfl
    rw [hx]
    cases xs with
    | nil => exact h1.elim
    | cons x xs => exact h1.1

theorem args_fit (hno : ∀ id, c.h.get id = none) {m base : Nat} : ∀ (ts : List TypeId) (vs : List Value) (ds : List (DataW H)) (ps : List MemPlace), (∀ t ∈ ts, flatB P m t = true) → (∀ (j : Nat) t v, ts[j]? = some t → vs[j]? = some v → Value.okWide P c.w .any base t v) →
    DataW.TrodAll enc P c.w 0 sp held ts vs ds ps → ∃ avs, ArgsFit P m ts avs ∧ VRs c none0 avs vs
  | [], [], [], _, _, _, _ => ⟨[], trivial, trivial⟩
  | t :: ts, v :: vs, d :: ds, ps, hB, ho, h => by
    obtain ⟨p, q, h1, h2, _⟩ := h
    obtain ⟨xs, h3, h4⟩ := arg_fits hno (hB t (by simp)) (ho 0 t v rfl rfl) h1
    obtain ⟨avs, h5, h6⟩ := args_fit hno ts vs ds q (fun t ht => hB t (by simp [ht])) (fun j t v hj hv => ho (j + 1) t v (by simpa using hj) (by simpa using hv)) h2
    exact ⟨argAV P t xs :: avs, ⟨⟨xs, rfl, h3⟩, h5⟩, h4, h6⟩
  | [], [], _ :: _, _, _, _, h => h.elim
  | [], _ :: _, _, _, _, _, h => by cases h
  | _ :: _, [], _, _, _, _, h => by cases h
  | _ :: _, _ :: _, [], _, _, _, h => by cases h

/-! ### What is told of the return -/
theorem TrodAll_stays (hl : laidOutB P = true) {W W' : World} {sp' : Nat → Bool} : ∀ {ts : List TypeId} {vs : List Value} {ds : List (DataW H)} {ps : List MemPlace}, (∀ t ∈ ts, P.readableRec t = true ∧ t < P.types.size) →
    DataW.TrodAll enc P W 0 (fun _ => true) true ts vs ds ps → (∀ p ∈ ps, W.sameAt W' p) → (∀ p ∈ ps, sp' p.block = true) → DataW.TrodAll enc P W' 0 sp' true ts vs ds ps
  | [], [], [], _, _, h, _, _ => h
  | t :: ts, v :: vs, d :: ds, ps, hr, h, hs, hp => by
    obtain ⟨p, q, h1, h2, rfl⟩ := h
    exact ⟨p, q, WideElems.Trod_stays hl (hr t (by simp)).1 (hr t (by simp)).2 h1 (fun x hx => hs x (by simp [hx])) (fun x hx => hp x (by simp [hx])),
      TrodAll_stays hl (fun t ht => hr t (by simp [ht])) h2 (fun x hx => hs x (by simp [hx])) (fun x hx => hp x (by simp [hx])), rfl⟩
  | [], [], _ :: _, _, _, h, _, _ => h.elim
  | [], _ :: _, _, _, _, h, _, _ => by cases h
  | _ :: _, [], _, _, _, h, _, _ => by cases h
  | _ :: _, _ :: _, [], _, _, h, _, _ => by cases h

theorem post_true {f : Func} {s : ChangeSpec} {apart fresh handsOn again : Bool} {W W' : World} {args : Array Value} {ds gs : List (DataW H)} {before : List MemPlace} {tb : TypeId}
    (hl : laidOutB P = true) (hr : ∀ t ∈ f.params.toList, P.readableRec t = true ∧ t < P.types.size) (hW : DataW.Whole enc P f.params.toList s.vars apart W args.toList ds gs before) (hv : s.vars = [])
    (hres : f.resultTypes = #[tb]) (htb : P.underlying tb = some .bool) (hfn : (s.fn H (ds ++ gs)) = { results := [.lit (.bool true)], args := ds }) (hb : RowKit.Below W.heap.size W W') :
    s.post enc P f apart fresh handsOn again W args (.bool true) W' := by
  have hlt := hW.lt
  have hW0 := hW
  obtain ⟨p, q, hA, hV, hpq, hz, hn⟩ := hW
  rw [hv] at hV
  have hgs : gs = [] ∧ q = [] := by
    cases gs with
    | nil => exact ⟨rfl, hV⟩
    | cons g gs => exact hV.elim
  obtain ⟨rfl, rfl⟩ := hgs
  have hpq' : before = p := by simpa using hpq
  subst hpq'
  have hsame : ∀ x ∈ before, W.sameAt W' x := fun x hx => hb.same (hlt x hx)
  have hlist : (Value.bool true).resultList f.resultTypes.size = [.bool true] := by rw [hres]; rfl
  have hresT : ∀ (b : Nat) (sp : Nat → Bool) (hd : Bool), DataW.TrodAll enc P W' b sp hd f.resultTypes.toList ((Value.bool true).resultList f.resultTypes.size) [.lit (.bool true)] [] := by
    intro b sp hd
    rw [hlist, hres]
    exact ChangeShapes.trodAll_mk1 (RowKit.shut_bool htb true)
  refine ⟨ds, [], before, [], before, [], hW0, ?_, ?_, ?_, ?_, fun _ => ⟨?_, ?_⟩⟩
  · rw [hfn]; exact hresT _ _ _
  · rw [hfn]
    exact TrodAll_stays hl hr hA hsame (fun x hx => by simpa using hlt x hx)
  · rw [hfn, hv]; rfl
  · exact hb.frame _
  · exact RowKit.ok_one hres rfl (RowKit.okWide_bool_mk htb true)
  · refine ⟨_, [], before, ⟨[] ++ before, [], ChangeShapes.trodAll_append (TrodAll_stays hl hr hA hsame (fun _ _ => rfl)) (hresT 0 _ _), by rw [hv]; rfl, by simp, fun b off hx => ?_, hn⟩, fun p hp _ => hp⟩
    rw [hb.frozen (p := ⟨b, off, none⟩) (hlt _ hx)]
    exact hz b off hx

theorem Ext.below {c c' : Cx} (e : Ext c none0 c' none0) : RowKit.Below c.base c.w c'.w := ⟨e.os, e.tape, e.output, e.size, fun b hb => e.exact b hb⟩

/-- THE ROW: whatever fits is answered with true. -/
theorem contract_true {cf : CallF} {fid : FuncId} {f : Func} {s : ChangeSpec} {apart fresh handsOn again : Bool} {m : Nat} {tb : TypeId}
    (hl : laidOutB P = true) (hr : ∀ t ∈ f.params.toList, P.readableRec t = true ∧ t < P.types.size) (hB : ∀ t ∈ f.params.toList, flatB P m t = true) (hv : s.vars = []) (hres : f.resultTypes = #[tb]) (htb : P.underlying tb = some .bool)
    (hfn : ∀ ds : List (DataW H), ds.length = f.params.size → (s.fn H ds) = { results := [.lit (.bool true)], args := ds })
    (hcf : ∀ avs, ArgsFit P m f.params.toList avs → ∃ cf h', CallOK P cf ∧ cf fid avs heap0 = some (.bool true, h'))
    {W : World} {base : Nat} {args : Array Value} {ds gs : List (DataW H)} {before : List MemPlace} (hval : ∀ (j : Nat) t v, f.params[j]? = some t → args[j]? = some v → Value.okWide P W .any base t v)
    (hW : DataW.Whole enc P f.params.toList s.vars apart W args.toList ds gs before) :
    Calls P fid args W fun e W' => ∃ v, e = .returned v ∧ s.post enc P f apart fresh handsOn again W args v W' := by
  have hW0 := hW
  obtain ⟨p, q, hA, hV, hpq, _, _⟩ := hW
  let c : Cx := ⟨fun _ => (0, 0), heap0, W, W.heap.size⟩
  obtain ⟨avs, h1, h2⟩ := args_fit (c := c) (P := P) (m := m) (base := base) (fun _ => rfl) f.params.toList args.toList ds p hB (fun j t v hj hv => hval j t v (by simpa using hj) (by simpa using hv)) hA
  obtain ⟨cf, h', hok, hans⟩ := hcf avs h1
  have hnl : ∀ id, ¬ Live c.h id := fun id hl => by have := hl.2; cases this
  have hcall := (hok fid avs heap0 _ _ hans).2 none0 c args.toList rfl (Nat.le_refl _) ⟨fun id o ho => (by cases ho), fun id o ho => (by cases ho), fun id _ hl _ _ => absurd hl (hnl id), fun id hl => absurd hl (hnl id), fun b hb => hb.elim, fun id hl => absurd hl (hnl id), fun _ => Nat.zero_lt_one⟩ h2
  rw [Array.toArray_toList] at hcall
  have hlen : ∀ (ts : List TypeId) (vs : List Value) (ds : List (DataW H)) (p : List MemPlace), DataW.TrodAll enc P W 0 (fun _ => true) true ts vs ds p → ds.length = ts.length := by
    intro ts
    induction ts with
    | nil => intro vs ds p h; cases vs <;> cases ds <;> first | rfl | (cases h; done) | exact h.elim
    | cons t ts ih => intro vs ds p h; cases vs <;> cases ds <;> first | (cases h; done) | (obtain ⟨_, _, _, h2, _⟩ := h; simp [ih _ _ _ h2])
  have hgs : gs = [] := by
    rw [hv] at hV
    cases gs with
    | nil => rfl
    | cons g gs => exact hV.elim
  refine hcall.mono ?_
  rintro e w' ⟨c', v, rfl, rfl, hh, hvr, hrel, hext⟩
  simp only [VR] at hvr
  subst hvr
  refine ⟨_, rfl, post_true hl hr hW0 hv hres htb ?_ hext.below⟩
  rw [hgs, List.append_nil]
  exact hfn ds (by rw [hlen _ _ _ _ hA]; simp)
end
end Go.R
