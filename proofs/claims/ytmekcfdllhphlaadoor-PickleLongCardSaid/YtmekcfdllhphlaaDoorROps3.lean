/- Look-ups, lengths, conversions, arithmetic; the operations that turn no memory, together. -/
import Derived.Test.YtmekcfdllhphlaaDoorRKeys
import Derived.MapKept
import Derived.Laws.Slices
set_option linter.unusedVariables false
set_option linter.unusedSimpArgs false
namespace Go.R
open Go

section
variable {P : Program} {L0 : Nat → Prop} {c0 : Cx} {n : Nat} {ds : List Nat} {o : Oper} {s : RS}

theorem beq_bytes (a b : ByteArray) : (a == b) = (a.data.toList == b.data.toList) := by
  cases a with | mk x => cases b with | mk y =>
  show (x == y) = (x.toList == y.toList)
  rw [Bool.eq_iff_iff]
  simp [Array.toList_inj]

def place (k : AV) : List (AV × AV) → List MapEntry → Nat → Option (Nat × Value)
  | (k', _) :: es, m :: ms, i => if keyEq k k' then some (i, m.val) else place k es ms (i + 1)
  | _, _, _ => none

theorem findNow_place {c : Cx} {L : Nat → Prop} {d : TypeDesc} {k : AV} {kv : Value} (hd : (∃ q, d = .int q) ∨ d = .string) (hk : k.conc1 = some kv) (hkk : (∃ q a, k = .int q a) ∨ ∃ b, k = .str b) :
    ∀ (es : List (AV × AV)) (ms : List MapEntry) (i : Nat), EntR c L es ms → findA k es ≠ none → (∀ q a, k = .int q a → ∃ q', d = .int q') → (∀ b, k = .str b → d = .string) → Instr.findNow d kv ms i = some (place k es ms i)
  | [], [], i, _, _, _, _ => rfl
  | (k', v) :: es, m :: ms, i, he, hf, h1, h2 => by
    simp only [findA] at hf
    have hs : sameShape k k' = true := by
      by_cases hs : sameShape k k' = true
      · exact hs
      · simp [hs] at hf
    simp only [hs, if_true] at hf
    obtain ⟨⟨hkr, _⟩, hvr, hes⟩ := he
    have hnow : Instr.sameNow d kv m.key = some (keyEq k k') := by
      rcases hkk with ⟨q, a, rfl⟩ | ⟨b, rfl⟩
      · obtain ⟨q', rfl⟩ := h1 q a rfl
        cases k' <;> simp only [sameShape] at hs <;> try (cases hs; done)
        rename_i q2 a2
        simp only [beq_iff_eq] at hs
        subst hs
        simp only [VR] at hkr
        simp only [AV.conc1, Option.some.injEq] at hk
        subst hk
        rw [hkr]
        simp [Instr.sameNow, keyEq, keyEq1]
      · have := h2 b rfl
        subst this
        cases k' with
        | str b2 =>
          simp only [VR] at hkr
          simp only [AV.conc1, Option.some.injEq] at hk
          subst hk
          rw [hkr]
          simp only [Instr.sameNow, keyEq, keyEq1, Option.some.injEq]
          exact beq_bytes b b2
        | _ => cases hs
    simp only [Instr.findNow, hnow]
    cases hq : keyEq k k' with
    | true => simp [place, hq]
    | false =>
      simp only [hq, Bool.false_eq_true, if_false] at hf
      simp only [place, hq, Bool.false_eq_true, if_false]
      exact findNow_place hd hk hkk es ms (i + 1) hes hf h1 h2
  | [], _ :: _, _, h, _, _, _ => h.elim
  | _ :: _, [], _, h, _, _, _ => h.elim

theorem findAsking_place {c : Cx} {L : Nat → Prop} {kt : TypeId} {k : AV} {kv : Value} (hk : keyOK P kt k = true) (hkv : VR c L k kv) (w : World) :
    ∀ (es : List (AV × AV)) (ms : List MapEntry) (i : Nat), EntR c L es ms → findA k es ≠ none → (Instr.findAsking kt kv ms i).run P w = .ok (place k es ms i) w
  | [], [], i, _, _ => rfl
  | (k', v) :: es, m :: ms, i, he, hf => by
    simp only [findA] at hf
    have hs : sameShape k k' = true := by
      by_cases hs : sameShape k k' = true
      · exact hs
      · simp [hs] at hf
    simp only [hs, if_true] at hf
    obtain ⟨⟨hkr, _⟩, hvr, hes⟩ := he
    have hq := run_keyEq (P := P) 9998 hk hs hkv hkr w
    simp only [Instr.findAsking, Op.equal, Op.maxDepth, Sem.run_bind, hq, Result.andThen_ok]
    cases h : keyEq k k' with
    | true => simp [place, h]
    | false =>
      simp only [h, Bool.false_eq_true, if_false] at hf
      simp only [place, h, Bool.false_eq_true, if_false]
      exact findAsking_place hk hkv w es ms (i + 1) hes hf
  | [], _ :: _, _, h, _ => h.elim
  | _ :: _, [], _, h, _ => h.elim

theorem run_findA {c : Cx} {L : Nat → Prop} {kt : TypeId} {k : AV} {kv : Value} (hk : keyOK P kt k = true) (hkv : VR c L k kv) (w : World) {es : List (AV × AV)} {ms : List MapEntry} (he : EntR c L es ms) (hf : findA k es ≠ none) :
    (Instr.findKey kt kv ms).run P w = .ok (place k es ms 0) w := by
  have hk0 := hk
  cases hd : P.underlying kt with
  | none => simp [keyOK, hd] at hk
  | some d =>
  cases d <;> simp only [keyOK, hd] at hk <;> try (cases hk; done)
  · rename_i q
    cases k <;> simp only at hk <;> try (cases hk; done)
    rename_i q2 a
    have hc : (AV.int q2 a).conc1 = some kv := by simp only [VR] at hkv; simp [AV.conc1, hkv]
    exact MapKept.run_findKey hd (findNow_place (.inl ⟨q, rfl⟩) hc (.inl ⟨_, _, rfl⟩) es ms 0 he hf (fun _ _ _ => ⟨q, rfl⟩) (fun b hb => by cases hb))
  · cases k <;> simp only at hk <;> try (cases hk; done)
    rename_i b
    have hc : (AV.str b).conc1 = some kv := by simp only [VR] at hkv; simp [AV.conc1, hkv]
    exact MapKept.run_findKey hd (findNow_place (.inr rfl) hc (.inr ⟨_, rfl⟩) es ms 0 he hf (fun _ _ h => by cases h) (fun b hb => rfl))
  · rw [run_findKey_eq w (by simp [hd])]
    exact findAsking_place hk0 hkv w es ms 0 he hf
  · rw [run_findKey_eq w (by simp [hd])]
    exact findAsking_place hk0 hkv w es ms 0 he hf

theorem findA_place {c : Cx} {L : Nat → Prop} {k : AV} : ∀ (es : List (AV × AV)) (ms : List MapEntry) (i : Nat), EntR c L es ms → (findA k es = some none → place k es ms i = none) ∧ (∀ v, findA k es = some (some v) → ∃ j u, place k es ms i = some (j, u) ∧ VR c L v u)
  | [], [], i, _ => ⟨fun _ => rfl, fun v h => by simp [findA] at h⟩
  | (k', v) :: es, m :: ms, i, he => by
    obtain ⟨⟨hkr, _⟩, hvr, hes⟩ := he
    obtain ⟨h1, h2⟩ := findA_place es ms (i + 1) hes
    simp only [findA, place]
    by_cases hs : sameShape k k' = true
    · simp only [hs, if_true]
      by_cases hq : keyEq k k' = true
      · simp only [hq, if_true]
        exact ⟨fun h => (by cases h), fun u hu => (by cases hu; exact ⟨i, m.val, rfl, hvr⟩)⟩
      · simp only [hq, if_false, Bool.false_eq_true]
        exact ⟨h1, h2⟩
    · simp [hs]
  | [], _ :: _, _, h => h.elim
  | _ :: _, [], _, h => h.elim

theorem run_zeroA {t : TypeId} {z : AV} (h : zeroA P t = some z) (w : World) : ∃ v, (zeroValue t).run P w = .ok v w ∧ ofV v = some z := by
  unfold zeroA at h
  simp only [Option.bind_eq_some_iff] at h
  obtain ⟨i, hi, v, hv, hz⟩ := h
  exact ⟨v, by simp [zeroValue, typeInfo, hi, hv], hz⟩

theorem run_lookupA {c : Cx} {Lo : Nat → Prop} {lam : Nat → Nat} {a : Act} (f : Fr L0 c Lo lam ds s a) {t : TypeId} {m k y : AV} {mv kv : Value} {ok : Bool} (hm : SR c L0 Lo lam s.bx m mv) (hk : SR c L0 Lo lam s.bx k kv)
    (h : lookupA P s.h t m k ok = some y) : ∃ r, (Instr.lookup t mv kv ok).run P c.w = .ok r c.w ∧ VR c (un L0 Lo) y r := by
  unfold lookupA at h
  rw [Option.bind_eq_some_iff] at h
  obtain ⟨d, hd, h⟩ := h
  cases d <;> simp only at h <;> try (cases h; done)
  rename_i kt et
  split at h
  · cases h
  rename_i hkok
  have hkok : keyOK P kt k = true := by simpa using hkok
  rw [Option.bind_eq_some_iff] at h
  obtain ⟨es, hes, h⟩ := h
  have hkv : VR c (un L0 Lo) k kv := hk.vr (by rintro k0 off rfl; simp [keyOK] at hkok)
  obtain ⟨ms, hms, hent⟩ : ∃ ms : Array MapEntry, ((mv = .map none ∧ ms = #[]) ∨ ∃ r clock, mv = .map (some r) ∧ c.w.heap[r]? = some (.map ms clock)) ∧ EntR c (un L0 Lo) es ms.toList := by
    cases m <;> simp only at hes <;> try (cases hes; done)
    · simp only [SR, VR] at hm
      cases hes
      exact ⟨#[], .inl ⟨hm, rfl⟩, trivial⟩
    · rename_i id
      rw [Option.bind_eq_some_iff] at hes
      obtain ⟨ob, ho, hes⟩ := hes
      cases ob with
      | cells cs => cases hes
      | row t cs => cases hes
      | map es' =>
      cases hes
      simp only [SR, VR] at hm
      obtain ⟨hi, r, hmv, hr⟩ := hm
      rw [← f.h] at ho
      have hl : Live c.h id := ⟨f.rel.lt _ _ ho, by simp [ho]⟩
      obtain ⟨ents, clock, h1, h2⟩ := f.rel.obj _ _ ho
      exact ⟨ents, .inr ⟨r, clock, hmv, by rw [hr hl]; exact h1⟩, h2⟩
  rw [Option.bind_eq_some_iff] at h
  obtain ⟨fr, hfr, h⟩ := h
  have hfk := run_findA hkok hkv c.w hent (by rw [hfr]; simp)
  have hck := run_checkKeyA (P := P) ms.isEmpty 9998 hkok hkv c.w
  obtain ⟨p1, p2⟩ := findA_place (k := k) es ms.toList 0 hent
  have hget : ∀ r clock, c.w.heap[r]? = some (.map ms clock) → (getObj r).run P c.w = .ok (.map ms clock) c.w := fun r clock h1 => by simp [getObj, Sem.run, h1]
  cases fr with
  | none =>
    rw [Option.map_eq_some_iff] at h
    obtain ⟨z, hz, rfl⟩ := h
    obtain ⟨zv, hzr, hzo⟩ := run_zeroA hz c.w
    rw [p1 hfr] at hfk
    refine ⟨if ok then .tuple #[zv, .bool false] else zv, ?_, ?_⟩
    · unfold Instr.lookup
      rcases hms with ⟨rfl, rfl⟩ | ⟨r, clock, rfl, h1⟩
      · simp only [pure_bind, Sem.run_bind, run_und hd, Result.andThen_ok, hck, hfk, hzr, Sem.run_pure]
      · simp only [Sem.run_bind, run_und hd, Result.andThen_ok, hget r clock h1, hck, hfk, hzr, Sem.run_pure]
    · cases ok with
      | true => simp only [if_true, VR]; exact ⟨#[zv, .bool false], rfl, ofV_VR hzo, by simp [VR], trivial⟩
      | false => simpa using ofV_VR hzo
  | some v =>
    obtain ⟨j, u, hp, hv⟩ := p2 v hfr
    rw [hp] at hfk
    cases h
    refine ⟨if ok then .tuple #[u, .bool true] else u, ?_, ?_⟩
    · unfold Instr.lookup
      rcases hms with ⟨rfl, rfl⟩ | ⟨r, clock, rfl, h1⟩
      · simp only [pure_bind, Sem.run_bind, run_und hd, Result.andThen_ok, hck, hfk, Sem.run_pure]
      · simp only [Sem.run_bind, run_und hd, Result.andThen_ok, hget r clock h1, hck, hfk, Sem.run_pure]
    · cases ok with
      | true => simp only [if_true, VR]; exact ⟨#[u, .bool true], rfl, hv, by simp [VR], trivial⟩
      | false => simpa using hv

theorem EntR.length {c : Cx} {L : Nat → Prop} : ∀ {es : List (AV × AV)} {ms : List MapEntry}, EntR c L es ms → es.length = ms.length
  | [], [], _ => rfl
  | _ :: _, _ :: _, h => by simp [EntR.length h.2.2]
  | [], _ :: _, h => h.elim
  | _ :: _, [], h => h.elim

theorem run_lenA {c : Cx} {Lo : Nat → Prop} {lam : Nat → Nat} {a : Act} (f : Fr L0 c Lo lam ds s a) {x y : AV} {v : Value} {t : TypeId} (ts : Array TypeId) (ht : ts[0]? = some t) (hx : SR c L0 Lo lam s.bx x v) (h : lenA P s.h t x = some y) (ty : TypeId) :
    ∃ r, (Builtin.len_ ts ty #[v]).run P c.w = .ok r c.w ∧ VR c (un L0 Lo) y r := by
  unfold lenA at h
  rw [Option.bind_eq_some_iff] at h
  obtain ⟨d, hd, h⟩ := h
  unfold Builtin.len_
  cases d <;> simp only at h <;> try (cases h; done)
  · cases x <;> simp only at h <;> try (cases h; done)
    cases h
    simp only [SR, VR] at hx
    subst hx
    exact ⟨.int .i64 _, by simp [ht, run_und hd, goInt]; rfl, by simp only [VR]⟩
  · cases x with
    | nils =>
      cases h
      simp only [SR, VR] at hx
      obtain ⟨a, rfl⟩ := hx
      exact ⟨.int .i64 _, by simp [ht, run_und hd, goInt]; rfl, by simp only [VR]⟩
    | fz cs m ex =>
      cases h
      simp only [SR, VR] at hx
      obtain ⟨a, cap, rfl, _⟩ := hx
      exact ⟨.int .i64 _, by simp [ht, run_und hd, goInt]; rfl, by simp only [VR]⟩
    | rs id off m esz =>
      cases h
      simp only [SR, VR] at hx
      obtain ⟨_, a, cap, rfl, _⟩ := hx
      exact ⟨.int .i64 _, by simp [ht, run_und hd, goInt]; rfl, by simp only [VR]⟩
    | _ => cases h
  · cases x with
    | nilm =>
      cases h
      simp only [SR, VR] at hx
      subst hx
      exact ⟨.int .i64 _, by simp [ht, run_und hd, goInt]; rfl, by simp only [VR]⟩
    | mp id =>
      simp only [Option.bind_eq_some_iff] at h
      obtain ⟨ob, ho, h⟩ := h
      cases ob with
      | cells cs => cases h
      | row t cs => cases h
      | map es =>
      cases h
      simp only [SR, VR] at hx
      obtain ⟨hi, r, rfl, hr⟩ := hx
      rw [← f.h] at ho
      have hl : Live c.h id := ⟨f.rel.lt _ _ ho, by simp [ho]⟩
      obtain ⟨ents, clock, h1, h2⟩ := f.rel.obj _ _ ho
      rw [hr hl]
      refine ⟨.int .i64 es.length, ?_, by simp [VR]⟩
      have h3 := h2.length
      simp [ht, run_und hd, getObj, Sem.run, h1, goInt, h3]
    | _ => cases h
end
end Go.R
