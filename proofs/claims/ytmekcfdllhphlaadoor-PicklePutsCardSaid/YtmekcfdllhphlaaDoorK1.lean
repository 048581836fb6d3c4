/- Part of the proof: ROps3, RMem, ROps4, RNew, RApp, RApp2, RApp3. -/
import Derived.Test.YtmekcfdllhphlaaDoorK0
import Derived.MapKept
import Derived.Laws.Slices
import Derived.Laws.IdiomCopy
import Derived.Deep.AppendSrc
import Derived.IntWalk
set_option linter.unusedVariables false
set_option linter.unusedSimpArgs false
set_option maxRecDepth 100000
namespace Go.R
open Go
section
variable {P : Program} {L0 : Nat → Prop} {c0 : Cx} {n : Nat} {ds : List Nat} {o : Oper} {s : RS}
theorem beq_bytes (a b : ByteArray) : (a == b) = (a.data.toList == b.data.toList) := by
  cases a with | mk x => cases b with | mk y =>
  show (x == y) = (x.toList == y.toList)
  rw [Bool.eq_iff_iff]
  simp [Array.toList_inj]
def place (k : AV) : List (AV × AV) → List MapEntry → Nat → Option (Nat × Value)
  | (k', _) :: es, m :: ms, i => if keyEq k k' then some (i, m.val) else place k es ms (i + 1)
  | _, _, _ => none
theorem findNow_place {c : Cx} {L : Nat → Prop} {d : TypeDesc} {k : AV} {kv : Value} (hd : (∃ q, d = .int q) ∨ d = .string) (hk : k.conc1 = some kv) (hkk : (∃ q a, k = .int q a) ∨ ∃ b, k = .str b) :
    ∀ (es : List (AV × AV)) (ms : List MapEntry) (i : Nat), EntR c L es ms → findA k es ≠ none → (∀ q a, k = .int q a → ∃ q', d = .int q') → (∀ b, k = .str b → d = .string) → Instr.findNow d kv ms i = some (place k es ms i)
  | [], [], i, _, _, _, _ => rfl
  | (k', v) :: es, m :: ms, i, he, hf, h1, h2 => by
    simp only [findA] at hf
    have hs : sameShape k k' = true := by
      by_cases hs : sameShape k k' = true
      · exact hs
      · simp [hs] at hf
    simp only [hs, if_true] at hf
    obtain ⟨⟨hkr, _⟩, hvr, hes⟩ := he
    have hnow : Instr.sameNow d kv m.key = some (keyEq k k') := by
      rcases hkk with ⟨q, a, rfl⟩ | ⟨b, rfl⟩
      · obtain ⟨q', rfl⟩ := h1 q a rfl
        cases k' <;> simp only [sameShape] at hs <;> try (cases hs; done)
        rename_i q2 a2
        simp only [beq_iff_eq] at hs
        subst hs
        simp only [VR] at hkr
        simp only [AV.conc1, Option.some.injEq] at hk
        subst hk
        rw [hkr]
        simp [Instr.sameNow, keyEq, keyEq1]
      · have := h2 b rfl
        subst this
        cases k' with
        | str b2 =>
          simp only [VR] at hkr
          simp only [AV.conc1, Option.some.injEq] at hk
          subst hk
          rw [hkr]
          simp only [Instr.sameNow, keyEq, keyEq1, Option.some.injEq]
          exact beq_bytes b b2
        | _ => cases hs
    simp only [Instr.findNow, hnow]
    cases hq : keyEq k k' with
    | true => simp [place, hq]
    | false =>
      simp only [hq, Bool.false_eq_true, if_false] at hf
      simp only [place, hq, Bool.false_eq_true, if_false]
      exact findNow_place hd hk hkk es ms (i + 1) hes hf h1 h2
  | [], _ :: _, _, h, _, _, _ => h.elim
  | _ :: _, [], _, h, _, _, _ => h.elim
theorem findAsking_place {c : Cx} {L : Nat → Prop} {kt : TypeId} {k : AV} {kv : Value} (hk : keyOK P kt k = true) (hkv : VR c L k kv) (w : World) :
    ∀ (es : List (AV × AV)) (ms : List MapEntry) (i : Nat), EntR c L es ms → findA k es ≠ none → (Instr.findAsking kt kv ms i).run P w = .ok (place k es ms i) w
  | [], [], i, _, _ => rfl
  | (k', v) :: es, m :: ms, i, he, hf => by
    simp only [findA] at hf
    have hs : sameShape k k' = true := by
      by_cases hs : sameShape k k' = true
      · exact hs
      · simp [hs] at hf
    simp only [hs, if_true] at hf
    obtain ⟨⟨hkr, _⟩, hvr, hes⟩ := he
    have hq := run_keyEq (P := P) 9998 hk hs hkv hkr w
    simp only [Instr.findAsking, Op.equal, Op.maxDepth, Sem.run_bind, hq, Result.andThen_ok]
    cases h : keyEq k k' with
    | true => simp [place, h]
    | false =>
      simp only [h, Bool.false_eq_true, if_false] at hf
      simp only [place, h, Bool.false_eq_true, if_false]
      exact findAsking_place hk hkv w es ms (i + 1) hes hf
  | [], _ :: _, _, h, _ => h.elim
  | _ :: _, [], _, h, _ => h.elim
theorem run_findA {c : Cx} {L : Nat → Prop} {kt : TypeId} {k : AV} {kv : Value} (hk : keyOK P kt k = true) (hkv : VR c L k kv) (w : World) {es : List (AV × AV)} {ms : List MapEntry} (he : EntR c L es ms) (hf : findA k es ≠ none) :
    (Instr.findKey kt kv ms).run P w = .ok (place k es ms 0) w := by
  have hk0 := hk
  cases hd : P.underlying kt with
  | none => simp [keyOK, hd] at hk
  | some d =>
  cases d <;> simp only [keyOK, hd] at hk <;> try (cases hk; done)
  · rename_i q
    cases k <;> simp only at hk <;> try (cases hk; done)
    rename_i q2 a
    have hc : (AV.int q2 a).conc1 = some kv := by simp only [VR] at hkv; simp [AV.conc1, hkv]
    exact MapKept.run_findKey hd (findNow_place (.inl ⟨q, rfl⟩) hc (.inl ⟨_, _, rfl⟩) es ms 0 he hf (fun _ _ _ => ⟨q, rfl⟩) (fun b hb => by cases hb))
  · cases k <;> simp only at hk <;> try (cases hk; done)
    rename_i b
    have hc : (AV.str b).conc1 = some kv := by simp only [VR] at hkv; simp [AV.conc1, hkv]
    exact MapKept.run_findKey hd (findNow_place (.inr rfl) hc (.inr ⟨_, rfl⟩) es ms 0 he hf (fun _ _ h => by cases h) (fun b hb => rfl))
  · rw [run_findKey_eq w (by simp [hd])]
    exact findAsking_place hk0 hkv w es ms 0 he hf
  · rw [run_findKey_eq w (by simp [hd])]
    exact findAsking_place hk0 hkv w es ms 0 he hf
theorem findA_place {c : Cx} {L : Nat → Prop} {k : AV} : ∀ (es : List (AV × AV)) (ms : List MapEntry) (i : Nat), EntR c L es ms → (findA k es = some none → place k es ms i = none) ∧ (∀ v, findA k es = some (some v) → ∃ j u, place k es ms i = some (j, u) ∧ VR c L v u)
  | [], [], i, _ => ⟨fun _ => rfl, fun v h => by simp [findA] at h⟩
  | (k', v) :: es, m :: ms, i, he => by
    obtain ⟨⟨hkr, _⟩, hvr, hes⟩ := he
    obtain ⟨h1, h2⟩ := findA_place es ms (i + 1) hes
    simp only [findA, place]
    by_cases hs : sameShape k k' = true
    · simp only [hs, if_true]
      by_cases hq : keyEq k k' = true
      · simp only [hq, if_true]
        exact ⟨fun h => (by cases h), fun u hu => (by cases hu; exact ⟨i, m.val, rfl, hvr⟩)⟩
      · simp only [hq, if_false, Bool.false_eq_true]
        exact ⟨h1, h2⟩
    · simp [hs]
  | [], _ :: _, _, h => h.elim
  | _ :: _, [], _, h => h.elim
theorem run_zeroA {t : TypeId} {z : AV} (h : zeroA P t = some z) (w : World) : ∃ v, (zeroValue t).run P w = .ok v w ∧ ofV v = some z := by
  unfold zeroA at h
  simp only [Option.bind_eq_some_iff] at h
  obtain ⟨i, hi, v, hv, hz⟩ := h
  exact ⟨v, by simp [zeroValue, typeInfo, hi, hv], hz⟩
theorem run_lookupA {c : Cx} {Lo : Nat → Prop} {lam : Nat → Nat} {a : Act} (f : Fr L0 c Lo lam ds s a) {t : TypeId} {m k y : AV} {mv kv : Value} {ok : Bool} (hm : SR c L0 Lo lam s.bx m mv) (hk : SR c L0 Lo lam s.bx k kv)
    (h : lookupA P s.h t m k ok = some y) : ∃ r, (Instr.lookup t mv kv ok).run P c.w = .ok r c.w ∧ VR c (un L0 Lo) y r := by
  unfold lookupA at h
  rw [Option.bind_eq_some_iff] at h
  obtain ⟨d, hd, h⟩ := h
  cases d <;> simp only at h <;> try (cases h; done)
  rename_i kt et
  split at h
  · cases h
  rename_i hkok
  have hkok : keyOK P kt k = true := by simpa using hkok
  rw [Option.bind_eq_some_iff] at h
  obtain ⟨es, hes, h⟩ := h
  have hkv : VR c (un L0 Lo) k kv := hk.vr (by rintro k0 off rfl; simp [keyOK] at hkok)
  obtain ⟨ms, hms, hent⟩ : ∃ ms : Array MapEntry, ((mv = .map none ∧ ms = #[]) ∨ ∃ r clock, mv = .map (some r) ∧ c.w.heap[r]? = some (.map ms clock)) ∧ EntR c (un L0 Lo) es ms.toList := by
    cases m <;> simp only at hes <;> try (cases hes; done)
    · simp only [SR, VR] at hm
      cases hes
      exact ⟨#[], .inl ⟨hm, rfl⟩, trivial⟩
    · rename_i id
      rw [Option.bind_eq_some_iff] at hes
      obtain ⟨ob, ho, hes⟩ := hes
      cases ob with
      | cells cs => cases hes
      | row t cs => cases hes
      | map es' =>
      cases hes
      simp only [SR, VR] at hm
      obtain ⟨hi, r, hmv, hr⟩ := hm
      rw [← f.h] at ho
      have hl : Live c.h id := ⟨f.rel.lt _ _ ho, by simp [ho]⟩
      obtain ⟨ents, clock, h1, h2⟩ := f.rel.obj _ _ ho
      exact ⟨ents, .inr ⟨r, clock, hmv, by rw [hr hl]; exact h1⟩, h2⟩
  rw [Option.bind_eq_some_iff] at h
  obtain ⟨fr, hfr, h⟩ := h
  have hfk := run_findA hkok hkv c.w hent (by rw [hfr]; simp)
  have hck := run_checkKeyA (P := P) ms.isEmpty 9998 hkok hkv c.w
  obtain ⟨p1, p2⟩ := findA_place (k := k) es ms.toList 0 hent
  have hget : ∀ r clock, c.w.heap[r]? = some (.map ms clock) → (getObj r).run P c.w = .ok (.map ms clock) c.w := fun r clock h1 => by simp [getObj, Sem.run, h1]
  cases fr with
  | none =>
    rw [Option.map_eq_some_iff] at h
    obtain ⟨z, hz, rfl⟩ := h
    obtain ⟨zv, hzr, hzo⟩ := run_zeroA hz c.w
    rw [p1 hfr] at hfk
    refine ⟨if ok then .tuple #[zv, .bool false] else zv, ?_, ?_⟩
    · unfold Instr.lookup
      rcases hms with ⟨rfl, rfl⟩ | ⟨r, clock, rfl, h1⟩
      · simp only [pure_bind, Sem.run_bind, run_und hd, Result.andThen_ok, hck, hfk, hzr, Sem.run_pure]
      · simp only [Sem.run_bind, run_und hd, Result.andThen_ok, hget r clock h1, hck, hfk, hzr, Sem.run_pure]
    · cases ok with
      | true => simp only [if_true, VR]; exact ⟨#[zv, .bool false], rfl, ofV_VR hzo, by simp [VR], trivial⟩
      | false => simpa using ofV_VR hzo
  | some v =>
    obtain ⟨j, u, hp, hv⟩ := p2 v hfr
    rw [hp] at hfk
    cases h
    refine ⟨if ok then .tuple #[u, .bool true] else u, ?_, ?_⟩
    · unfold Instr.lookup
      rcases hms with ⟨rfl, rfl⟩ | ⟨r, clock, rfl, h1⟩
      · simp only [pure_bind, Sem.run_bind, run_und hd, Result.andThen_ok, hck, hfk, Sem.run_pure]
      · simp only [Sem.run_bind, run_und hd, Result.andThen_ok, hget r clock h1, hck, hfk, Sem.run_pure]
    · cases ok with
      | true => simp only [if_true, VR]; exact ⟨#[u, .bool true], rfl, hv, by simp [VR], trivial⟩
      | false => simpa using hv
theorem EntR.length {c : Cx} {L : Nat → Prop} : ∀ {es : List (AV × AV)} {ms : List MapEntry}, EntR c L es ms → es.length = ms.length
  | [], [], _ => rfl
  | _ :: _, _ :: _, h => by simp [EntR.length h.2.2]
  | [], _ :: _, h => h.elim
  | _ :: _, [], h => h.elim
theorem run_lenA {c : Cx} {Lo : Nat → Prop} {lam : Nat → Nat} {a : Act} (f : Fr L0 c Lo lam ds s a) {x y : AV} {v : Value} {t : TypeId} (ts : Array TypeId) (ht : ts[0]? = some t) (hx : SR c L0 Lo lam s.bx x v) (h : lenA P s.h t x = some y) (ty : TypeId) :
    ∃ r, (Builtin.len_ ts ty #[v]).run P c.w = .ok r c.w ∧ VR c (un L0 Lo) y r := by
  unfold lenA at h
  rw [Option.bind_eq_some_iff] at h
  obtain ⟨d, hd, h⟩ := h
  unfold Builtin.len_
  cases d <;> simp only at h <;> try (cases h; done)
  · cases x <;> simp only at h <;> try (cases h; done)
    cases h
    simp only [SR, VR] at hx
    subst hx
    exact ⟨.int .i64 _, by simp [ht, run_und hd, goInt]; rfl, by simp only [VR]⟩
  · cases x with
    | nils =>
      cases h
      simp only [SR, VR] at hx
      obtain ⟨a, rfl⟩ := hx
      exact ⟨.int .i64 _, by simp [ht, run_und hd, goInt]; rfl, by simp only [VR]⟩
    | fz cs m ex =>
      cases h
      simp only [SR, VR] at hx
      obtain ⟨a, cap, rfl, _⟩ := hx
      exact ⟨.int .i64 _, by simp [ht, run_und hd, goInt]; rfl, by simp only [VR]⟩
    | rs id off m esz =>
      cases h
      simp only [SR, VR] at hx
      rcases hx with ⟨_, _, rfl, a, rfl⟩ | ⟨_, _, a, cap, rfl, _⟩
      · exact ⟨.int .i64 _, by simp [ht, run_und hd, goInt]; rfl, by simp only [VR]; rfl⟩
      · exact ⟨.int .i64 _, by simp [ht, run_und hd, goInt]; rfl, by simp only [VR]⟩
    | _ => cases h
  · cases x with
    | nilm =>
      cases h
      simp only [SR, VR] at hx
      subst hx
      exact ⟨.int .i64 _, by simp [ht, run_und hd, goInt]; rfl, by simp only [VR]⟩
    | mp id =>
      simp only [Option.bind_eq_some_iff] at h
      obtain ⟨ob, ho, h⟩ := h
      cases ob with
      | cells cs => cases h
      | row t cs => cases h
      | map es =>
      cases h
      simp only [SR, VR] at hx
      obtain ⟨hi, r, rfl, hr⟩ := hx
      rw [← f.h] at ho
      have hl : Live c.h id := ⟨f.rel.lt _ _ ho, by simp [ho]⟩
      obtain ⟨ents, clock, h1, h2⟩ := f.rel.obj _ _ ho
      rw [hr hl]
      refine ⟨.int .i64 es.length, ?_, by simp [VR]⟩
      have h3 := h2.length
      simp [ht, run_und hd, getObj, Sem.run, h1, goInt, h3]
    | _ => cases h
end
end Go.R

namespace Go.R
open Go
theorem Keeps.len {c c' : Cx} {b : Nat} (h : Keeps c.w c'.w b) : c'.len b = c.len b := by
  unfold Cx.len World.shape?
  rcases h with h | ⟨C, e, lo, hi, lo', hi', h1, h2, _⟩
  · rw [h]
  · rw [h1, h2]
theorem HRel.block {c : Cx} {L : Nat → Prop} (r : HRel c L) {id : Nat} (hl : Live c.h id) : (c.β id).1 < c.w.heap.size := by
  obtain ⟨o, ho⟩ := Option.isSome_iff_exists.1 hl.2
  have h := r.obj id o ho
  cases o with
  | cells cs => obtain ⟨n, h1, _⟩ := h; exact h1.lt
  | map es => obtain ⟨ents, clock, h1, _⟩ := h; exact (Array.getElem?_eq_some_iff.1 h1).1
  | row t cs => obtain ⟨_, C, h1, _⟩ := h; exact (Array.getElem?_eq_some_iff.1 h1).1
section
variable {L0 : Nat → Prop} {c : Cx} {Lo : Nat → Prop} {lam : Nat → Nat} {ds : List Nat} {s : RS} {a : Act}
theorem Fr.world (f : Fr L0 c Lo lam ds s a) {w' : World} (hk : ∀ b, b < c.w.heap.size → Keeps c.w w' b) (hkl : ∀ id, Live c.h id → w'.heap[(c.β id).1]? = c.w.heap[(c.β id).1]?) (hx : ∀ b, b < c.base → w'.heap[b]? = c.w.heap[b]?) (hs : c.w.heap.size ≤ w'.heap.size)
    (h1 : w'.os = c.w.os) (h2 : w'.tape = c.w.tape) (h3 : w'.output = c.w.output) : Ext c Lo { c with w := w' } Lo ∧ Fr L0 { c with w := w' } Lo lam ds s a := by
  have e : Ext c Lo { c with w := w' } Lo := by
    refine ⟨Nat.le_refl _, fun id hi hl => ⟨hl, rfl, ?_⟩, hs, fun b hb _ _ => hk b hb, hx, rfl, fun id hl => .inr ⟨id, hl, rfl⟩, fun _ h => h, fun _ h => .inl h, h1, h2, h3⟩
    exact Keeps.len (c' := { c with w := w' }) (hk _ (f.rel.block hl))
  refine ⟨e, f.h, ⟨f.rel.lt, fun id o ho => ?_, f.rel.inj, f.rel.out, fun b hb => Nat.lt_of_lt_of_le (f.rel.bd b hb) hs, f.rel.low, f.rel.ver⟩, fun t => ?_, fun k cs hb => ?_, f.inj, f.tidy, f.defers, f.lob⟩
  · have hl : Live c.h id := ⟨f.rel.lt _ _ ho, by rw [ho]; rfl⟩
    exact (f.rel.obj id o ho).ext e (hkl id hl)
  · exact (f.slot t).ext e (fun _ _ _ => ⟨rfl, fun h => h⟩)
  · have ob := f.box k cs hb
    exact ob.ext e (hk _ ob.plain.lt)
theorem Fr.upd (f : Fr L0 c Lo lam ds s a) {w' : World} {β' : Nat → Nat × Nat} {h' : AHeap} (tgt : Nat) (ob : AObj)
    (hst : Steady c.h h') (htn : tgt < h'.next) (hget : h'.get tgt = some ob)
    (hcl : ∀ id, id ≠ tgt → h'.get id = none ∨ (h'.get id = c.h.get id ∧ β' id = c.β id))
    (htold : tgt < c.h.next → Live c.h tgt ∧ β' tgt = c.β tgt)
    (hbt : c.w.heap.size ≤ (β' tgt).1 ∨ ∃ id0, Live c.h id0 ∧ (c.β id0).1 = (β' tgt).1 ∧ (id0 = tgt ∨ h'.get id0 = none))
    (hlen : (β' tgt).1 < c.w.heap.size → ((w'.shape? (β' tgt).1).map (·.2)).getD 0 = c.len (β' tgt).1)
    (hk : ∀ b, b < c.w.heap.size → b ≠ (β' tgt).1 → w'.heap[b]? = c.w.heap[b]?) (hx : ∀ b, b < c.base → b ≠ (β' tgt).1 → w'.heap[b]? = c.w.heap[b]?) (hs : c.w.heap.size ≤ w'.heap.size) (hbs : c.base ≤ c.w.heap.size)
    (h1 : w'.os = c.w.os) (h2 : w'.tape = c.w.tape) (h3 : w'.output = c.w.output)
    (hob : ∀ (e : Ext c Lo ⟨β', h', w', c.base⟩ Lo), ObjR ⟨β', h', w', c.base⟩ (un L0 Lo) (β' tgt).1 (β' tgt).2 ob) :
    Ext c Lo ⟨β', h', w', c.base⟩ Lo ∧ Fr L0 ⟨β', h', w', c.base⟩ Lo lam ds { s with h := h' } a := by
  have hn := hst.next
  have hold : ∀ id, id ≠ tgt → Live h' id → Live c.h id ∧ β' id = c.β id := by
    intro id hne hl
    rcases hcl id hne with h | ⟨h, hb⟩
    · have := hl.2; rw [h] at this; cases this
    · have hsome : (c.h.get id).isSome = true := by rw [← h]; exact hl.2
      obtain ⟨o, ho⟩ := Option.isSome_iff_exists.1 hsome
      exact ⟨⟨f.rel.lt _ _ ho, hsome⟩, hb⟩
  have hnot : ∀ id, id ≠ tgt → Live h' id → (c.β id).1 ≠ (β' tgt).1 := by
    intro id hne hl he
    obtain ⟨hl0, hb⟩ := hold id hne hl
    rcases hbt with h | ⟨id0, h4, h5, h6⟩
    · have := f.rel.block hl0; omega
    · have : id = id0 := f.rel.inj id id0 hl0 h4 (he.trans h5.symm)
      subst this
      rcases h6 with h6 | h6
      · exact hne h6
      · have := hl.2; rw [h6] at this; cases this
  have hL : ¬ un L0 Lo (β' tgt).1 := by
    intro hL
    rcases hbt with h | ⟨id0, h4, h5, _⟩
    · have := f.rel.bd _ hL; omega
    · exact f.rel.out id0 h4 (h5 ▸ hL)
  have hlow : c.base ≤ (β' tgt).1 := by
    rcases hbt with h | ⟨id0, h4, h5, _⟩
    · omega
    · rw [← h5]; exact f.rel.low id0 h4
  have e : Ext c Lo ⟨β', h', w', c.base⟩ Lo := by
    refine ⟨hn, fun id hi hl => ?_, hs, fun b hb _ hi => .inl (hk b hb ?_), fun b hb => hx b hb (by omega), rfl, fun id hl => ?_, fun _ h => h, fun _ h => .inl h, h1, h2, h3⟩
    · by_cases hid : id = tgt
      · subst hid
        obtain ⟨h4, h5⟩ := htold hi
        refine ⟨h4, h5, ?_⟩
        have := hlen (by rw [h5]; exact f.rel.block h4)
        rw [h5] at this
        exact this
      · obtain ⟨h4, h5⟩ := hold id hid hl
        exact ⟨h4, h5, Keeps.len (c' := ⟨β', h', w', c.base⟩) (.inl (hk _ (f.rel.block h4) (hnot id hid hl)))⟩
    · rintro rfl
      rcases hbt with h | ⟨id0, h4, h5, _⟩
      · omega
      · exact hi id0 h4 h5
    · by_cases hid : id = tgt
      · subst hid
        rcases hbt with h | ⟨id0, h4, h5, _⟩
        · exact .inl h
        · exact .inr ⟨id0, h4, h5⟩
      · obtain ⟨h4, h5⟩ := hold id hid hl
        exact .inr ⟨id, h4, by rw [← h5]⟩
  refine ⟨e, rfl, ⟨fun id o ho => ?_, fun id o ho => ?_, fun id id' hl hl' he => ?_, fun id hl => ?_, fun b hb => Nat.lt_of_lt_of_le (f.rel.bd b hb) hs, fun id hl => ?_, hst.wf f.rel.ver⟩, fun t => ?_, fun k cs hb => ?_, f.inj, f.tidy, f.defers, f.lob⟩
  · by_cases hid : id = tgt
    · subst hid; exact htn
    · rcases hcl id hid with h | ⟨h, _⟩
      · rw [h] at ho; cases ho
      · rw [h] at ho; exact Nat.lt_of_lt_of_le (f.rel.lt _ _ ho) hn
  · by_cases hid : id = tgt
    · subst hid
      rw [hget] at ho
      cases ho
      exact hob e
    · rcases hcl id hid with h | ⟨h, hb⟩
      · rw [h] at ho; cases ho
      · have hl : Live h' id := ⟨by rw [h] at ho; exact Nat.lt_of_lt_of_le (f.rel.lt _ _ ho) hn, by rw [ho]; rfl⟩
        rw [h] at ho
        have := (f.rel.obj id o ho).ext e (hk _ (f.rel.block (hold id hid hl).1) (hnot id hid hl))
        rw [← hb] at this
        exact this
  · by_cases hid : id = tgt <;> by_cases hid' : id' = tgt
    · rw [hid, hid']
    · subst hid
      obtain ⟨h4, h5⟩ := hold id' hid' hl'
      exact absurd (by rw [← h5]; exact he.symm) (hnot id' hid' hl')
    · subst hid'
      obtain ⟨h4, h5⟩ := hold id hid hl
      exact absurd (by rw [← h5]; exact he) (hnot id hid hl)
    · obtain ⟨h4, h5⟩ := hold id hid hl
      obtain ⟨h6, h7⟩ := hold id' hid' hl'
      exact f.rel.inj id id' h4 h6 (by rw [← h5, ← h7]; exact he)
  · by_cases hid : id = tgt
    · subst hid; exact hL
    · obtain ⟨h4, h5⟩ := hold id hid hl
      show ¬ un L0 Lo (β' id).1
      rw [h5]; exact f.rel.out id h4
  · by_cases hid : id = tgt
    · subst hid; exact hlow
    · obtain ⟨h4, h5⟩ := hold id hid hl
      show c.base ≤ (β' id).1
      rw [h5]; exact f.rel.low id h4
  · exact (f.slot t).ext e (fun _ _ _ => ⟨rfl, fun h => h⟩)
  · have hb2 := f.box k cs hb
    refine hb2.ext e (.inl (hk _ hb2.plain.lt ?_))
    rintro he
    exact hL (he ▸ .inr hb2.own)
theorem Fr.updBox (f : Fr L0 c Lo lam ds s a) {w' : World} (k : Nat) (cs : List AV) (b : Nat)
    (hb : c.w.heap.size ≤ b ∨ (b = lam k ∧ (s.bx k).isSome = true))
    (hp : ∀ t off, s.ρ t = .lp k off → b = lam k)
    (hk : ∀ b', b' < c.w.heap.size → b' ≠ b → w'.heap[b']? = c.w.heap[b']?) (hx : ∀ b', b' < c.base → b' ≠ b → w'.heap[b']? = c.w.heap[b']?) (hs : c.w.heap.size ≤ w'.heap.size) (hbw : b < w'.heap.size) (hbs : c.base ≤ c.w.heap.size)
    (h1 : w'.os = c.w.os) (h2 : w'.tape = c.w.tape) (h3 : w'.output = c.w.output)
    (hpl : Plain { c with w := w' } b cs.length)
    (hce : ∀ (e : Ext c Lo { c with w := w' } (fun x => Lo x ∨ x = b)), Cells { c with w := w' } (un L0 (fun x => Lo x ∨ x = b)) cs b 0) :
    ∃ Lo' lam', Ext c Lo { c with w := w' } Lo' ∧ Fr L0 { c with w := w' } Lo' lam' ds (s.box k cs) a ∧ lam' k = b := by
  have hnim : ∀ id, Live c.h id → (c.β id).1 ≠ b := by
    intro id hl he
    rcases hb with h | ⟨h, hb2⟩
    · have := f.rel.block hl; omega
    · obtain ⟨cs0, h0⟩ := Option.isSome_iff_exists.1 hb2
      exact f.rel.out id hl (by rw [he, h]; exact .inr (f.box k cs0 h0).own)
  have hLo : ∀ x, (Lo x ∨ x = b) → Lo x ∨ c.w.heap.size ≤ x := by
    rintro x (h | rfl)
    · exact .inl h
    · rcases hb with h | ⟨h, hb2⟩
      · exact .inr h
      · obtain ⟨cs0, h0⟩ := Option.isSome_iff_exists.1 hb2
        exact .inl (h ▸ (f.box k cs0 h0).own)
  have hlow : c.base ≤ b := by
    rcases hb with h | ⟨h, hb2⟩
    · omega
    · obtain ⟨cs0, h0⟩ := Option.isSome_iff_exists.1 hb2
      rw [h]; exact f.lob _ (f.box k cs0 h0).own
  have hbL : ∀ b', b' < c.w.heap.size → ¬ Lo b' → b' ≠ b := by
    rintro b' hb' hn rfl
    rcases hLo b' (.inr rfl) with h | h
    · exact hn h
    · omega
  have e : Ext c Lo { c with w := w' } (fun x => Lo x ∨ x = b) := by
    refine ⟨Nat.le_refl _, fun id hi hl => ⟨hl, rfl, ?_⟩, hs, fun b' hb' hn _ => .inl (hk b' hb' (hbL b' hb' hn)), fun b' hb' => hx b' hb' (by omega), rfl, fun id hl => .inr ⟨id, hl, rfl⟩, fun _ h => .inl h, hLo, h1, h2, h3⟩
    exact Keeps.len (c' := { c with w := w' }) (.inl (hk _ (f.rel.block hl) (hnim id hl)))
  refine ⟨fun x => Lo x ∨ x = b, fun t => if t = k then b else lam t, e, ⟨f.h, ⟨f.rel.lt, fun id o ho => ?_, f.rel.inj, fun id hl hL => ?_, fun x hx2 => ?_, f.rel.low, f.rel.ver⟩, fun t => ?_, fun k' cs' hb' => ?_, fun k1 k2 hs1 hs2 he => ?_, f.tidy, f.defers, fun x hx2 => ?_⟩, by simp⟩
  · have hl : Live c.h id := ⟨f.rel.lt _ _ ho, by rw [ho]; rfl⟩
    exact (f.rel.obj id o ho).ext e (hk _ (f.rel.block hl) (hnim id hl))
  · rcases hL with h | h | h
    · exact f.rel.out id hl (.inl h)
    · exact f.rel.out id hl (.inr h)
    · exact hnim id hl h
  · rcases hx2 with h | h | h
    · exact Nat.lt_of_lt_of_le (f.rel.bd x (.inl h)) hs
    · exact Nat.lt_of_lt_of_le (f.rel.bd x (.inr h)) hs
    · subst h; exact hbw
  · refine (f.slot t).ext e (fun k' off hk' => ?_)
    by_cases hkk : k' = k
    · subst hkk
      refine ⟨by simp [hp t off hk'], fun _ => by simp [RS.box]⟩
    · exact ⟨by simp [hkk], fun h => by simpa [RS.box, beq_nat, hkk] using h⟩
  · by_cases hkk : k' = k
    · subst hkk
      simp only [RS.box, beq_nat, decide_true, cond_true, Option.some.injEq] at hb'
      subst hb'
      exact ⟨by simp, by simpa using hpl, by simpa using hce e⟩
    · simp only [RS.box, beq_nat, hkk, decide_false, cond_false] at hb'
      have ob := f.box k' cs' hb'
      have hne : lam k' ≠ b := by
        rintro he
        rcases hb with h | ⟨h, hb2⟩
        · have := ob.plain.lt; omega
        · exact hkk (f.inj k' k (by rw [hb']; rfl) hb2 (he.trans h))
      have := ob.ext e (.inl (hk _ ob.plain.lt hne))
      exact ⟨by simp [hkk]; exact .inl ob.own, by simpa [hkk] using this.plain, by simpa [hkk] using this.cells⟩
  · have old : ∀ k', k' ≠ k → ((s.box k cs).bx k').isSome = true → (s.bx k').isSome = true := by
      intro k' hne h
      simpa [RS.box, beq_nat, hne] using h
    have sep : ∀ k', k' ≠ k → (s.bx k').isSome = true → lam k' ≠ b := by
      intro k' hne h5 he2
      obtain ⟨cs1, h6⟩ := Option.isSome_iff_exists.1 h5
      rcases hb with h | ⟨h, hb2⟩
      · have := (f.box k' cs1 h6).plain.lt; omega
      · exact hne (f.inj k' k h5 hb2 (he2.trans h))
    by_cases h4 : k1 = k <;> by_cases h5 : k2 = k
    · rw [h4, h5]
    · simp only [h4, h5, if_true, if_false] at he
      exact absurd he.symm (sep k2 h5 (old k2 h5 hs2))
    · simp only [h4, h5, if_true, if_false] at he
      exact absurd he (sep k1 h4 (old k1 h4 hs1))
    · simp only [h4, h5, if_false] at he
      exact f.inj k1 k2 (old k1 h4 hs1) (old k2 h5 hs2) he
  · rcases hx2 with h | h
    · exact f.lob x h
    · subst h; exact hlow
end
end Go.R

namespace Go.R
open Go
theorem Cells.iff {c : Cx} {L : Nat → Prop} : ∀ {xs : List AV} {b o : Nat}, Cells c L xs b o ↔ ∀ (i : Nat) (x : AV), xs[i]? = some x → ∃ v, c.w.cell? ⟨b, o + i, none⟩ = some v ∧ v.oneCell' = true ∧ VR c L x v
  | [], b, o => by simp [Cells]
  | x :: xs, b, o => by
    refine ⟨fun h i y hy => h.get' i y hy, fun h => ⟨?_, (Cells.iff (xs := xs)).2 fun i y hy => ?_⟩⟩
    · exact h 0 x rfl
    · have := h (i + 1) y (by simpa using hy)
      rwa [Nat.add_right_comm, Nat.add_assoc]
theorem splice_length : ∀ (vs cs : List AV) (i : Nat), (splice cs i vs).length = cs.length
  | [], cs, i => by cases cs <;> rfl
  | v :: vs, cs, i => by
    rw [splice, splice_length vs]
    simp
theorem splice_get : ∀ (vs cs : List AV) (i j : Nat), i + vs.length ≤ cs.length → (splice cs i vs)[j]? = if i ≤ j ∧ j < i + vs.length then vs[j - i]? else cs[j]?
  | [], cs, i, j, _ => by
    have : splice cs i [] = cs := by cases cs <;> rfl
    rw [this, if_neg (by simp)]
  | v :: vs, cs, i, j, h => by
    simp only [List.length_cons] at h
    rw [splice, splice_get vs _ (i + 1) j (by simp; omega)]
    by_cases h1 : i + 1 ≤ j ∧ j < i + 1 + vs.length
    · rw [if_pos h1, if_pos (by simp; omega), show j - i = (j - (i + 1)) + 1 by omega]
      simp
    · rw [if_neg h1]
      by_cases h2 : j = i
      · subst h2
        rw [if_pos (by simp), List.getElem?_set_self (by omega)]
        simp
      · rw [List.getElem?_set_ne (by omega), if_neg (by simp; omega)]
theorem setCell_heap (w : World) (b o : Nat) (v : Value) {C : Array Value} {e : TypeId} {fr : Nat × Nat} (hb : w.heap[b]? = some (.cells C e fr)) : (w.setCell ⟨b, o, none⟩ v).heap[b]? = some (.cells (C.setIfInBounds o v) e fr) := by
  have hlt : b < w.heap.size := (Array.getElem?_eq_some_iff.1 hb).1
  simp [World.setCell, Array.getElem?_modify, hb]
theorem setCell_far (w : World) (b o b' : Nat) (v : Value) (hne : b' ≠ b) : (w.setCell ⟨b, o, none⟩ v).heap[b']? = w.heap[b']? := by
  simp [World.setCell, Array.getElem?_modify, Ne.symm hne]
theorem setCells_far : ∀ (vs : List Value) (b o b' : Nat) (w : World), b' ≠ b → (w.setCells b o vs).heap[b']? = w.heap[b']?
  | [], _, _, _, _, _ => rfl
  | v :: vs, b, o, b', w, h => by rw [World.setCells, setCells_far vs b (o + 1) b' _ h, setCell_far _ _ _ _ _ h]
theorem setCells_same : ∀ (vs : List Value) (b o : Nat) (w : World), (w.setCells b o vs).heap.size = w.heap.size ∧ (w.setCells b o vs).os = w.os ∧ (w.setCells b o vs).tape = w.tape ∧ (w.setCells b o vs).output = w.output
  | [], _, _, _ => ⟨rfl, rfl, rfl, rfl⟩
  | v :: vs, b, o, w => by
    obtain ⟨h1, h2, h3, h4⟩ := setCells_same vs b (o + 1) (w.setCell ⟨b, o, none⟩ v)
    rw [World.setCells]
    exact ⟨h1.trans (by simp), h2.trans rfl, h3.trans rfl, h4.trans rfl⟩
theorem setCells_row : ∀ (vs : List Value) (b o : Nat) (w : World) (C : Array Value) (e : TypeId) (fr : Nat × Nat), w.heap[b]? = some (.cells C e fr) → o + vs.length ≤ C.size →
    ∃ C', (w.setCells b o vs).heap[b]? = some (.cells C' e fr) ∧ C'.size = C.size ∧ ∀ j, C'[j]? = if o ≤ j ∧ j < o + vs.length then vs[j - o]? else C[j]?
  | [], b, o, w, C, e, fr, hb, _ => ⟨C, hb, rfl, fun j => by rw [if_neg (by simp)]⟩
  | v :: vs, b, o, w, C, e, fr, hb, hl => by
    simp only [List.length_cons] at hl
    obtain ⟨C', h1, h2, h3⟩ := setCells_row vs b (o + 1) (w.setCell ⟨b, o, none⟩ v) (C.setIfInBounds o v) e fr (setCell_heap w b o v hb) (by simp; omega)
    refine ⟨C', h1, by simpa using h2, fun j => ?_⟩
    rw [h3 j]
    by_cases h4 : o + 1 ≤ j ∧ j < o + 1 + vs.length
    · rw [if_pos h4, if_pos (by simp; omega), show j - o = (j - (o + 1)) + 1 by omega]
      simp
    · rw [if_neg h4]
      by_cases h5 : j = o
      · subst h5
        rw [if_pos (by simp)]
        simp [Array.getElem?_setIfInBounds, show j < C.size by omega]
      · rw [if_neg (by simp; omega)]
        simp [Array.getElem?_setIfInBounds, Ne.symm h5]
theorem cell_of_block {w : World} {b : Nat} {C : Array Value} {e : TypeId} {fr : Nat × Nat} (h : w.heap[b]? = some (.cells C e fr)) (i : Nat) : w.cell? ⟨b, i, none⟩ = C[i]? := by
  simp [World.cell?, h]
section
variable {P : Program} {L0 : Nat → Prop} {c0 : Cx} {n : Nat} {ds : List Nat} {o : Oper} {s : RS}
theorem cellOK_one {c : Cx} {L : Nat → Prop} {x : AV} {v : Value} (h : x.cellOK = true) (hv : VR c L x v) : v.oneCell' = true ∧ v.cells = #[v] := by
  cases x <;> simp only [AV.cellOK] at h <;> first | (cases h; done) | skip
  all_goals simp only [VR] at hv
  · subst hv; exact ⟨rfl, rfl⟩
  · subst hv; exact ⟨rfl, rfl⟩
  · subst hv; exact ⟨rfl, rfl⟩
  · subst hv; exact ⟨rfl, rfl⟩
  · obtain ⟨_, a, rfl, _⟩ := hv; exact ⟨rfl, rfl⟩
  · obtain ⟨b, o, rfl, _⟩ := hv; exact ⟨rfl, rfl⟩
  · obtain ⟨a, rfl⟩ := hv; exact ⟨rfl, rfl⟩
  · obtain ⟨a, cap, rfl, _⟩ := hv; exact ⟨rfl, rfl⟩
  · rcases hv with ⟨_, _, _, a, rfl⟩ | ⟨_, _, a, cap, rfl, _⟩ <;> exact ⟨rfl, rfl⟩
  · subst hv; exact ⟨rfl, rfl⟩
  · obtain ⟨_, r, rfl, _⟩ := hv; exact ⟨rfl, rfl⟩
  · obtain ⟨vs, rfl, _⟩ := hv; exact ⟨rfl, rfl⟩
  · subst hv; exact ⟨rfl, rfl⟩
theorem cellsOK_one {c : Cx} {L : Nat → Prop} : ∀ {xs : List AV} {vs : List Value}, xs.all AV.cellOK = true → VRs c L xs vs → ∀ v ∈ vs, v.oneCell' = true
  | [], [], _, _, v, hv => by simp at hv
  | x :: xs, u :: us, h, hr, v, hv => by
    simp only [List.all_cons, Bool.and_eq_true] at h
    rcases List.mem_cons.1 hv with rfl | hv
    · exact (cellOK_one h.1 hr.1).1
    · exact cellsOK_one h.2 hr.2 v hv
  | [], _ :: _, _, h, _, _ => h.elim
  | _ :: _, [], _, h, _, _ => h.elim
theorem cells_VR {c : Cx} {L : Nat → Prop} {x : AV} {v : Value} (h : x.cells.all AV.cellOK = true) (hv : VR c L x v) : VRs c L x.cells v.cells.toList ∧ ∀ u ∈ v.cells.toList, u.oneCell' = true := by
  cases x with
  | agg cs =>
    simp only [VR] at hv
    obtain ⟨vs, rfl, hvs⟩ := hv
    exact ⟨hvs, cellsOK_one h hvs⟩
  | _ =>
    simp only [AV.cells, List.all_cons, List.all_nil, Bool.and_true] at h
    obtain ⟨h1, h2⟩ := cellOK_one h hv
    rw [h2]
    exact ⟨⟨hv, trivial⟩, by simpa using h1⟩
theorem SR.cellsVR {c : Cx} {Lo : Nat → Prop} {lam : Nat → Nat} {bx : Nat → Option (List AV)} {x : AV} {v : Value} (hx : SR c L0 Lo lam bx x v) (h : x.cells.all AV.cellOK = true) : VR c (un L0 Lo) x v :=
  hx.vr (by rintro k off rfl; simp [AV.cells, AV.cellOK] at h)
theorem run_storePlain {c : Cx} {b m base off : Nat} {vs : List Value} (hp : Plain c b m) (hl : base + off + vs.length ≤ m) (h1 : ∀ v ∈ vs, v.oneCell' = true) :
    (storeCells ⟨b, base + off, none⟩ vs).run P c.w = .ok () (c.w.setCells b (base + off) vs) := by
  obtain ⟨C, e, lo, hi, hb, hf, hm⟩ := hp
  have := run_storeCells_cells (P := P) b (base + off) vs 0 c.w (fun j hj => by
    rw [cell_of_block hb]
    have : base + off + 0 + j < C.size := by omega
    simpa using this) (fun j hj => by
    simp only [World.frozen?, hb]
    rcases hf with hf | hf
    · subst hf; simp
    · simp; omega) h1
  simpa using this
theorem Plain.setCells {c : Cx} {b m o : Nat} {vs : List Value} (hp : Plain c b m) (hl : o + vs.length ≤ m) (β' : Nat → Nat × Nat) (h' : AHeap) (bs : Nat) : Plain ⟨β', h', c.w.setCells b o vs, bs⟩ b m := by
  obtain ⟨C, e, lo, hi, hb, hf, hm⟩ := hp
  obtain ⟨C', h1, h2, _⟩ := setCells_row vs b o c.w C e (lo, hi) hb (by omega)
  exact ⟨C', e, lo, hi, h1, by rw [h2]; exact hf, by rw [h2]; exact hm⟩
theorem PlainS.setCells {c : Cx} {b m o : Nat} {vs : List Value} (hp : PlainS c b m) (hl : o + vs.length ≤ m) (β' : Nat → Nat × Nat) (h' : AHeap) (bs : Nat) : PlainS ⟨β', h', c.w.setCells b o vs, bs⟩ b m := by
  obtain ⟨C, e, hb, hm⟩ := hp
  obtain ⟨C', h1, h2, _⟩ := setCells_row vs b o c.w C e (0, 0) hb (by omega)
  exact ⟨C', e, h1, by rw [h2]; exact hm⟩
theorem cells_setCells {c c' : Cx} {L0 Lo Lo' : Nat → Prop} {b m base off : Nat} {cs xs : List AV} {vs : List Value} (hp : Plain c b m) (hc : Cells c (un L0 Lo) cs b base) (hv : VRs c (un L0 Lo) xs vs) (h1c : ∀ v ∈ vs, v.oneCell' = true) (hl : off + xs.length ≤ cs.length) (hm : base + cs.length ≤ m)
    (e : Ext c Lo c' Lo') (hw : c'.w = c.w.setCells b (base + off) vs) : Cells c' (un L0 Lo') (splice cs off xs) b base := by
  obtain ⟨C, e', lo, hi, hb, hf, hm2⟩ := hp
  have hlen := hv.length
  obtain ⟨C', h1, h2, h3⟩ := setCells_row vs b (base + off) c.w C e' (lo, hi) hb (by omega)
  rw [Cells.iff]
  intro i x hx
  rw [hw, cell_of_block h1, h3]
  rw [splice_get xs cs off i hl] at hx
  by_cases h4 : off ≤ i ∧ i < off + xs.length
  · rw [if_pos h4] at hx
    obtain ⟨v, hv1, hv2⟩ := hv.get _ x hx
    refine ⟨v, ?_, h1c v (List.mem_of_getElem? hv1), VR.ext e x v hv2⟩
    rw [if_pos (by omega), show base + i - (base + off) = i - off by omega]
    exact hv1
  · rw [if_neg h4] at hx
    obtain ⟨v, hv1, hv0, hv2⟩ := hc.get' i x hx
    refine ⟨v, ?_, hv0, VR.ext e x v hv2⟩
    rw [if_neg (by omega), ← cell_of_block hb]
    exact hv1
theorem run_storeVarA {c : Cx} {L : Nat → Prop} {t : TypeId} {cs cs' : List AV} {b m base off : Nat} {x : AV} {v : Value} (hp : Plain c b m) (hm : base + cs.length ≤ m) (hv : VR c L x v) (h : writeCs P t cs off x = some cs') :
    (storeVar t ⟨b, base + off, none⟩ v).run P c.w = .ok () (c.w.setCells b (base + off) v.cells.toList) ∧ VRs c L x.cells v.cells.toList ∧ off + x.cells.length ≤ cs.length ∧ cs' = splice cs off x.cells ∧ (∀ u ∈ v.cells.toList, u.oneCell' = true) := by
  unfold writeCs at h
  rw [Option.bind_eq_some_iff] at h
  obtain ⟨k, hk, h⟩ := h
  split at h
  · rename_i hh
    obtain ⟨h1, h2, h3⟩ := hh
    cases h
    obtain ⟨h4, h5⟩ := cells_VR h2 hv
    have h6 := h4.length
    refine ⟨?_, h4, by omega, rfl, h5⟩
    have h7 : v.cells.size = k := by rw [← Array.length_toList, ← h6]; exact h1
    simp only [storeVar, Sem.run_bind, run_szOf hk, Result.andThen_ok, h7]
    simp only [ne_eq, not_true_eq_false, if_false]
    rw [← run_storePlain (P := P) hp (vs := v.cells.toList) (base := base) (off := off) (by omega) h5]
  · cases h
theorem base_le {c c0 : Cx} {Lo : Nat → Prop} (e : Ext c0 none0 c Lo) (h : c0.base ≤ c0.w.heap.size) : c.base ≤ c.w.heap.size := by
  rw [e.base]; exact Nat.le_trans h e.size
theorem op_store (hb0 : c0.base ≤ c0.w.heap.size) (hd : DstOK n ds o) {t : TypeId} {x y : Operand} (ho : o.op = .store t x y) (hdst : o.dst = none) {s' : RS}
    (h : (match opnd s.ρ x with
      | .lp k off => (s.bx k).bind fun cs => (writeCs P t cs off (opnd s.ρ y)).map fun cs' => s.box k cs'
      | .ptr id off => (s.h.get id).bind fun | .cells cs => (writeCs P t cs off (opnd s.ρ y)).map fun cs' => { s with h := s.h.put id (.cells cs') } | _ => none
      | _ => none) = some s') : OpOK P L0 c0 n ds o s s' := by
  rintro a w K Q ⟨hn, c, Lo, lam, rfl, f, e⟩ hK
  have hbs := base_le e hb0
  have hx := opnd_SR f x
  have hy := opnd_SR f y
  unfold Oper.wp
  have hput : a.put o.dst undef = a := by rw [hdst]; rfl
  have fin : ∀ c' Lo' lam', ((Instr.storeAt t (a.eval x) (a.eval y)).run P c.w = .ok () c'.w) → Fr L0 c' Lo' lam' ds s' a → Ext c Lo c' Lo' → Oper.upon P o a K Q ((execOp a.eval o).run P c.w) := by
    intro c' Lo' lam' hr f' e'
    have : (execOp a.eval o).run P c.w = .ok .skip c'.w := by simp [execOp, ho, hr]
    rw [this, Oper.upon_skip, hput]
    exact hK _ _ ⟨hn, c', Lo', lam', rfl, f', e.trans e'⟩
  cases hxx : opnd s.ρ x <;> rw [hxx] at h <;> simp only at h <;> try (cases h; done)
  · rename_i id off
    rw [Option.bind_eq_some_iff] at h
    obtain ⟨ob, hob, h⟩ := h
    cases ob with
    | map es => cases h
    | row t cs => cases h
    | cells cs =>
    rw [Option.map_eq_some_iff] at h
    obtain ⟨cs', hw, rfl⟩ := h
    rw [hxx] at hx
    simp only [SR, VR] at hx
    obtain ⟨hi, ad, hev, ha⟩ := hx
    rw [← f.h] at hob
    have hl : Live c.h id := ⟨f.rel.lt _ _ hob, by simp [hob]⟩
    obtain ⟨m, hp, hm, hc⟩ := f.rel.obj _ _ hob
    have hcell : (opnd s.ρ y).cells.all AV.cellOK = true := by
      unfold writeCs at hw
      rw [Option.bind_eq_some_iff] at hw
      obtain ⟨k, _, hw⟩ := hw
      split at hw
      · rename_i hh; exact hh.2.1
      · cases hw
    have hvy := hy.cellsVR hcell
    obtain ⟨hr, hv, hle, rfl, h1c⟩ := run_storeVarA (P := P) hp.toPlain hm hvy hw
    have hvl := hv.length
    obtain ⟨q1, q2, q3, q4⟩ := setCells_same (a.eval y).cells.toList (c.β id).1 ((c.β id).2 + off) c.w
    have := f.upd (w' := c.w.setCells (c.β id).1 ((c.β id).2 + off) (a.eval y).cells.toList) (β' := c.β) (h' := c.h.put id (.cells (splice cs off (opnd s.ρ y).cells))) id (.cells (splice cs off (opnd s.ρ y).cells))
      (Steady.put _ _ _) (by simp only [AHeap.put]; omega) (by simp [AHeap.put, beq_nat]) (fun id' hne => .inr ⟨by simp [AHeap.put, beq_nat, hne], rfl⟩) (fun _ => ⟨hl, rfl⟩) (.inr ⟨id, hl, rfl, .inl rfl⟩)
      (fun _ => by
        obtain ⟨C, e', lo, hi', hb, hf, hm2⟩ := hp.toPlain
        obtain ⟨C', h1, h2, _⟩ := setCells_row (a.eval y).cells.toList (c.β id).1 ((c.β id).2 + off) c.w C e' (lo, hi') hb (by omega)
        simp [World.shape?, h1, Cx.len, hb, h2])
      (fun b _ hne => setCells_far _ _ _ _ _ hne) (fun b _ hne => setCells_far _ _ _ _ _ hne) (by rw [q1]; exact Nat.le_refl _) hbs q2 q3 q4
      (fun e' => ⟨m, hp.setCells (by omega) _ _ _, by rw [splice_length]; exact hm, cells_setCells hp.toPlain hc hv h1c hle hm e' rfl⟩)
    rw [f.h] at this
    obtain ⟨e', f'⟩ := this
    refine fin _ _ _ ?_ f' e'
    rw [hev, ha hl]
    simp [Instr.storeAt, Instr.sureAddr, hr]
  · rename_i k off
    rw [Option.bind_eq_some_iff] at h
    obtain ⟨cs, hbx, h⟩ := h
    rw [Option.map_eq_some_iff] at h
    obtain ⟨cs', hw, rfl⟩ := h
    rw [hxx] at hx
    simp only [SR] at hx
    obtain ⟨hev, _⟩ := hx
    have ob := f.box k cs hbx
    have hcell : (opnd s.ρ y).cells.all AV.cellOK = true := by
      unfold writeCs at hw
      rw [Option.bind_eq_some_iff] at hw
      obtain ⟨k, _, hw⟩ := hw
      split at hw
      · rename_i hh; exact hh.2.1
      · cases hw
    have hvy := hy.cellsVR hcell
    obtain ⟨hr, hv, hle, rfl, h1c⟩ := run_storeVarA (P := P) (base := 0) ob.plain (by omega) hvy hw
    have hvl := hv.length
    obtain ⟨q1, q2, q3, q4⟩ := setCells_same (a.eval y).cells.toList (lam k) (0 + off) c.w
    obtain ⟨Lo', lam', e', f', _⟩ := f.updBox (w' := c.w.setCells (lam k) (0 + off) (a.eval y).cells.toList) k (splice cs off (opnd s.ρ y).cells) (lam k) (.inr ⟨rfl, by rw [hbx]; rfl⟩)
      (fun _ _ _ => rfl) (fun b _ hne => setCells_far _ _ _ _ _ hne) (fun b _ hne => setCells_far _ _ _ _ _ hne) (by rw [q1]; exact Nat.le_refl _) (by rw [q1]; exact ob.plain.lt) hbs q2 q3 q4
      (by rw [splice_length]; exact ob.plain.setCells (by omega) _ _ _) (fun e' => cells_setCells ob.plain ob.cells hv h1c hle (by omega) e' rfl)
    refine fin _ _ _ ?_ f' e'
    rw [hev]
    rw [Nat.zero_add] at hr
    simp [Instr.storeAt, Instr.sureAddr, hr]
end
end Go.R

namespace Go.R
open Go
theorem alloc_new (w : World) (o : Obj) : (w.alloc o).heap[w.heap.size]? = some o := by
  show (w.heap.push o)[w.heap.size]? = some o
  simp
theorem alloc_old (w : World) (o : Obj) {b : Nat} (h : b < w.heap.size) : (w.alloc o).heap[b]? = w.heap[b]? := by
  show (w.heap.push o)[b]? = w.heap[b]?
  simp [Array.getElem?_push, show b ≠ w.heap.size by omega]
theorem RS.set_set (s : RS) (d : Option Nat) (x y : AV) : (s.set d x).set d y = s.set d y := by
  cases d with
  | none => rfl
  | some d =>
    simp only [RS.set]
    congr 1
    funext t
    cases Nat.beq t d <;> rfl
theorem put_put (a : Act) (d : Option Nat) (x y : Value) : (a.put d x).put d y = a.put d y := by
  cases d with
  | none => rfl
  | some d =>
    simp only [Act.put]
    congr 1
    apply Array.ext_getElem?
    intro i
    simp only [Array.getElem?_setIfInBounds, Array.size_setIfInBounds]
    by_cases h : d = i <;> by_cases h2 : d < a.tmps.size <;> simp [h, h2]
section
variable {P : Program} {L0 : Nat → Prop} {c0 : Cx} {n : Nat} {ds : List Nat} {o : Oper} {s : RS}
theorem noLp_spec {k : Nat} {ρ : Nat → AV} : ∀ {l : List Nat}, noLp k ρ l = true → ∀ t ∈ l, ∀ off, ρ t ≠ .lp k off
  | [], _, t, ht => by simp at ht
  | x :: xs, h, t, ht => by
    simp only [noLp, Bool.and_eq_true] at h
    intro off he
    rcases List.mem_cons.1 ht with rfl | ht
    · rw [he] at h; simp at h
    · exact noLp_spec h.2 t ht off he
theorem Fr.freshK {c : Cx} {Lo : Nat → Prop} {lam : Nat → Nat} {a : Act} (f : Fr L0 c Lo lam ds s a) (hbs : c.base ≤ c.w.heap.size) (w1 : World) (hw1 : w1.heap = c.w.heap ∧ w1.os = c.w.os ∧ w1.tape = c.w.tape ∧ w1.output = c.w.output) (ob : AObj) (obj : Obj)
    (h' : AHeap) (hg : h'.get c.h.next = some ob) (hst : Steady c.h h') (hn : c.h.next < h'.next) (ho : ∀ id, id ≠ c.h.next → h'.get id = none ∨ h'.get id = c.h.get id)
    (hob : ∀ (c' : Cx) (e : Ext c Lo c' Lo), c'.w = w1.alloc obj → ObjR c' (un L0 Lo) c.w.heap.size 0 ob) :
    ∃ β', Ext c Lo ⟨β', h', w1.alloc obj, c.base⟩ Lo ∧ Fr L0 ⟨β', h', w1.alloc obj, c.base⟩ Lo lam ds { s with h := h' } a ∧ β' c.h.next = (c.w.heap.size, 0) ∧ Live h' c.h.next := by
  obtain ⟨q0, q1, q2, q3⟩ := hw1
  have hsz : w1.heap.size = c.w.heap.size := by rw [q0]
  refine ⟨fun i => if i = c.h.next then (c.w.heap.size, 0) else c.β i, ?_⟩
  have := f.upd (w' := w1.alloc obj) (β' := fun i => if i = c.h.next then (c.w.heap.size, 0) else c.β i) (h' := h') c.h.next ob
    hst hn hg (fun id hne => (ho id hne).imp (fun x => x) fun h => ⟨h, by simp [hne]⟩)
    (fun h => absurd h (Nat.lt_irrefl _)) (.inl (by simp)) (fun h => by simp at h)
    (fun b hb _ => by rw [alloc_old _ _ (by omega), q0]) (fun b hb _ => by rw [alloc_old _ _ (by omega), q0]) (by simp [hsz]) hbs q1 q2 q3
    (fun e => by simpa using hob _ e rfl)
  exact ⟨this.1, this.2, by simp, ⟨hn, by rw [hg]; rfl⟩⟩
theorem Fr.fresh {c : Cx} {Lo : Nat → Prop} {lam : Nat → Nat} {a : Act} (f : Fr L0 c Lo lam ds s a) (hbs : c.base ≤ c.w.heap.size) (w1 : World) (hw1 : w1.heap = c.w.heap ∧ w1.os = c.w.os ∧ w1.tape = c.w.tape ∧ w1.output = c.w.output) (ob : AObj) (obj : Obj)
    (hob : ∀ (c' : Cx) (e : Ext c Lo c' Lo), c'.w = w1.alloc obj → ObjR c' (un L0 Lo) c.w.heap.size 0 ob) :
    ∃ β', Ext c Lo ⟨β', c.h.alloc ob, w1.alloc obj, c.base⟩ Lo ∧ Fr L0 ⟨β', c.h.alloc ob, w1.alloc obj, c.base⟩ Lo lam ds { s with h := c.h.alloc ob } a ∧ β' c.h.next = (c.w.heap.size, 0) ∧ Live (c.h.alloc ob) c.h.next :=
  f.freshK hbs w1 hw1 ob obj (c.h.alloc ob) (by simp [AHeap.alloc, AHeap.put, beq_nat]) (Steady.put _ _ _) (Nat.lt_succ_self _) (fun id hne => .inr (by simp [AHeap.alloc, AHeap.put, beq_nat, hne])) hob
theorem plainS_new {c' : Cx} {w1 : World} {C : Array Value} {e : TypeId} (hw : c'.w = w1.alloc (.cells C e)) : PlainS c' w1.heap.size C.size :=
  ⟨C, e, by rw [hw]; exact alloc_new _ _, rfl⟩
theorem plain_new {c' : Cx} {w1 : World} {C : Array Value} {e : TypeId} (hw : c'.w = w1.alloc (.cells C e)) : Plain c' w1.heap.size C.size :=
  ⟨C, e, 0, 0, by rw [hw]; exact alloc_new _ _, .inl rfl, rfl⟩
theorem cells_new {c' : Cx} {L : Nat → Prop} {w1 : World} {C : Array Value} {e : TypeId} {xs : List AV} {vs : List Value} (hw : c'.w = w1.alloc (.cells C e)) (hv : VRs c' L xs vs) (hp : ∀ i, i < vs.length → C[i]? = vs[i]?) (h1 : ∀ v ∈ vs, v.oneCell' = true) : Cells c' L xs w1.heap.size 0 :=
  Cells.of_vals hv (fun i hi => by rw [hw, cell_of_block (alloc_new _ _), Nat.zero_add]; exact hp i hi) h1
theorem op_newBox (hb0 : c0.base ≤ c0.w.heap.size) (hd : DstOK n ds o) {locs : List Nat} {cs : List AV} {s' : RS} (t : TypeId) (h : newBox s locs ds o cs = some s')
    (hx : ∀ a c Lo lam, Fr L0 c Lo lam ds s a → a.tmps.size = n → ∃ v : Value, (execOp a.eval o).run P c.w = .ok (.value (.pointer (some ⟨c.w.heap.size, 0, none⟩))) (c.w.alloc (.cells v.cells t)) ∧ VRs c (un L0 Lo) cs v.cells.toList ∧ ∀ u ∈ v.cells.toList, u.oneCell' = true) :
    OpOK P L0 c0 n ds o s s' := by
  unfold newBox at h
  split at h
  rotate_left
  · cases h
  rename_i hok
  cases hdo : o.dst with
  | none => rw [hdo] at h; cases h
  | some d =>
  obtain ⟨hdn, hdd⟩ := hd d hdo
  rw [hdo] at h
  simp only at h
  rintro a w K Q ⟨hn, c, Lo, lam, rfl, f, e⟩ hK
  have hbs := base_le e hb0
  obtain ⟨v, hr, hv, h1⟩ := hx a c Lo lam f hn
  unfold Oper.wp
  rw [hr, Oper.upon_value, hdo]
  split at h
  · split at h
    rotate_left
    · cases h
    rename_i hno
    cases h
    have f1 := f.set (d := some d) (x := .any) (v := undef) (SR.of (by simp [VR])) (fun t ht => by cases ht; exact ⟨hn ▸ hdn, hdd⟩)
    have hnone : ∀ t off, (s.set (some d) .any).ρ t ≠ .lp d off := by
      intro t off he
      rw [set_ρ] at he
      by_cases htd : t = d
      · rw [if_pos htd] at he; cases he
      · rw [if_neg htd] at he
        by_cases hm : t ∈ ds
        · exact noLp_spec hno t (by simp [hm, beq_nat, htd]) off he
        · exact htd (f.tidy t d off hm he).symm
    obtain ⟨Lo', lam', e', f', hlam⟩ := f1.updBox (w' := c.w.alloc (.cells v.cells t)) d cs c.w.heap.size (.inl (Nat.le_refl _)) (fun t off he => absurd he (hnone t off))
      (fun b hb _ => alloc_old _ _ hb) (fun b hb _ => alloc_old _ _ (by omega)) (by simp) (by simp) hbs rfl rfl rfl
      (by have := plain_new (c' := { c with w := c.w.alloc (.cells v.cells t) }) (w1 := c.w) (C := v.cells) (e := t) rfl
          rwa [show v.cells.size = cs.length by rw [← Array.length_toList, hv.length]] at this)
      (fun e' => cells_new (w1 := c.w) (C := v.cells) (e := t) rfl (VRs.ext e' _ _ hv) (fun i _ => by simp) h1)
    have f2 := f'.set (d := some d) (x := .lp d 0) (v := .pointer (some ⟨c.w.heap.size, 0, none⟩)) (by simp only [SR, hlam, RS.box, beq_nat]; simp) (fun t ht => by cases ht; rw [put_size]; exact ⟨hn ▸ hdn, hdd⟩)
    rw [put_put] at f2
    have hs : (((s.set (some d) .any).box d cs).set (some d) (.lp d 0)) = (s.box d cs).set (some d) (.lp d 0) := by
      rw [← RS.set_set (s.box d cs) (some d) .any]
      rfl
    rw [hs] at f2
    exact hK _ _ ⟨(put_size _ _ _).trans hn, _, Lo', lam', rfl, f2, e.trans e'⟩
  · cases h
    obtain ⟨β', e', f', hβ, hl⟩ := f.fresh hbs c.w ⟨rfl, rfl, rfl, rfl⟩ (.cells cs) (.cells v.cells t) (fun c' e' hw => ⟨_, plainS_new hw, by rw [Nat.zero_add, hv.length]; simp,
      cells_new (w1 := c.w) hw (VRs.ext e' _ _ hv) (fun i _ => by simp) h1⟩)
    rw [f.h] at f' e' hβ hl
    have f2 := f'.set (d := some d) (x := .ptr s.h.next 0) (v := .pointer (some ⟨c.w.heap.size, 0, none⟩)) (by
      simp only [SR, VR]
      exact ⟨hl.1, _, rfl, fun _ => by rw [hβ]⟩) (fun t ht => by cases ht; exact ⟨hn ▸ hdn, hdd⟩)
    exact hK _ _ ⟨(put_size _ _ _).trans hn, _, Lo, lam, rfl, f2, e.trans e'⟩
theorem rdy1_VR {c : Cx} {L : Nat → Prop} {n : Nat} {x : AV} {v : Value} (h : VR c L x v) : VR c L (rdy1 n x) v := by
  unfold rdy1
  split
  · simp only [VR] at h ⊢
    exact .inl ⟨trivial, trivial, trivial, none, h⟩
  · exact h
theorem rdyC_VR {c : Cx} {L : Nat → Prop} {locs : List Nat} {d : Option Nat} {cs : List AV} {vs : List Value} (h : VRs c L cs vs) : VRs c L (rdyC locs d cs) vs := by
  unfold rdyC
  split
  · exact h
  · split
    · exact h
    · rename_i n _
      induction cs generalizing vs with
      | nil => exact h
      | cons x cs ih =>
        cases vs with
        | nil => exact h.elim
        | cons v vs => exact ⟨rdy1_VR h.1, ih h.2⟩
theorem rdyC_ok {locs : List Nat} {d : Option Nat} {cs : List AV} (h : (rdyC locs d cs).all AV.cellOK = true) : cs.all AV.cellOK = true := by
  unfold rdyC at h
  split at h
  · exact h
  · split at h
    · exact h
    · rw [List.all_map] at h
      rw [List.all_eq_true] at h ⊢
      intro x hx
      have := h x hx
      simp only [Function.comp, rdy1] at this
      split at this
      · rfl
      · exact this
theorem run_alloc {c : Cx} {t : TypeId} {z : AV} (hz : zeroA P t = some z) (hok : z.cells.all AV.cellOK = true) (L : Nat → Prop) : ∃ v : Value, (Instr.alloc t true (.tuple #[])).run P c.w = .ok (.pointer (some ⟨c.w.heap.size, 0, none⟩)) (c.w.alloc (.cells v.cells t)) ∧ VRs c L z.cells v.cells.toList ∧ ∀ u ∈ v.cells.toList, u.oneCell' = true := by
  obtain ⟨v, hr, hv⟩ := run_zeroA hz c.w
  obtain ⟨h1, h2⟩ := cells_VR hok (ofV_VR (c := c) (L := L) hv)
  exact ⟨v, by simp [Instr.alloc, hr, newVar, newRow], h1, h2⟩
theorem replA_length (z : List AV) : ∀ k, (replA z k).length = k * z.length
  | 0 => by simp [replA]
  | k + 1 => by simp [replA, replA_length z k, Nat.add_mul, Nat.add_comm]
theorem replA_get (z : List AV) : ∀ (k i : Nat), i < k * z.length → (replA z k)[i]? = z[i % z.length]?
  | 0, i, h => by simp at h
  | k + 1, i, h => by
    rw [Nat.add_mul, Nat.one_mul] at h
    rw [replA]
    by_cases h1 : i < z.length
    · rw [List.getElem?_append_left h1, Nat.mod_eq_of_lt h1]
    · rw [List.getElem?_append_right (by omega), replA_get z k _ (by omega), ← Nat.mod_eq_sub_mod (show z.length ≤ i by omega)]
theorem VRs_zeros {c : Cx} {L : Nat → Prop} {z : List AV} {zv : Array Value} (hz : VRs c L z zv.toList) (k m : Nat) (hm : k * z.length ≤ m) (hzl : z.length ≠ 0) :
    VRs c L (replA z k) (((Array.range m).map (zv[· % zv.size]!)).toList.take (k * z.length)) := by
  have hl := hz.length
  have key : ∀ (xs : List AV) (vs : List Value), xs.length = vs.length → (∀ (i : Nat) x v, xs[i]? = some x → vs[i]? = some v → VR c L x v) → VRs c L xs vs := by
    intro xs
    induction xs with
    | nil => intro vs h _; cases vs with | nil => trivial | cons _ _ => simp at h
    | cons x xs ih =>
      intro vs h hall
      cases vs with
      | nil => simp at h
      | cons v vs =>
        refine ⟨hall 0 x v rfl rfl, ih vs (by simpa using h) fun i y u hy hu => hall (i + 1) y u (by simpa using hy) (by simpa using hu)⟩
  refine key _ _ (by rw [replA_length]; simp; omega) fun i x v hx hv => ?_
  have hi : i < k * z.length := by
    have := (List.getElem?_eq_some_iff.1 hx).1
    rwa [replA_length] at this
  rw [replA_get z k i hi] at hx
  obtain ⟨u, hu, hr⟩ := hz.get _ x hx
  rw [List.getElem?_take, if_pos hi] at hv
  have hi2 : i < m := by omega
  have hmod : i % zv.size < zv.size := Nat.mod_lt _ (by rw [← Array.length_toList, ← hl]; omega)
  have : v = zv[i % zv.size]! := by
    simp [hi2] at hv
    exact hv.symm
  rw [show zv.toList.length = zv.size by simp] at hl
  rw [hl, Array.getElem?_toList, Array.getElem?_eq_getElem hmod] at hu
  rw [this, getElem!_pos zv _ hmod]
  cases hu
  exact hr
theorem op_fresh_val (hb0 : c0.base ≤ c0.w.heap.size) (hd : DstOK n ds o) {ob : AObj} {x : AV}
    (h : ∀ a c Lo lam, Fr L0 c Lo lam ds s a → a.tmps.size = n → ∃ (obj : Obj) (v : Value), (execOp a.eval o).run P c.w = .ok (.value v) (c.w.alloc obj) ∧
      (∀ (c' : Cx) (e : Ext c Lo c' Lo), c'.w = c.w.alloc obj → ObjR c' (un L0 Lo) c.w.heap.size 0 ob) ∧
      (∀ (c' : Cx), c'.h = s.h.alloc ob → c'.w = c.w.alloc obj → c'.β s.h.next = (c.w.heap.size, 0) → VR c' (un L0 Lo) x v)) (hx : ∀ k off, x ≠ .lp k off) :
    OpOK P L0 c0 n ds o s ({ s with h := s.h.alloc ob }.set o.dst x) := by
  rintro a w K Q ⟨hn, c, Lo, lam, rfl, f, e⟩ hK
  have hbs := base_le e hb0
  obtain ⟨obj, v, hr, hob, hv⟩ := h a c Lo lam f hn
  unfold Oper.wp
  rw [hr, Oper.upon_value]
  obtain ⟨β', e', f', hβ, hl⟩ := f.fresh hbs c.w ⟨rfl, rfl, rfl, rfl⟩ ob obj hob
  rw [f.h] at f' e' hβ hl
  have f2 := f'.set (d := o.dst) (x := x) (v := v) (SR.of (hv _ rfl rfl hβ)) (fun t ht => by rw [hn]; exact hd t ht)
  exact hK _ _ ⟨(put_size _ _ _).trans hn, _, Lo, lam, rfl, f2, e.trans e'⟩
theorem op_makeMap (hb0 : c0.base ≤ c0.w.heap.size) (hd : DstOK n ds o) {t : TypeId} (ho : o.op = .makeMap t none) : OpOK P L0 c0 n ds o s ({ s with h := s.h.alloc (.map []) }.set o.dst (.mp s.h.next)) := by
  refine op_fresh_val hb0 hd (fun a c Lo lam f hn => ⟨.map #[] 0, .map (some c.w.heap.size), by simp [execOp, ho, Instr.makeMap], fun c' e hw => ⟨#[], 0, by rw [hw]; exact alloc_new _ _, trivial⟩, fun c' hh hw hβ => ?_⟩) (by rintro k off hh; cases hh)
  simp only [VR]
  exact ⟨by rw [hh]; exact Nat.lt_succ_self _, _, rfl, fun _ => by rw [hβ]⟩
theorem wrap64_id {i : Int} (h0 : 0 ≤ i) (h1 : i ≤ 1099511627776) : IntKind.i64.wrap i = i := IntWalk.i64_in _ (by omega)
theorem op_makeSlice (hb0 : c0.base ≤ c0.w.heap.size) (hd : DstOK n ds o) {t : TypeId} {lx cx : Operand} (ho : o.op = .makeSlice t lx cx) {s' : RS}
    (h : ((makeSliceA P s.h t (opnd s.ρ lx) (opnd s.ρ cx)).map fun (x, h) => { s with h }.set o.dst x) = some s') : OpOK P L0 c0 n ds o s s' := by
  rw [Option.map_eq_some_iff] at h
  obtain ⟨⟨x, h'⟩, hm, rfl⟩ := h
  unfold makeSliceA at hm
  split at hm <;> try (cases hm; done)
  rename_i l cc hl hc
  rw [Option.bind_eq_some_iff] at hm
  obtain ⟨d, hud, hm⟩ := hm
  cases d <;> simp only at hm <;> try (cases hm; done)
  rename_i e
  simp only [Option.bind_eq_some_iff] at hm
  obtain ⟨i, hi, z, hz, hm⟩ := hm
  split at hm
  rotate_left
  · cases hm
  rename_i hcond
  obtain ⟨h0, h1, h2, h3, h4, h5, h6⟩ := hcond
  simp only [Option.some.injEq, Prod.mk.injEq] at hm
  obtain ⟨rfl, rfl⟩ := hm
  refine op_fresh_val hb0 hd (fun a c Lo lam f hn => ?_) (by rintro k off hh; cases hh)
  have hnz : s.h.next ≠ 0 := by have := f.rel.ver 0; rw [f.h] at this; omega
  have hlv := (opnd_SR f lx)
  have hcv := (opnd_SR f cx)
  rw [hl] at hlv
  rw [hc] at hcv
  simp only [SR, VR] at hlv hcv
  obtain ⟨zv, hzr, hzo⟩ := run_zeroA hz c.w
  have hzs : (typeInfo e).run P c.w = .ok i c.w := by simp [typeInfo, hi]
  have hsz : (sizeOf e).run P c.w = .ok i.size c.w := run_szOf (by simp [szOf, hi]) c.w
  obtain ⟨hzv, hz1⟩ := cells_VR h6 (ofV_VR (c := c) (L := un L0 Lo) hzo)
  have hzl := hzv.length
  have hl0 : IntKind.i64.wrap l = l := wrap64_id h0 (by omega)
  have hc0 : IntKind.i64.wrap cc = cc := wrap64_id (by omega) h5
  have hroom : ¬ ((i.bytes : Int) * cc > 2 ^ 48) := by
    rw [Int.mul_comm]; simp only [roomA] at h2; omega
  have hn0 : cc.toNat * i.size = 0 ∨ cc.toNat * i.size ≠ 0 := by omega
  have hrun : (Instr.makeSlice t (.int .i64 l) (.int .i64 cc)).run P c.w = .ok (.slice (some ⟨c.w.heap.size, 0, none⟩) l.toNat cc.toNat)
      (c.w.alloc (.cells ((Array.range (cc.toNat * i.size)).map (zv.cells[· % zv.cells.size]!)) e)) := by
    unfold Instr.makeSlice
    simp only [Sem.run_bind, run_und hud, Result.andThen_ok, asInt, asIntOf, Sem.run_pure, hzs, hl0, hc0, hsz]
    rw [if_neg (by simp only [Bool.or_eq_true, decide_eq_true_eq, not_or]; exact ⟨⟨⟨by omega, hroom⟩, by omega⟩, by omega⟩)]
    simp only [Sem.run_bind, run_askRoom, Result.andThen_ok, hsz, Sem.run_pure]
    by_cases hz0 : cc.toNat * i.size = 0
    · have hr0 : ∀ f : Nat → Value, Array.map f (Array.range 0) = #[] := fun f => by simp
      simp only [hz0, if_true, Sem.run_pure, Sem.run_bind, Result.andThen_ok, newRow, run_newObj, World.alloc_eq, hr0]
    · simp only [hz0, if_false, Sem.run_bind, hzr, Result.andThen_ok, Sem.run_pure, newRow, run_newObj, World.alloc_eq]
  have hle : l.toNat * z.cells.length ≤ cc.toNat * i.size := by rw [h3]; exact Nat.mul_le_mul_right _ (by omega)
  have hrow : ∀ (c' : Cx) (e' : Ext c Lo c' Lo), c'.w = c.w.alloc (.cells ((Array.range (cc.toNat * i.size)).map (zv.cells[· % zv.cells.size]!)) e) →
      ObjR c' (un L0 Lo) c.w.heap.size 0 (.cells (replA z.cells l.toNat)) := by
    intro c' e' hw
    refine ⟨_, plainS_new hw, by rw [replA_length]; simp; omega, ?_⟩
    have hv := VRs_zeros hzv l.toNat (cc.toNat * i.size) hle (by omega)
    refine cells_new (w1 := c.w) hw (VRs.ext e' _ _ hv) (fun j hj => ?_) (fun u hu => ?_)
    · rw [List.getElem?_take, if_pos (by simp at hj; omega), Array.getElem?_toList]
    · have hu2 := List.mem_of_mem_take hu
      simp only [Array.toList_map, List.mem_map] at hu2
      obtain ⟨j, hj, rfl⟩ := hu2
      have hmod : j % zv.cells.size < zv.cells.size := Nat.mod_lt _ (by rw [← Array.length_toList, ← hzl]; omega)
      rw [getElem!_pos zv.cells _ hmod]
      exact hz1 _ (by simp)
  have hex : (execOp a.eval o).run P c.w = .ok (.value (.slice (some ⟨c.w.heap.size, 0, none⟩) l.toNat cc.toNat)) (c.w.alloc (.cells ((Array.range (cc.toNat * i.size)).map (zv.cells[· % zv.cells.size]!)) e)) := by
    simp only [execOp, ho, hlv, hcv, Sem.run_bind, hrun, Result.andThen_ok, Sem.run_pure]
  refine ⟨_, _, hex, hrow, fun c' hh hw hβ => ?_⟩
  simp only [VR]
  refine .inr ⟨hnz, by rw [hh]; exact Nat.lt_succ_self _, _, _, rfl, by omega, rfl, fun _ => .inl ?_⟩
  rw [hβ]
  refine ⟨rfl, ?_⟩
  simp only [Cx.len, World.shape?, hw, alloc_new]
  simp
end
end Go.R

namespace Go.R
open Go
def spliceV : List Value → Nat → List Value → List Value
  | cs, _, [] => cs
  | cs, i, v :: vs => spliceV (cs.set i v) (i + 1) vs
theorem VRs.splice {c : Cx} {L : Nat → Prop} : ∀ {xs : List AV} {us : List Value} (i : Nat) {cs : List AV} {vs : List Value}, VRs c L xs us → VRs c L cs vs → VRs c L (splice cs i xs) (spliceV vs i us)
  | [], [], i, cs, vs, _, h => by
    have : R.splice cs i [] = cs := by cases cs <;> rfl
    rw [this]; cases vs <;> exact h
  | x :: xs, u :: us, i, cs, vs, h, k => VRs.splice (i + 1) h.2 (VRs.set h.1 i k)
  | [], _ :: _, _, _, _, h, _ => h.elim
  | _ :: _, [], _, _, _, h, _ => h.elim
theorem spliceV_one : ∀ (us : List Value) (i : Nat) (vs : List Value), (∀ v ∈ vs, v.oneCell' = true) → (∀ u ∈ us, u.oneCell' = true) → ∀ v ∈ spliceV vs i us, v.oneCell' = true
  | [], i, vs, h, _, v, hv => h v (by cases vs <;> exact hv)
  | u :: us, i, vs, h, k, v, hv => spliceV_one us (i + 1) (vs.set i u) (fun w hw => by
      rcases List.mem_or_eq_of_mem_set hw with h1 | h1
      · exact h w h1
      · subst h1; exact k _ (by simp)) (fun w hw => k w (by simp [hw])) v hv
theorem foldl_splice (off : Nat) : ∀ (us : List Value) (j : Nat) (cells : Array Value), ((us.zipIdx j).foldl (fun cs (p : Value × Nat) => cs.setIfInBounds (off + p.2) p.1) cells).toList = spliceV cells.toList (off + j) us
  | [], j, cells => by simp [spliceV]
  | u :: us, j, cells => by
    simp only [List.zipIdx_cons, List.foldl_cons]
    rw [foldl_splice off us (j + 1)]
    simp [spliceV, Nat.add_assoc]
section
variable {P : Program} {L0 : Nat → Prop} {c0 : Cx} {n : Nat} {ds : List Nat} {o : Oper} {s : RS}
def PartsR (c : Cx) (L : Nat → Prop) : List (Nat × AV) → List (Nat × Value) → Prop
  | [], [] => True
  | (i, x) :: xs, (j, v) :: vs => (i = j ∧ (x.cells.all AV.cellOK = true → VR c L x v)) ∧ PartsR c L xs vs
  | _, _ => False
theorem fill_fillA {c : Cx} {L : Nat → Prop} (pl : Nat → Option (Nat × Nat)) : ∀ {ps : List (Nat × AV)} {vs : List (Nat × Value)} {cs cs' : List AV} {C : Array Value}, PartsR c L ps vs → VRs c L cs C.toList → (∀ v ∈ C.toList, v.oneCell' = true) → fillA pl cs ps = some cs' →
    ∃ C' : Array Value, Instr.fill pl C vs = some C' ∧ VRs c L cs' C'.toList ∧ ∀ v ∈ C'.toList, v.oneCell' = true
  | [], [], cs, cs', C, _, hc, h1, h => by
    simp only [fillA, Option.some.injEq] at h
    subst h
    exact ⟨C, rfl, hc, h1⟩
  | (i, x) :: ps, (j, v) :: vs, cs, cs', C, hp, hc, h1, h => by
    obtain ⟨⟨rfl, hx⟩, hps⟩ := hp
    simp only [fillA, Option.bind_eq_some_iff] at h
    obtain ⟨⟨off, size⟩, hpl, h⟩ := h
    simp only at h
    split at h
    · rename_i hcond
      obtain ⟨h2, h3, h4⟩ := hcond
      obtain ⟨h5, h6⟩ := cells_VR h3 (hx h3)
      have h7 : v.cells.size = size := by rw [← Array.length_toList, ← h5.length]; exact h2
      have h8 : cs.length = C.size := by rw [hc.length]; simp
      have hf : (v.cells.zipIdx.foldl (fun cs (p : Value × Nat) => cs.setIfInBounds (off + p.2) p.1) C).toList = spliceV C.toList off v.cells.toList := by
        rw [← Array.foldl_toList, Array.toList_zipIdx]
        exact foldl_splice off v.cells.toList 0 C
      obtain ⟨C', h9, h10, h11⟩ := fill_fillA pl (C := v.cells.zipIdx.foldl (fun cs (p : Value × Nat) => cs.setIfInBounds (off + p.2) p.1) C) hps (by rw [hf]; exact VRs.splice off h5 hc) (by rw [hf]; exact spliceV_one _ _ _ h1 h6) h
      refine ⟨C', ?_, h10, h11⟩
      simp only [Instr.fill, hpl]
      rw [if_neg (by simp only [Bool.or_eq_true, decide_eq_true_eq, not_or, ne_eq, Decidable.not_not]; exact ⟨h7, by omega⟩)]
      exact h9
    · cases h
  | [], _ :: _, _, _, _, h, _, _, _ => h.elim
  | _ :: _, [], _, _, _, h, _, _, _ => h.elim
theorem parts_SR {c : Cx} {Lo : Nat → Prop} {lam : Nat → Nat} {a : Act} (f : Fr L0 c Lo lam ds s a) : ∀ ps : List (Nat × Operand), PartsR c (un L0 Lo) (ps.map fun (i, x) => (i, opnd s.ρ x)) (ps.map fun (i, x) => (i, a.eval x))
  | [] => trivial
  | (i, x) :: ps => ⟨⟨rfl, fun h => (opnd_SR f x).cellsVR h⟩, parts_SR f ps⟩
theorem ofV1_cellOK {v : Value} {x : AV} (h : ofV1 v = some x) : x.cellOK = true := by
  unfold ofV1 at h
  split at h <;> first | (cases h; done) | (cases h; rfl)
theorem ofV1s_cellOK : ∀ {vs : List Value} {xs : List AV}, ofV1s vs = some xs → xs.all AV.cellOK = true
  | [], xs, h => by simp [ofV1s] at h; subst h; rfl
  | v :: vs, xs, h => by
    simp only [ofV1s, Option.bind_eq_some_iff] at h
    obtain ⟨x, hx, ys, hy, he⟩ := h
    cases he
    simp [ofV1_cellOK hx, ofV1s_cellOK hy]
theorem ofV_cellOK {v : Value} {x : AV} (h : ofV v = some x) : x.cells.all AV.cellOK = true := by
  unfold ofV at h
  split at h
  · rw [Option.map_eq_some_iff] at h
    obtain ⟨xs, hx, rfl⟩ := h
    exact ofV1s_cellOK hx
  · have h1 := ofV1_cellOK h
    cases x <;> simp_all [AV.cells, AV.cellOK]
theorem places_run {c : Cx} (w : World) : ∀ fs : List Field, (∀ f ∈ fs, ∃ m, szOf P f.type = some m) → (fs.mapM (m := Sem) fun f => do pure (f.offset, ← sizeOf f.type)).run P w = .ok (fs.map fun f => (f.offset, (szOf P f.type).getD 0)) w
  | [], _ => by simp
  | f :: fs, h => by
    obtain ⟨m, hm⟩ := h f (by simp)
    have ih := places_run (c := c) w fs (fun g hg => h g (by simp [hg]))
    simp only [List.mapM_cons, Sem.run_bind, run_szOf hm, ih, hm, Sem.run_pure, Result.andThen_ok, List.map_cons, Option.getD_some]
theorem run_build {c : Cx} {L : Nat → Prop} {t : TypeId} {ps : List (Nat × AV)} {vs : List (Nat × Value)} {y : AV} (hp : PartsR c L ps vs) (h : buildA P t ps = some y) :
    ∃ v, (Instr.build t vs.toArray).run P c.w = .ok v c.w ∧ VR c L y v := by
  unfold buildA at h
  simp only [Option.bind_eq_some_iff] at h
  obtain ⟨z, hz, d, hd, h⟩ := h
  obtain ⟨zv, hzr, hzo⟩ := run_zeroA hz c.w
  obtain ⟨hzv, hz1⟩ := cells_VR (ofV_cellOK hzo) (ofV_VR (c := c) (L := L) hzo)
  cases d <;> simp only at h <;> try (cases h; done)
  · rename_i len e
    simp only [Option.bind_eq_some_iff, Option.map_eq_some_iff] at h
    obtain ⟨m, hm, cs, hf, rfl⟩ := h
    obtain ⟨C', h1, h2, _⟩ := fill_fillA _ hp hzv hz1 hf
    refine ⟨.agg C', ?_, by simp only [VR]; exact ⟨C', rfl, h2⟩⟩
    unfold Instr.build
    simp [hzr, run_und hd, run_szOf hm, h1]
  · rename_i fs
    split at h
    rotate_left
    · cases h
    rename_i hall0
    have hall : ∀ f ∈ fs.toList, ∃ m, szOf P f.type = some m := fun f hf => Option.isSome_iff_exists.1 (List.all_eq_true.1 hall0 f hf)
    rw [Option.map_eq_some_iff] at h
    obtain ⟨cs, hf, rfl⟩ := h
    obtain ⟨C', h1, h2, _⟩ := fill_fillA _ hp hzv hz1 hf
    refine ⟨.agg C', ?_, by simp only [VR]; exact ⟨C', rfl, h2⟩⟩
    have hpr := places_run (P := P) (c := c) c.w fs.toList hall
    have hpl : (fun i => (fs.toList.map fun f => (f.offset, (szOf P f.type).getD 0)).toArray[i]?) = places P fs.toList := by
      funext i
      simp only [places, List.getElem?_toArray, List.getElem?_map]
      cases hi : fs.toList[i]? with
      | none => rfl
      | some f =>
        obtain ⟨m, hm⟩ := hall f (List.mem_of_getElem? hi)
        simp [hm]
    unfold Instr.build
    simp only [Sem.run_bind, hzr, run_und hd, Result.andThen_ok]
    rw [← Array.toArray_toList (xs := fs), List.mapM_toArray]
    simp only [Sem.run_map, hpr, Result.andThen_ok]
    rw [hpl, h1]
    rfl
end
end Go.R

namespace Go.R
open Go
section
variable {P : Program} {L0 : Nat → Prop} {c0 : Cx} {n : Nat} {ds : List Nat} {o : Oper} {s : RS}
theorem op_world (hb0 : c0.base ≤ c0.w.heap.size) (hd : DstOK n ds o) {x : AV}
    (h : ∀ a c Lo lam, Fr L0 c Lo lam ds s a → a.tmps.size = n → c.base ≤ c.w.heap.size → ∃ (w' : World) (v : Value), (execOp a.eval o).run P c.w = .ok (.value v) w' ∧ (∀ b, b < c.w.heap.size → Keeps c.w w' b) ∧ (∀ id, Live c.h id → w'.heap[(c.β id).1]? = c.w.heap[(c.β id).1]?) ∧ (∀ b, b < c.base → w'.heap[b]? = c.w.heap[b]?) ∧ c.w.heap.size ≤ w'.heap.size ∧
      w'.os = c.w.os ∧ w'.tape = c.w.tape ∧ w'.output = c.w.output ∧ (Ext c Lo { c with w := w' } Lo → VR { c with w := w' } (un L0 Lo) x v)) (hx : ∀ k off, x ≠ .lp k off) :
    OpOK P L0 c0 n ds o s (s.set o.dst x) := by
  rintro a w K Q ⟨hn, c, Lo, lam, rfl, f, e⟩ hK
  obtain ⟨w', v, hr, h1, h1l, h2, h3, h4, h5, h6, hv⟩ := h a c Lo lam f hn (base_le e hb0)
  obtain ⟨e', f'⟩ := f.world h1 h1l h2 h3 h4 h5 h6
  unfold Oper.wp
  rw [hr, Oper.upon_value]
  exact hK _ _ ⟨(put_size _ _ _).trans hn, _, Lo, lam, rfl, f'.set (SR.of (hv e')) (fun t ht => by rw [hn]; exact hd t ht), e.trans e'⟩
theorem RO_new {c c' : Cx} {Lo : Nat → Prop} (r : HRel c (un L0 Lo)) (hβ : c'.β = c.β) (hh : c'.h = c.h) : RO c' (un L0 Lo) c.w.heap.size := by
  refine ⟨fun id hl he => ?_, fun hL => ?_⟩
  · rw [hh] at hl
    rw [hβ] at he
    have := r.block hl; omega
  · have := r.bd _ hL; omega
theorem run_buildSlice {c : Cx} {L : Nat → Prop} {t : TypeId} {len : Nat} {ps : List (Nat × AV)} {vs : List (Nat × Value)} {y : AV} (hp : PartsR c L ps vs) (h : buildSliceA P t len ps = some y) :
    (y = .fz [] 0 true ∧ ∃ e, (Instr.buildSlice t len vs.toArray).run P c.w = .ok (.slice (some ⟨c.w.heap.size, 0, none⟩) 0 0) (c.w.alloc (.cells #[] e))) ∨
    ∃ cs C e, y = .fz cs len true ∧ (Instr.buildSlice t len vs.toArray).run P c.w = .ok (.slice (some ⟨c.w.heap.size, 0, none⟩) len len) (c.w.alloc (.cells C e)) ∧ VRs c L cs C.toList ∧ ∀ v ∈ C.toList, v.oneCell' = true := by
  unfold buildSliceA at h
  rw [Option.bind_eq_some_iff] at h
  obtain ⟨d, hd, h⟩ := h
  cases d <;> simp only at h <;> try (cases h; done)
  rename_i e
  rw [Option.bind_eq_some_iff] at h
  obtain ⟨m, hm, h⟩ := h
  split at h
  · cases h
  rename_i hbig
  have hm0 : m ≠ 0 := fun h => hbig (.inl h)
  have hbig2 : ¬ (len * m > 2 ^ 24) := fun h => hbig (.inr (by omega))
  split at h
  · rename_i hl0
    subst hl0
    split at h
    · rename_i hpe
      cases h
      have hps : ps = [] := by simpa using hpe
      subst hps
      cases vs with
      | cons _ _ => exact hp.elim
      | nil =>
      refine .inl ⟨rfl, e, ?_⟩
      unfold Instr.buildSlice
      simp only [Sem.run_bind, run_und hd, run_szOf hm, Result.andThen_ok, Nat.zero_mul, if_true, Sem.run_pure]
      have hr0 : ∀ f : Nat → Value, Array.map f (Array.range 0) = #[] := fun f => by simp
      simp only [Instr.fill, newRow, hr0, Sem.run_bind, run_newObj, Result.andThen_ok, Sem.run_pure, World.alloc_eq]
      rfl
    · cases h
  · rename_i hl0
    rw [Option.bind_eq_some_iff] at h
    obtain ⟨z, hz, h⟩ := h
    split at h
    rotate_left
    · cases h
    rename_i hzl
    rw [Option.map_eq_some_iff] at h
    obtain ⟨cs, hf, rfl⟩ := h
    obtain ⟨zv, hzr, hzo⟩ := run_zeroA hz c.w
    obtain ⟨hzv, hz1⟩ := cells_VR (ofV_cellOK hzo) (ofV_VR (c := c) (L := L) hzo)
    have hz0 := VRs_zeros hzv len (len * m) (by rw [hzl]; exact Nat.le_refl _) (by omega)
    rw [List.take_of_length_le (by simp [hzl])] at hz0
    have hz2 : ∀ u ∈ ((Array.range (len * m)).map (zv.cells[· % zv.cells.size]!)).toList, u.oneCell' = true := by
      intro u hu
      simp only [Array.toList_map, List.mem_map] at hu
      obtain ⟨j, hj, rfl⟩ := hu
      have hmod : j % zv.cells.size < zv.cells.size := Nat.mod_lt _ (by rw [← Array.length_toList, ← hzv.length]; omega)
      rw [getElem!_pos zv.cells _ hmod]
      exact hz1 _ (by simp)
    obtain ⟨C', h1, h2, h3⟩ := fill_fillA _ hp hz0 hz2 hf
    refine .inr ⟨cs, C', e, rfl, ?_, h2, h3⟩
    have hne : len * m ≠ 0 := Nat.mul_ne_zero hl0 hm0
    unfold Instr.buildSlice
    simp only [Sem.run_bind, run_und hd, run_szOf hm, Result.andThen_ok, hbig2, hne, if_false, Sem.run_pure, hzr]
    rw [h1]
    simp [newRow]
theorem op_buildSlice (hb0 : c0.base ≤ c0.w.heap.size) (hd : DstOK n ds o) {t : TypeId} {len : Nat} {ps : Array (Nat × Operand)} (ho : o.op = .buildSlice t len ps) {y : AV}
    (h : buildSliceA P t len (ps.toList.map fun (i, x) => (i, opnd s.ρ x)) = some y) : OpOK P L0 c0 n ds o s (s.set o.dst y) := by
  refine op_world hb0 hd (fun a c Lo lam f hn hbs => ?_) ?_
  · have hp := parts_SR f ps.toList
    have hex : ∀ v w', (Instr.buildSlice t len (ps.toList.map fun (i, x) => (i, a.eval x)).toArray).run P c.w = .ok v w' → (execOp a.eval o).run P c.w = .ok (.value v) w' := by
      intro v w' hr
      have he : ps.map (fun (i, x) => (i, a.eval x)) = (ps.toList.map fun (i, x) => (i, a.eval x)).toArray := by
        apply Array.ext'; simp
      simp only [execOp, ho, Sem.run_bind]
      rw [he, hr]
      rfl
    rcases run_buildSlice hp h with ⟨rfl, e, hr⟩ | ⟨cs, C, e, rfl, hr, hv, h1⟩
    · refine ⟨_, _, hex _ _ hr, fun b hb => .inl (alloc_old _ _ hb), fun id hl => alloc_old _ _ (f.rel.block hl), fun b hb => alloc_old _ _ (by omega), by simp, rfl, rfl, rfl, fun _ => by simp only [VR]; exact ⟨_, _, rfl, Nat.le_refl _, fun _ => rfl, .inl rfl, .inl trivial⟩⟩
    · refine ⟨_, _, hex _ _ hr, fun b hb => .inl (alloc_old _ _ hb), fun id hl => alloc_old _ _ (f.rel.block hl), fun b hb => alloc_old _ _ (by omega), by simp, rfl, rfl, rfl, fun e' => ?_⟩
      simp only [VR]
      exact ⟨_, _, rfl, Nat.le_refl _, fun _ => rfl, .inl rfl, .inr ⟨c.w.heap.size, 0, rfl, RO_new f.rel rfl rfl, fun _ => hbs, cells_new (w1 := c.w) rfl (VRs.ext e' _ _ hv) (fun i _ => by simp) h1⟩⟩
  · rintro k off rfl
    unfold buildSliceA at h
    rw [Option.bind_eq_some_iff] at h
    obtain ⟨d, _, h⟩ := h
    cases d <;> simp only at h <;> try (cases h; done)
    rw [Option.bind_eq_some_iff] at h
    obtain ⟨m, _, h⟩ := h
    split at h
    · cases h
    · split at h
      · split at h <;> cases h
      · rw [Option.bind_eq_some_iff] at h
        obtain ⟨z, _, h⟩ := h
        split at h
        · rw [Option.map_eq_some_iff] at h
          obtain ⟨_, _, h⟩ := h
          cases h
        · cases h
theorem trackV_spec {locs : List Nat} {t : TypeId} {y : AV} {cs : List AV} {k z : Nat} (h : trackV P locs o t y = some (cs, k, z)) : y = .fz cs k true ∧ cs.length = k * z ∧ cs ≠ [] := by
  unfold trackV at h
  split at h
  · rename_i d c cs' k' hd
    cases hc : locs.contains d with
    | false => rw [hc] at h; cases h
    | true =>
      rw [hc] at h
      simp only [cond_true] at h
      split at h
      · split at h
        · rename_i z' hz
          cases hb : Nat.beq (c :: cs').length (k' * z') with
          | false => rw [hb] at h; cases h
          | true =>
            rw [hb] at h
            simp only [cond_true, Option.some.injEq, Prod.mk.injEq] at h
            obtain ⟨rfl, rfl, rfl⟩ := h
            exact ⟨rfl, Nat.eq_of_beq_eq_true hb, by simp⟩
        · cases h
      · cases h
  · cases h
theorem op_buildSliceT (hb0 : c0.base ≤ c0.w.heap.size) (hd : DstOK n ds o) {t : TypeId} {len : Nat} {ps : Array (Nat × Operand)} (ho : o.op = .buildSlice t len ps) {y : AV} (locs : List Nat)
    (h : buildSliceA P t len (ps.toList.map fun (i, x) => (i, opnd s.ρ x)) = some y) : OpOK P L0 c0 n ds o s (trackA P locs s o t y) := by
  have key := op_buildSlice (L0 := L0) hb0 hd ho h
  unfold trackA
  cases htr : trackV P locs o t y with
  | none => exact key
  | some q =>
  obtain ⟨cs1, n1, z⟩ := q
  obtain ⟨rfl, hlen, hne⟩ := trackV_spec htr
  have fin := op_fresh_val (P := P) (L0 := L0) (c0 := c0) (o := o) (s := s) hb0 hd (ob := .cells cs1) (x := .rs s.h.next 0 n1 z) (fun a c Lo lam f hn => by
    have hp := parts_SR f ps.toList
    have hex : ∀ v w', (Instr.buildSlice t len (ps.toList.map fun (i, x) => (i, a.eval x)).toArray).run P c.w = .ok v w' → (execOp a.eval o).run P c.w = .ok (.value v) w' := by
      intro v w' hr
      have he : ps.map (fun (i, x) => (i, a.eval x)) = (ps.toList.map fun (i, x) => (i, a.eval x)).toArray := by
        apply Array.ext'; simp
      simp only [execOp, ho, Sem.run_bind]
      rw [he, hr]
      rfl
    rcases run_buildSlice hp h with ⟨he, _⟩ | ⟨cs, C, e, he, hr, hv, h1⟩
    · cases he; exact absurd rfl hne
    · cases he
      have hCs : C.size = cs1.length := by rw [← Array.length_toList, ← hv.length]
      refine ⟨_, _, hex _ _ hr, fun c' e' hw => ⟨_, plainS_new (w1 := c.w) hw, by rw [hCs, Nat.zero_add]; exact Nat.le_refl _, cells_new (w1 := c.w) hw (VRs.ext e' _ _ hv) (fun i _ => by simp) h1⟩, fun c' hh hw hβ => ?_⟩
      simp only [VR]
      refine .inr ⟨(by have := f.rel.ver 0; rw [f.h] at this; omega), by rw [hh]; exact Nat.lt_succ_self _, _, _, rfl, Nat.le_refl _, rfl, fun _ => .inl ?_⟩
      rw [hβ]
      refine ⟨rfl, ?_⟩
      simp only [Cx.len, World.shape?, hw, alloc_new]
      simp only [Option.map_some, Option.getD_some, hCs, hlen, Nat.zero_add]) (by rintro k off hh; cases hh)
  exact fin
theorem src_cells {c : Cx} {Lo : Nat → Prop} {lam : Nat → Nat} {a : Act} (f : Fr L0 c Lo lam ds s a) {tx : TypeId} {size m : Nat} {x : AV} {v : Value} {new : List AV} (hx : SR c L0 Lo lam s.bx x v)
    (hk : (∃ e', P.underlying tx = some (.slice e')) ∨ P.underlying tx = some .string) (hks : ∀ st, x = .str st → P.underlying tx = some .string) (hkn : (∀ st, x ≠ .str st) → ∃ e', P.underlying tx = some (.slice e')) (h : cellsOfA s.h size x = some (new, m)) :
    ∃ news, Src P size tx v m news c.w ∧ VRs c (un L0 Lo) new news := by
  unfold cellsOfA at h
  cases x <;> simp only at h <;> try (cases h; done)
  · rename_i st
    split at h
    · rename_i h1
      subst h1
      cases h
      simp only [SR, VR] at hx
      subst hx
      refine ⟨_, Src.ofString c.w (hks st rfl) st, ?_⟩
      unfold byteCells
      generalize st.data.toList = l
      induction l with
      | nil => trivial
      | cons b l ih => exact ⟨by simp [VR], ih⟩
    · cases h
  · cases h
    obtain ⟨e', he⟩ := hkn (by rintro st h; cases h)
    simp only [SR, VR] at hx
    subst hx
    exact ⟨[], Src.ofNil c.w he 0, trivial⟩
  · rename_i cs k ex
    split at h
    · rename_i hl
      cases h
      obtain ⟨e', he⟩ := hkn (by rintro st h; cases h)
      simp only [SR, VR] at hx
      obtain ⟨ad, cap, rfl, h1, h2, _, hc⟩ := hx
      rcases hc with rfl | ⟨b, o', rfl, hr, hex, hc⟩
      · have hl0 : m * size = 0 := by simpa using hl.symm
        cases ad with
        | none =>
          refine ⟨[], ⟨.inl ⟨e', he⟩, fun _ => rfl, run_firstCells_none c.w size m m cap, run_firstCells_none c.w.drew size m m cap, by simpa using hl, fun _ h => by cases h⟩, trivial⟩
        | some ad => exact ⟨[], Src.ofSlice c.w he ad m cap [] (by simpa using hl) (fun j u hu => by simp at hu) (fun u hu => by cases hu), trivial⟩
      · obtain ⟨vs, q1, q2, q3⟩ := hc.vals
        refine ⟨vs, Src.ofSlice c.w he _ m cap vs (by rw [← q1.length]; exact hl) (fun j u hu => ?_) q3, q1⟩
        rw [addr_add, q2 j (by rw [q1.length]; exact (List.getElem?_eq_some_iff.1 hu).1)]
        exact hu
    · cases h
  · rename_i id off k esz
    split at h
    · rename_i hid
      split at h
      rotate_left
      · cases h
      rename_i hk0
      cases h
      obtain ⟨e', he⟩ := hkn (by rintro st h; cases h)
      simp only [SR, VR] at hx
      rcases hx with ⟨_, _, _, a, rfl⟩ | hx
      rotate_left
      · exact absurd hid hx.1
      cases a with
      | none => exact ⟨[], Src.ofNil c.w he 0, trivial⟩
      | some ad => exact ⟨[], Src.ofSlice c.w he ad 0 0 [] (by simp) (fun j u hu => by simp at hu) (fun u hu => by cases hu), trivial⟩
    rename_i hid0
    rw [Option.bind_eq_some_iff] at h
    obtain ⟨ob, hob, h⟩ := h
    cases ob with
    | map es => cases h
    | row t cs => cases h
    | cells cs =>
    simp only at h
    split at h
    · rename_i hh
      obtain ⟨rfl, hle⟩ := hh
      cases h
      obtain ⟨e', he⟩ := hkn (by rintro st h; cases h)
      simp only [SR, VR] at hx
      rcases hx with hx | ⟨_, hid, ad, cap, rfl, h1, h2, h3⟩
      · exact absurd hx.1 hid0
      rw [← f.h] at hob
      have hl : Live c.h id := ⟨f.rel.lt _ _ hob, by simp [hob]⟩
      obtain ⟨q, hp, hm, hc⟩ := f.rel.obj _ _ hob
      have hc2 := (hc.drop off).take (m * esz)
      have hlen : ((cs.drop off).take (m * esz)).length = m * esz := by simp; omega
      obtain ⟨vs, q1, q2, q3⟩ := hc2.vals
      rcases h3 hl with ⟨h5, h4⟩ | hcap
      · subst h5
        refine ⟨vs, Src.ofSlice c.w he _ m cap vs (by rw [← q1.length]; exact hlen) (fun j u hu => ?_) q3, q1⟩
        rw [addr_add, q2 j (by rw [q1.length]; exact (List.getElem?_eq_some_iff.1 hu).1)]
        exact hu
      · have hm0 : m = 0 := by omega
        subst hm0
        simp only [Nat.zero_mul, List.take_zero] at q1 ⊢
        cases ad with
        | none => simp at h2
        | some ad => exact ⟨[], Src.ofSlice c.w he ad 0 cap [] (by simp) (fun j u hu => by simp at hu) (fun u hu => by cases hu), trivial⟩
    · cases h
end
end Go.R

namespace Go.R
open Go
section
variable {P : Program} {L0 : Nat → Prop} {c0 : Cx} {n : Nat} {ds : List Nat} {o : Oper} {s : RS}
theorem grownCap_ge (w : World) {need old : Nat} {e : TypeId} : need ≤ grownCap w need old e := by
  unfold grownCap
  simp only [Question.cut]
  omega
theorem zeroCells_size (z : Array Value) (k : Nat) : (Builtin.zeroCells z k).size = k * z.size := by simp [Builtin.zeroCells]
theorem run_append_zero (w : World) {t tx ty e : TypeId} {i : TypeInfo} (ht : P.underlying t = some (.slice e)) (hi : P.info? e = some i) {base : Option Addr} {len cap : Nat} (hlc : len ≤ cap) {x : Value} {news : List Value} (hs : Src P i.size tx x 0 news w) :
    (Builtin.append_ #[t, tx] ty #[.slice base len cap, x]).run P w = .ok (.slice base len cap) w := by
  have hnews : news = [] := List.eq_nil_of_length_eq_zero (by rw [hs.newsLen]; simp)
  have hc := hs.cells
  rw [hnews] at hc
  rcases hs.kind with ⟨e', hk⟩ | hk <;> cases base <;> simp [Builtin.append_, run_underlying ht, run_underlying hk, sizeOf, typeInfo, hi, hs.len, hlc, hc, storeCells]
theorem frozen_plain {c : Cx} {b m : Nat} (hp : Plain c b m) {j : Nat} (hj : j < m) : c.w.frozen? ⟨b, j, none⟩ = false := by
  obtain ⟨C, e, lo, hi, hb, hf, rfl⟩ := hp
  simp only [World.frozen?, hb]
  rcases hf with hf | hf
  · subst hf; simp
  · simp; omega
theorem Fr.grown {c : Cx} {Lo : Nat → Prop} {lam : Nat → Nat} {a : Act} (f : Fr L0 c Lo lam ds s a) (hbs : c.base ≤ c.w.heap.size) {e : TypeId} {z : Value} {size need cap : Nat} (hzs : z.cells.size = size) (hcap : need ≤ cap) {xs : List AV} {vs : List Value} (hv : VRs c (un L0 Lo) xs vs) (h1 : ∀ v ∈ vs, v.oneCell' = true)
    (hl : vs.length = need * size) (h' : AHeap) (hg : h'.get c.h.next = some (.cells xs)) (hst : Steady c.h h') (hn : c.h.next < h'.next) (ho : ∀ id, id ≠ c.h.next → h'.get id = none ∨ h'.get id = c.h.get id) :
    ∃ c' : Cx, c'.w = c.w.drew.alloc (.cells (vs.toArray ++ Builtin.zeroCells z.cells (cap - need)) e) ∧ c'.h = h' ∧ Ext c Lo c' Lo ∧ Fr L0 c' Lo lam ds { s with h := h' } a ∧ VR c' (un L0 Lo) (.rs c.h.next 0 need size) (.slice (some ⟨c.w.heap.size, 0, none⟩) need cap) := by
  have hCs : (vs.toArray ++ Builtin.zeroCells z.cells (cap - need)).size = cap * size := by
    rw [Array.size_append, zeroCells_size, hzs, List.size_toArray, hl, ← Nat.add_mul]
    congr 1; omega
  have hxl := hv.length
  obtain ⟨β', e', f', hβ, hlive⟩ := f.freshK hbs c.w.drew ⟨rfl, rfl, rfl, rfl⟩ (.cells xs) (.cells (vs.toArray ++ Builtin.zeroCells z.cells (cap - need)) e) h' hg hst hn ho (fun c' e' hw => by
    refine ⟨_, plainS_new (w1 := c.w.drew) hw, ?_, cells_new (w1 := c.w.drew) hw (VRs.ext e' _ _ hv) (fun i hi => ?_) h1⟩
    · rw [hCs, Nat.zero_add, hxl, hl]; exact Nat.mul_le_mul_right _ hcap
    · rw [Array.getElem?_append_left (by simpa using hi)]; simp)
  refine ⟨_, rfl, rfl, e', f', ?_⟩
  simp only [VR]
  refine .inr ⟨(by have := f.rel.ver 0; omega), hlive.1, _, _, rfl, hcap, rfl, fun _ => .inl ?_⟩
  rw [hβ]
  refine ⟨rfl, ?_⟩
  have : (c.w.drew.alloc (.cells (vs.toArray ++ Builtin.zeroCells z.cells (cap - need)) e)).heap[c.w.heap.size]? = some (.cells (vs.toArray ++ Builtin.zeroCells z.cells (cap - need)) e) := alloc_new c.w.drew _
  simp only [Cx.len, World.shape?, this, Option.map_some, Option.getD_some, hCs]
  omega
theorem op_append (hb0 : c0.base ≤ c0.w.heap.size) (hd : DstOK n ds o) {t t2 : TypeId} {sx xx : Operand} (ho : o.op = .call { callee := .builtin .append, args := #[sx, xx], argTypes := #[t, t2] }) {s' : RS}
    (h : ((appendA P s.h t t2 (opnd s.ρ sx) (opnd s.ρ xx)).map fun (v, h) => { s with h }.set o.dst v) = some s') : OpOK P L0 c0 n ds o s s' := by
  rw [Option.map_eq_some_iff] at h
  obtain ⟨⟨y, h'⟩, ha, rfl⟩ := h
  unfold appendA at ha
  rw [Option.bind_eq_some_iff] at ha
  obtain ⟨d, hud, ha⟩ := ha
  cases d <;> simp only at ha <;> try (cases ha; done)
  rename_i e
  rw [Option.bind_eq_some_iff] at ha
  obtain ⟨i, hi, ha⟩ := ha
  rw [Option.bind_eq_some_iff] at ha
  obtain ⟨⟨new, m⟩, hcsC, ha⟩ := ha
  simp only at ha
  obtain ⟨new0, hcs, hnew⟩ : ∃ new0, cellsOfA s.h i.size (opnd s.ρ xx) = some (new0, m) ∧ new = new0.map canonC := by
    unfold cellsOfAC at hcsC
    rw [Option.map_eq_some_iff] at hcsC
    obtain ⟨⟨p, q⟩, h1, h2⟩ := hcsC
    simp only [Prod.mk.injEq] at h2
    obtain ⟨rfl, rfl⟩ := h2
    exact ⟨p, h1, rfl⟩
  split at ha
  · cases ha
  rename_i hcond
  have hsz0 : i.size ≠ 0 := fun h => hcond (.inl h)
  have hsrc : srcOK P t2 (opnd s.ρ xx) = true := by
    cases hq : srcOK P t2 (opnd s.ρ xx) with
    | true => rfl
    | false => exact absurd (.inr (.inl hq)) hcond
  obtain ⟨zv, z, hzv, hzo, hzl⟩ : ∃ zv z, i.zero = some zv ∧ ofV zv = some z ∧ z.cells.length = i.size := by
    have hz : zOK i = true := by
      cases hq : zOK i with
      | true => rfl
      | false => exact absurd (.inr (.inr hq)) hcond
    unfold zOK at hz
    cases hq : i.zero.bind ofV with
    | none => rw [hq] at hz; cases hz
    | some z =>
      rw [hq] at hz
      obtain ⟨zv, h1, h2⟩ := Option.bind_eq_some_iff.1 hq
      exact ⟨zv, z, h1, h2, by simpa using hz⟩
  have hzs : ∀ c L, zv.cells.size = i.size := fun (c : Cx) (L : Nat → Prop) => by
    have := (cells_VR (ofV_cellOK hzo) (ofV_VR (c := c) (L := L) hzo)).1.length
    rw [hzl] at this
    simpa using this.symm
  have hkk : (∃ e', P.underlying t2 = some (.slice e')) ∨ P.underlying t2 = some .string := by
    unfold srcOK at hsrc
    split at hsrc
    · right; revert hsrc; split <;> simp_all
    · left; revert hsrc; split <;> simp_all
  have hks : ∀ st, opnd s.ρ xx = .str st → P.underlying t2 = some .string := by
    intro st he
    rw [he] at hsrc
    simp only [srcOK] at hsrc
    revert hsrc; split <;> simp_all
  have hkn : (∀ st, opnd s.ρ xx ≠ .str st) → ∃ e', P.underlying t2 = some (.slice e') := by
    intro hne
    unfold srcOK at hsrc
    split at hsrc
    · rename_i st he; exact absurd he (hne st)
    · revert hsrc; split <;> simp_all
  rintro a w K Q ⟨hn, c, Lo, lam, rfl, f, e0⟩ hK
  have hbs := base_le e0 hb0
  obtain ⟨news, hS, hnv⟩ := src_cells (P := P) f (opnd_SR f xx) hkk hks hkn hcs
  replace hnv : VRs c (un L0 Lo) new news := hnew ▸ canonC_VRs hnv
  have hex : ∀ v w', (Builtin.append_ #[t, t2] o.type #[a.eval sx, a.eval xx]).run P c.w = .ok v w' → (execOp a.eval o).run P c.w = .ok (.value v) w' := by
    intro v w' hr
    unfold execOp
    simp only [ho, resolve, invoke, builtin, Sem.run_bind, Sem.run_pure, Result.andThen_ok, List.map_toArray, List.map_cons, List.map_nil, hr]
  have fin : ∀ c' v, (Builtin.append_ #[t, t2] o.type #[a.eval sx, a.eval xx]).run P c.w = .ok v c'.w → Ext c Lo c' Lo → Fr L0 c' Lo lam ds { s with h := h' } a → VR c' (un L0 Lo) y v → o.wp P a c.w K Q := by
    intro c' v hr e' f' hv
    unfold Oper.wp
    rw [hex v _ hr, Oper.upon_value]
    exact hK _ _ ⟨(put_size _ _ _).trans hn, c', Lo, lam, rfl, f'.set (SR.of hv) (fun t ht => by rw [hn]; exact hd t ht), e0.trans e'⟩
  have hsx := opnd_SR f sx
  have h63 : ∀ k : Nat, k ≤ roomA → (k : Int) ≤ 9223372036854775807 := fun k hk => by simp only [roomA] at hk; omega
  have hfit : ∀ need old, old < need → need * i.bytes ≤ roomA → Builtin.nextslicecap need old * i.bytes ≤ 281474976710656 := fun need old h1 h2 => growslice_fits h1 (by simp only [roomA] at h2; omega)
  have hnl := hnv.length
  have hone := hS.one
  have hnlen := hS.newsLen
  cases hq : opnd s.ρ sx with
  | nils =>
    rw [hq] at ha hsx
    simp only [SR, VR] at hsx
    obtain ⟨ad, hev, hadn⟩ : ∃ ad : Option Addr, a.eval sx = .slice ad 0 0 ∧ ad = none := ⟨none, hsx, rfl⟩
    simp only at ha
    split at ha
    · cases ha
    rename_i hroom
    split at ha
    · rename_i hm0
      subst hm0
      cases ha
      refine fin c (.slice ad 0 0) ?_ (Ext.refl _ _) f (by simp only [VR]; exact .inl ⟨trivial, trivial, trivial, ad, rfl⟩)
      rw [hev]
      exact run_append_zero c.w hud hi (Nat.le_refl _) hS
    · rename_i hm0
      cases ha
      have hold : (Builtin.firstCells i.size 0 (.slice ad 0 0)).run P c.w.drew = .ok ([] : List Value).toArray c.w.drew := by
        cases ad with
        | none => exact run_firstCells_none _ _ _ _ _
        | some ad => exact run_firstCells_some _ _ _ _ _ _ [] (by simp) (fun j v hj => by simp at hj)
      have hr := run_append_grow_src c.w t t2 o.type e i zv hud hi hzv ad 0 0 [] hold (a.eval xx) m news hS (by omega) (by rw [Nat.zero_add]; exact h63 _ (by omega)) (hfit _ _ (by omega) (by rw [Nat.zero_add]; omega))
      simp only [Nat.zero_add, List.nil_append] at hr
      obtain ⟨c', hw, hh, e', f', hv⟩ := f.grown hbs (e := e) (hzs c L0) (grownCap_ge c.w (need := m) (old := 0) (e := e)) hnv hone hnlen (s.h.alloc (.cells new)) (by rw [f.h]; simp [AHeap.alloc, AHeap.put, beq_nat]) (by rw [f.h]; exact Steady.put _ _ _) (by rw [f.h]; exact Nat.lt_succ_self _) (fun id hne => .inr (by rw [f.h] at hne ⊢; simp [AHeap.alloc, AHeap.put, beq_nat, hne]))
      refine fin c' _ ?_ e' f' (by rw [← f.h]; exact hv)
      rw [hev, hw]
      exact hr
  | fz cs len ex =>
    rw [hq] at ha hsx
    cases ex with
    | false => simp only at ha; cases ha
    | true =>
    simp only [SR, VR] at hsx
    obtain ⟨ad, cap, hev, h1, h2, hsm, hc⟩ := hsx
    have hcap := h2 trivial
    subst hcap
    simp only at ha
    split at ha
    · cases ha
    rename_i hroom
    split at ha
    · rename_i hm0
      subst hm0
      refine fin c (.slice ad cap cap) ?_ (Ext.refl _ _) (by split at ha <;> cases ha <;> exact f) ?_
      · rw [hev]
        exact run_append_zero c.w hud hi (Nat.le_refl _) hS
      · split at ha
        · rename_i hz
          cases ha
          subst hz
          simp only [VR]
          exact .inl ⟨trivial, trivial, trivial, ad, rfl⟩
        · cases ha
          simp only [VR]
          exact ⟨ad, cap, rfl, h1, h2, hsm, hc⟩
    · rename_i hm0
      cases ha
      have hcl : cs.length = cap * i.size := by
        by_cases h3 : cs.length = cap * i.size
        · exact h3
        · exact absurd (.inr (.inr h3)) hroom
      obtain ⟨olds, hov, hof, ho1⟩ : ∃ olds : List Value, VRs c (un L0 Lo) cs olds ∧ (Builtin.firstCells i.size cap (.slice ad cap cap)).run P c.w.drew = .ok olds.toArray c.w.drew ∧ ∀ v ∈ olds, v.oneCell' = true := by
        rcases hc with rfl | ⟨b, o', rfl, hr, hex2, hc⟩
        · refine ⟨[], trivial, ?_, fun _ h => by cases h⟩
          cases ad with
          | none => exact run_firstCells_none _ _ _ _ _
          | some ad => exact run_firstCells_some _ _ _ _ _ _ [] (by simpa using hcl) (fun j v hj => by simp at hj)
        · obtain ⟨vs, q1, q2, q3⟩ := hc.vals
          refine ⟨vs, q1, run_firstCells_some _ _ _ _ _ _ vs (by rw [← q1.length]; exact hcl) (fun j v hj => ?_), q3⟩
          rw [World.cell?_drew, addr_add, q2 j (by rw [q1.length]; exact (List.getElem?_eq_some_iff.1 hj).1)]
          exact hj
      have hol := hov.length
      have hr := run_append_grow_src c.w t t2 o.type e i zv hud hi hzv ad cap cap olds hof (a.eval xx) m news hS (by omega) (h63 _ (by omega)) (hfit _ _ (by omega) (by omega))
      obtain ⟨c', hw, hh, e', f', hv⟩ := f.grown hbs (e := e) (hzs c L0) (grownCap_ge c.w (need := cap + m) (old := cap) (e := e)) (VRs.append hov hnv) (fun v hv => (List.mem_append.1 hv).elim (ho1 v) (hone v)) (by rw [List.length_append, hnlen, ← hol, hcl, Nat.add_mul]) (s.h.alloc (.cells (cs ++ new))) (by rw [f.h]; simp [AHeap.alloc, AHeap.put, beq_nat]) (by rw [f.h]; exact Steady.put _ _ _) (by rw [f.h]; exact Nat.lt_succ_self _) (fun id hne => .inr (by rw [f.h] at hne ⊢; simp [AHeap.alloc, AHeap.put, beq_nat, hne]))
      refine fin c' _ ?_ e' f' (by rw [← f.h]; exact hv)
      rw [hev, hw]
      exact hr
  | rs id off len esz =>
    rw [hq] at ha hsx
    simp only [SR, VR] at hsx
    simp only at ha
    split at ha
    · rename_i hid
      rcases hsx with ⟨_, hoff, hlen0, ad, hev⟩ | hsx
      rotate_left
      · exact absurd hid hsx.1
      split at ha
      · cases ha
      rename_i hroom
      split at ha
      · rename_i hm0
        subst hm0
        cases ha
        refine fin c (.slice ad 0 0) ?_ (Ext.refl _ _) f (by simp only [VR]; exact .inl ⟨hid, hoff, hlen0, ad, rfl⟩)
        rw [hev]
        exact run_append_zero c.w hud hi (Nat.le_refl _) hS
      · rename_i hm0
        cases ha
        have hold : (Builtin.firstCells i.size 0 (.slice ad 0 0)).run P c.w.drew = .ok ([] : List Value).toArray c.w.drew := by
          cases ad with
          | none => exact run_firstCells_none _ _ _ _ _
          | some ad => exact run_firstCells_some _ _ _ _ _ _ [] (by simp) (fun j v hj => by simp at hj)
        have hr := run_append_grow_src c.w t t2 o.type e i zv hud hi hzv ad 0 0 [] hold (a.eval xx) m news hS (by omega) (by rw [Nat.zero_add]; exact h63 _ (by omega)) (hfit _ _ (by omega) (by rw [Nat.zero_add]; omega))
        simp only [Nat.zero_add, List.nil_append] at hr
        obtain ⟨c', hw, hh, e', f', hv⟩ := f.grown hbs (e := e) (hzs c L0) (grownCap_ge c.w (need := m) (old := 0) (e := e)) hnv hone hnlen (s.h.alloc (.cells new)) (by rw [f.h]; simp [AHeap.alloc, AHeap.put, beq_nat]) (by rw [f.h]; exact Steady.put _ _ _) (by rw [f.h]; exact Nat.lt_succ_self _) (fun id hne => .inr (by rw [f.h] at hne ⊢; simp [AHeap.alloc, AHeap.put, beq_nat, hne]))
        refine fin c' _ ?_ e' f' (by rw [← f.h]; exact hv)
        rw [hev, hw]
        exact hr
    rename_i hid0
    rcases hsx with hsx | ⟨_, hid, ad, cap, hev, h1, h2, h3⟩
    · exact absurd hsx.1 hid0
    simp only [Option.bind_eq_some_iff] at ha
    obtain ⟨ob, hob, ha⟩ := ha
    cases ob with
    | map es => cases ha
    | row t cs => cases ha
    | cells cs =>
    simp only at ha
    split at ha
    · cases ha
    rename_i hroom
    have hes : esz = i.size := Decidable.byContradiction fun h => hroom (.inl h)
    subst hes
    have hle : off + len * i.size ≤ cs.length := Decidable.byContradiction fun h => hroom (.inr (.inl (by omega)))
    rw [← f.h] at hob
    have hl : Live c.h id := ⟨f.rel.lt _ _ hob, by simp [hob]⟩
    obtain ⟨q, hp, hm, hc⟩ := f.rel.obj _ _ hob
    split at ha
    · rename_i hm0
      subst hm0
      cases ha
      refine fin c (.slice ad len cap) ?_ (Ext.refl _ _) f ?_
      · rw [hev]
        exact run_append_zero c.w hud hi h1 hS
      · simp only [VR]
        exact .inr ⟨hid0, hid, ad, cap, rfl, h1, h2, h3⟩
    · rename_i hm0
      cases ha
      have hc2 := (hc.drop off).take (len * i.size)
      have hlen2 : ((cs.drop off).take (len * i.size)).length = len * i.size := by simp; omega
      obtain ⟨olds, hov, hoc, ho1⟩ := hc2.vals
      have hol := hov.length
      have hget : ((s.h.kill id).put s.h.next (.cells ((cs.drop off).take (len * i.size) ++ new))).get c.h.next = some (.cells ((cs.drop off).take (len * i.size) ++ new)) := by rw [f.h]; simp [AHeap.put, beq_nat]
      have hnx : c.h.next < ((s.h.kill id).put s.h.next (.cells ((cs.drop off).take (len * i.size) ++ new))).next := by rw [f.h]; simp only [AHeap.put, AHeap.kill]; omega
      have hoth : ∀ id', id' ≠ c.h.next → ((s.h.kill id).put s.h.next (.cells ((cs.drop off).take (len * i.size) ++ new))).get id' = none ∨ ((s.h.kill id).put s.h.next (.cells ((cs.drop off).take (len * i.size) ++ new))).get id' = c.h.get id' := by
        intro id' hne
        rw [f.h] at hne ⊢
        by_cases h4 : id' = id
        · left; simp [AHeap.put, AHeap.kill, beq_nat, hne, h4]; rw [← h4]; simp [hne]
        · right; simp [AHeap.put, AHeap.kill, beq_nat, hne, h4]
      by_cases hfits : len + m ≤ cap
      · 
        rcases h3 hl with ⟨h4, h5⟩ | h4
        rotate_left
        · omega
        subst h4
        have hlenq : c.len (c.β id).1 = q := by
          obtain ⟨C, e', hb, hm2⟩ := hp
          simp [Cx.len, World.shape?, hb, hm2]
        rw [hlenq] at h5
        have hcapm : (len + m) * i.size ≤ cap * i.size := Nat.mul_le_mul_right _ hfits
        rw [Nat.add_mul] at hcapm
        have hpS := hp
        obtain ⟨C, e', hb, hm2⟩ := hp
        have hr := run_append_room_src c.w t t2 o.type e i hud hi (c.β id).1 ((c.β id).2 + off) len cap (a.eval xx) m news hS hfits
          (fun j hj => by
            rw [cell_of_block hb]
            have : (c.β id).2 + off + len * i.size + j < C.size := by omega
            simp [this])
          (fun j hj => frozen_plain hpS.toPlain (by omega))
        have hpl : PlainS c (c.β id).1 q := hpS
        obtain ⟨q1, q2, q3, q4⟩ := setCells_same news (c.β id).1 ((c.β id).2 + off + len * i.size) c.w
        obtain ⟨C', g1, g2, g3⟩ := setCells_row news (c.β id).1 ((c.β id).2 + off + len * i.size) c.w C e' (0, 0) hb (by omega)
        have := f.upd (w' := c.w.setCells (c.β id).1 ((c.β id).2 + off + len * i.size) news) (β' := fun k => if k = c.h.next then ((c.β id).1, (c.β id).2 + off) else c.β k) (h' := (s.h.kill id).put s.h.next (.cells ((cs.drop off).take (len * i.size) ++ new))) c.h.next (.cells ((cs.drop off).take (len * i.size) ++ new))
          (by rw [f.h]; exact (Steady.kill _ _).trans (Steady.put _ _ _)) hnx hget (fun id' hne => (hoth id' hne).imp (fun h => h) (fun h => ⟨h, by simp [hne]⟩)) (fun h => absurd h (Nat.lt_irrefl _))
          (.inr ⟨id, hl, by simp, .inr (by
            have : id ≠ s.h.next := by rw [← f.h]; have := hl.1; omega
            simp [AHeap.put, AHeap.kill, beq_nat, this])⟩)
          (fun _ => by simp [World.shape?, g1, Cx.len, hb, g2])
          (fun b _ hne => setCells_far _ _ _ _ _ (by simpa using hne)) (fun b _ hne => setCells_far _ _ _ _ _ (by simpa using hne)) (by rw [q1]; exact Nat.le_refl _) hbs q2 q3 q4
          (fun ee => by
            simp only [if_true]
            refine ⟨q, hpl.setCells (by omega) _ _ _, ?_, ?_⟩
            · rw [List.length_append, hlen2, hnl, hnlen]; omega
            · refine Cells.of_vals (VRs.append (VRs.ext ee _ _ hov) (VRs.ext ee _ _ hnv)) (fun j hj => ?_) (fun v hv => (List.mem_append.1 hv).elim (ho1 v) (hone v))
              rw [cell_of_block g1, g3]
              rw [List.length_append] at hj
              by_cases h6 : j < olds.length
              · rw [if_neg (by omega), ← cell_of_block hb, List.getElem?_append_left h6]
                exact hoc j (by omega)
              · rw [if_pos (by omega), List.getElem?_append_right (by omega)]
                congr 1
                omega)
        obtain ⟨e'', f''⟩ := this
        refine fin _ (.slice (some ⟨(c.β id).1, (c.β id).2 + off, none⟩) (len + m) cap) ?_ e'' f'' ?_
        · rw [hev]; exact hr
        · simp only [VR, ← f.h]
          refine .inr ⟨(by have := f.rel.ver 0; omega), by rw [← f.h] at hnx; exact hnx, _, _, rfl, hfits, rfl, fun _ => .inl ?_⟩
          simp only [if_true, Nat.add_zero, true_and]
          simp only [Cx.len, World.shape?, g1, Option.map_some, Option.getD_some, g2]
          omega
      · 
        obtain ⟨hof⟩ : Nonempty ((Builtin.firstCells i.size len (.slice ad len cap)).run P c.w.drew = .ok olds.toArray c.w.drew) := by
          rcases h3 hl with ⟨h4, h5⟩ | h4
          · subst h4
            refine ⟨run_firstCells_some _ _ _ _ _ _ olds (by rw [← hol, hlen2]) (fun j v hj => ?_)⟩
            rw [World.cell?_drew, addr_add, hoc j (by rw [hol]; exact (List.getElem?_eq_some_iff.1 hj).1)]
            exact hj
          · have hz : len = 0 := by omega
            subst hz
            have : olds = [] := List.eq_nil_of_length_eq_zero (by rw [← hol, hlen2]; simp)
            subst this
            cases ad with
            | none => exact ⟨run_firstCells_none _ _ _ _ _⟩
            | some ad => exact ⟨run_firstCells_some _ _ _ _ _ _ [] (by simp) (fun j v hj => by simp at hj)⟩
        have hr := run_append_grow_src c.w t t2 o.type e i zv hud hi hzv ad len cap olds hof (a.eval xx) m news hS (by omega) (h63 _ (by omega)) (hfit _ _ (by omega) (by omega))
        obtain ⟨c', hw, hh, e', f', hv⟩ := f.grown hbs (e := e) (hzs c L0) (grownCap_ge c.w (need := len + m) (old := cap) (e := e)) (VRs.append hov hnv) (fun v hv => (List.mem_append.1 hv).elim (ho1 v) (hone v)) (by rw [List.length_append, hnlen, ← hol, hlen2, Nat.add_mul]) _ hget (by rw [f.h]; exact (Steady.kill _ _).trans (Steady.put _ _ _)) hnx hoth
        refine fin c' _ ?_ e' f' (by rw [← f.h]; exact hv)
        rw [hev, hw]
        exact hr
  | _ => rw [hq] at ha; simp only at ha; cases ha
end
end Go.R

