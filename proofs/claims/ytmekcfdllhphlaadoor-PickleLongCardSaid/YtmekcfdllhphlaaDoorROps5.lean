/- Maps that turn; copy. -/
import Derived.Test.YtmekcfdllhphlaaDoorRApp3
import Derived.MapKept
import Derived.Laws.CopyRow
set_option linter.unusedVariables false
set_option linter.unusedSimpArgs false
namespace Go.R
open Go

section
variable {P : Program} {L0 : Nat → Prop} {c0 : Cx} {n : Nat} {ds : List Nat} {o : Oper} {s : RS}

theorem setAt_size (w : World) (b : Nat) (o : Obj) : ({ w with heap := w.heap.setIfInBounds b o } : World).heap.size = w.heap.size := by simp

theorem Fr.turnMap {c : Cx} {Lo : Nat → Prop} {lam : Nat → Nat} {a : Act} (f : Fr L0 c Lo lam ds s a) (hbs : c.base ≤ c.w.heap.size) {id : Nat} {es es' : List (AV × AV)} (ho : c.h.get id = some (.map es)) {ents ents' : Array MapEntry} {clock clock' : Nat}
    (hb : c.w.heap[(c.β id).1]? = some (.map ents clock)) (he : EntR c (un L0 Lo) es' ents'.toList) :
    Ext c Lo ⟨c.β, s.h.put id (.map es'), { c.w with heap := c.w.heap.setIfInBounds (c.β id).1 (.map ents' clock') }, c.base⟩ Lo ∧
      Fr L0 ⟨c.β, s.h.put id (.map es'), { c.w with heap := c.w.heap.setIfInBounds (c.β id).1 (.map ents' clock') }, c.base⟩ Lo lam ds { s with h := s.h.put id (.map es') } a := by
  have hl : Live c.h id := ⟨f.rel.lt _ _ ho, by simp [ho]⟩
  have hlt : (c.β id).1 < c.w.heap.size := (Array.getElem?_eq_some_iff.1 hb).1
  have hne : ∀ b, b ≠ (c.β id).1 → ({ c.w with heap := c.w.heap.setIfInBounds (c.β id).1 (.map ents' clock') } : World).heap[b]? = c.w.heap[b]? := by
    intro b hb
    simp only [Array.getElem?_setIfInBounds]
    rw [if_neg (Ne.symm hb)]
  rw [← f.h]
  refine f.upd (β' := c.β) (h' := c.h.put id (.map es')) id (.map es') (Steady.put _ _ _) (Nat.lt_succ_of_lt hl.1) (by simp [AHeap.put, beq_nat])
    (fun id' h1 => .inr ⟨by simp [AHeap.put, beq_nat, h1], rfl⟩) (fun _ => ⟨hl, rfl⟩) (.inr ⟨id, hl, rfl, .inl rfl⟩) (fun _ => ?_)
    (fun b _ h1 => hne b h1) (fun b _ h1 => hne b h1) (by simp) hbs rfl rfl rfl (fun e => ⟨ents', clock', by simp [hlt], he.ext e⟩)
  simp only [Cx.len, World.shape?, hb, Array.getElem?_setIfInBounds, hlt, if_true]

theorem sameShape_eq {x y : AV} (hs : sameShape x y = true) (hq : keyEq x y = true) : x = y := by
  cases x <;> cases y <;> simp only [sameShape] at hs <;> try (cases hs; done)
  · simp only [keyEq, keyEq1, Bool.and_eq_true, beq_iff_eq] at hq
    obtain ⟨rfl, rfl⟩ := hq
    rfl
  · rename_i a b
    simp only [keyEq, keyEq1, beq_iff_eq] at hq
    congr 1
    cases a; cases b
    congr 1
    exact Array.toList_inj.1 hq
  · rename_i xs ys
    simp only [Bool.and_eq_true, beq_iff_eq] at hs
    obtain ⟨⟨_, hx⟩, hy⟩ := hs
    obtain ⟨ns, rfl⟩ := intCells hx
    obtain ⟨ms, rfl⟩ := intCells hy
    simp only [keyEq, keyEqs_ints, decide_eq_true_eq] at hq
    rw [hq]

theorem intCells_conc : ∀ ns : List Int, conc1s (ns.map fun n => AV.int .i64 n) = some (ns.map fun n => Value.int .i64 n)
  | [] => rfl
  | n :: ns => by simp [conc1s, AV.conc1, intCells_conc ns]

theorem keyOK_conc {t : TypeId} {k : AV} (h : keyOK P t k = true) : ∃ u, k.conc = some u ∧ Instr.sameBits 10000 u u = true := by
  unfold keyOK at h
  have hagg : ∀ cs : List AV, cs.all intCell = true → ∃ u, (AV.agg cs).conc = some u ∧ Instr.sameBits 10000 u u = true := by
    intro cs hcs
    obtain ⟨ns, rfl⟩ := intCells hcs
    refine ⟨.agg (ns.map fun n => Value.int .i64 n).toArray, by simp [AV.conc, intCells_conc], ?_⟩
    simp only [Instr.sameBits, beq_self_eq_true, Bool.true_and, List.all_eq_true]
    intro p hp
    have : ∀ (l : List Value), (∀ v ∈ l, ∃ m, v = Value.int .i64 m) → ∀ p ∈ l.zip l, Instr.sameBits 9999 p.1 p.2 = true := by
      clear hp p
      intro l hl p hp
      have h1 : p.1 = p.2 ∧ p.1 ∈ l := by
        clear hl
        induction l with
        | nil => cases hp
        | cons v l ih =>
          simp only [List.zip_cons_cons, List.mem_cons] at hp
          rcases hp with rfl | hp
          · exact ⟨rfl, by simp⟩
          · obtain ⟨h1, h2⟩ := ih hp; exact ⟨h1, by simp [h2]⟩
      obtain ⟨h1, h2⟩ := h1
      obtain ⟨m, hm⟩ := hl _ h2
      rw [← h1, hm]
      simp [Instr.sameBits]
    exact this (ns.map fun n => Value.int .i64 n) (fun v hv => by obtain ⟨m, _, rfl⟩ := List.mem_map.1 hv; exact ⟨m, rfl⟩) p (by simpa using hp)
  split at h
  · exact ⟨_, rfl, by simp [Instr.sameBits]⟩
  · exact ⟨_, rfl, by simp [Instr.sameBits, beq_bytes]⟩
  · simp only [Bool.and_eq_true] at h; exact hagg _ h.1.1.2
  · simp only [Bool.and_eq_true] at h; exact hagg _ h.1.1.2
  · cases h

/-- An update, entry by entry. -/
theorem updA_place {c : Cx} {L : Nat → Prop} {k v : AV} {kv vv : Value} (hc : k.conc.isSome = true) (hk : VR c L k kv) (hv : VR c L v vv) :
    ∀ (es es' : List (AV × AV)) (ms : List MapEntry) (i : Nat), EntR c L es ms → updA k v es = some es' →
      findA k es ≠ none ∧ (place k es ms i = none ∧ (∀ b, EntR c L es' (ms ++ [{ key := kv, val := vv, born := b }])) ∨
        ∃ j u m, place k es ms i = some (i + j, u) ∧ ms[j]? = some m ∧ m.key = kv ∧ EntR c L es' (ms.modify j fun e => { e with key := kv, val := vv }))
  | [], es', [], i, _, h => by
    simp only [updA, Option.some.injEq] at h
    subst h
    exact ⟨by simp [findA], .inl ⟨rfl, fun b => ⟨⟨hk, hc⟩, hv, trivial⟩⟩⟩
  | (k', v') :: es, es', m :: ms, i, he, h => by
    obtain ⟨⟨hkr, hkc⟩, hvr, hes⟩ := he
    simp only [updA] at h
    split at h
    rotate_left
    · cases h
    rename_i hs
    split at h
    · rename_i hq
      cases h
      have hkk : k = k' := sameShape_eq hs hq
      obtain ⟨u, hu⟩ := Option.isSome_iff_exists.1 hc
      refine ⟨by simp [findA, hs, hq], .inr ⟨0, m.val, m, by simp [place, hq], rfl, ?_, ?_⟩⟩
      · subst hkk
        rw [conc_VR hu hk, conc_VR hu hkr]
      · exact ⟨⟨hk, hc⟩, hv, hes⟩
    · rename_i hq
      rw [Option.map_eq_some_iff] at h
      obtain ⟨es1, h1, rfl⟩ := h
      obtain ⟨h2, h3⟩ := updA_place hc hk hv es es1 ms (i + 1) hes h1
      refine ⟨by simp [findA, hs, hq, h2], ?_⟩
      have hq' : keyEq k k' = false := by simpa using hq
      rcases h3 with ⟨h3, h4⟩ | ⟨j, u, m', h3, h4, h5, h6⟩
      · exact .inl ⟨by simp [place, hq', h3], fun b => ⟨⟨hkr, hkc⟩, hvr, h4 b⟩⟩
      · exact .inr ⟨j + 1, u, m', by simp [place, hq', h3]; omega, by simpa using h4, h5, ⟨⟨hkr, hkc⟩, hvr, h6⟩⟩
  | [], _, _ :: _, _, h, _ => h.elim
  | _ :: _, _, [], _, h, _ => h.elim

theorem argOK_ne {x : AV} (h : x.argOK = true) : ∀ k off, x ≠ .lp k off := by rintro k off rfl; simp [AV.argOK] at h

theorem run_mapUpdate {c : Cx} {Lo : Nat → Prop} {lam : Nat → Nat} {a : Act} (f : Fr L0 c Lo lam ds s a) (hbs : c.base ≤ c.w.heap.size) {t : TypeId} {m k x : AV} {mv kv xv : Value} (hm : SR c L0 Lo lam s.bx m mv) (hk : SR c L0 Lo lam s.bx k kv) (hx : SR c L0 Lo lam s.bx x xv) {h' : AHeap}
    (h : mapUpdA P s.h t m k x = some h') : ∃ c', (Instr.mapUpdate t mv kv xv).run P c.w = .ok () c'.w ∧ Ext c Lo c' Lo ∧ Fr L0 c' Lo lam ds { s with h := h' } a := by
  unfold mapUpdA at h
  rw [Option.bind_eq_some_iff] at h
  obtain ⟨d, hd, h⟩ := h
  cases d <;> simp only at h <;> try (cases h; done)
  rename_i kt et
  split at h
  · cases h
  rename_i hcond
  obtain ⟨hkok, hargs⟩ : keyOK P kt k = true ∧ x.argOK = true := by
    cases h1 : keyOK P kt k <;> cases h2 : x.argOK <;> simp [h1, h2] at hcond ⊢
  have hkv : VR c (un L0 Lo) k kv := hk.vr (by rintro k0 off rfl; simp [keyOK] at hkok)
  have hxv := hx.vr (argOK_ne hargs)
  cases m <;> simp only at h <;> try (cases h; done)
  rename_i id
  rw [Option.bind_eq_some_iff] at h
  obtain ⟨ob, ho, h⟩ := h
  cases ob with
  | cells cs => cases h
  | row t cs => cases h
  | map es =>
  rw [Option.map_eq_some_iff] at h
  obtain ⟨es', hu, rfl⟩ := h
  simp only [SR, VR] at hm
  obtain ⟨hi, r, rfl, hr⟩ := hm
  rw [← f.h] at ho
  have hl : Live c.h id := ⟨f.rel.lt _ _ ho, by simp [ho]⟩
  have hrr := hr hl
  subst hrr
  obtain ⟨ents, clock, h1, h2⟩ := f.rel.obj _ _ ho
  obtain ⟨u0, hconc, hsb⟩ := keyOK_conc hkok
  obtain ⟨hf, hp⟩ := updA_place (by simp [hconc]) hkv hxv es es' ents.toList 0 h2 hu
  have hfk := run_findA hkok hkv c.w h2 hf
  have hck := run_checkKeyA (P := P) false 9998 hkok hkv c.w
  have hget : (getObj (c.β id).1).run P c.w = .ok (.map ents clock) c.w := MapKept.run_getObj_map h1
  rcases hp with ⟨hp, hent⟩ | ⟨j, u, m, hp, hj, hmk, hent⟩
  · obtain ⟨e', f'⟩ := f.turnMap hbs ho h1 (ents' := ents.push { key := kv, val := xv, born := clock }) (clock' := clock + 1) (es' := es') (by simpa using hent clock)
    refine ⟨_, ?_, e', f'⟩
    unfold Instr.mapUpdate
    rw [hp] at hfk
    simp only [Sem.run_bind, run_und hd, Result.andThen_ok, hget, hck, hfk]
    exact MapKept.run_setObj_map _ h1
  · obtain ⟨e', f'⟩ := f.turnMap hbs ho h1 (ents' := ents.modify j fun e => { e with key := kv, val := xv }) (clock' := clock) (es' := es') (by simpa using hent)
    refine ⟨_, ?_, e', f'⟩
    unfold Instr.mapUpdate
    rw [hp, Nat.zero_add] at hfk
    have hj' : ents[j]? = some m := by simpa using hj
    have hkt : (Instr.keyThatStays m.key kv).run P c.w = .ok kv c.w := by
      rw [hmk]
      unfold Instr.keyThatStays
      rw [conc_VR hconc hkv, hsb]
      rfl
    simp only [Sem.run_bind, run_und hd, Result.andThen_ok, hget, hck, hfk, hj', Option.map_some, Option.getD_some, hkt]
    exact MapKept.run_setObj_map _ h1

theorem op_mapUpdate (hb0 : c0.base ≤ c0.w.heap.size) {t : TypeId} {m k x : Operand} (ho : o.op = .mapUpdate t m k x ∨ o.op = .insert t m k x) (hdst : o.dst = none) {h' : AHeap}
    (h : mapUpdA P s.h t (opnd s.ρ m) (opnd s.ρ k) (opnd s.ρ x) = some h') : OpOK P L0 c0 n ds o s { s with h := h' } := by
  rintro a w K Q ⟨hn, c, Lo, lam, rfl, f, e⟩ hK
  obtain ⟨c', hr, e', f'⟩ := run_mapUpdate f (base_le e hb0) (opnd_SR f m) (opnd_SR f k) (opnd_SR f x) h
  unfold Oper.wp
  have : (execOp a.eval o).run P c.w = .ok .skip c'.w := by rcases ho with ho | ho <;> simp [execOp, ho, hr]
  rw [this, Oper.upon_skip]
  have hput : a.put o.dst undef = a := by rw [hdst]; rfl
  rw [hput]
  exact hK _ _ ⟨hn, c', Lo, lam, rfl, f', e.trans e'⟩

/-- 'clear' of a map. -/
theorem op_clear (hb0 : c0.base ≤ c0.w.heap.size) (hd : DstOK n ds o) {t : TypeId} {x : Operand} (ho : o.op = .call { callee := .builtin .clear, args := #[x], argTypes := #[t] }) {h' : AHeap}
    (h : clearA P s.h t (opnd s.ρ x) = some h') : OpOK P L0 c0 n ds o s ({ s with h := h' }.set o.dst (.tup [])) := by
  rintro a w K Q ⟨hn, c, Lo, lam, rfl, f, e⟩ hK
  unfold clearA at h
  rw [Option.bind_eq_some_iff] at h
  obtain ⟨d, hund, h⟩ := h
  have hx := opnd_SR f x
  have fin : ∀ c', (Builtin.clear_ #[t] o.type #[a.eval x]).run P c.w = .ok (.tuple #[]) c'.w → Ext c Lo c' Lo → Fr L0 c' Lo lam ds { s with h := h' } a → o.wp P a c.w K Q := by
    intro c' hr e' f'
    unfold Oper.wp
    have : (execOp a.eval o).run P c.w = .ok (.value (.tuple #[])) c'.w := by
      simp [execOp, ho, resolve, invoke, builtin, hr]
    rw [this, Oper.upon_value]
    exact hK _ _ ⟨(put_size _ _ _).trans hn, c', Lo, lam, rfl, f'.set (SR.of (by simp [VR, VRs])) (fun t ht => by rw [hn]; exact hd t ht), e.trans e'⟩
  cases hxx : opnd s.ρ x <;> rw [hxx] at h hx <;> simp only at h <;> try (cases h; done)
  · cases h
    simp only [SR, VR] at hx
    refine fin c ?_ (Ext.refl _ _) f
    simp [Builtin.clear_, run_und hund, hx]
  · rename_i id
    rw [Option.bind_eq_some_iff] at h
    obtain ⟨ob, ho, h⟩ := h
    cases ob with
    | cells cs => cases h
    | row t cs => cases h
    | map es =>
    cases h
    simp only [SR, VR] at hx
    obtain ⟨hi, r, hxe, hr⟩ := hx
    rw [← f.h] at ho
    have hl : Live c.h id := ⟨f.rel.lt _ _ ho, by simp [ho]⟩
    have hrr := hr hl
    subst hrr
    obtain ⟨ents, clock, h1, h2⟩ := f.rel.obj _ _ ho
    obtain ⟨e', f'⟩ := f.turnMap (base_le e hb0) ho h1 (ents' := #[]) (clock' := clock) (es' := []) trivial
    refine fin _ ?_ e' f'
    have hget : (getObj (c.β id).1).run P c.w = .ok (.map ents clock) c.w := MapKept.run_getObj_map h1
    have hset := MapKept.run_setObj_map (P := P) (.map #[] clock) h1
    simp [Builtin.clear_, run_und hund, hxe, hget, hset]
end
end Go.R
