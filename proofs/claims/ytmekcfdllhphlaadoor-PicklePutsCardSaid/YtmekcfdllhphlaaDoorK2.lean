/- Part of the proof: ROps5, ROps6, ROps7, ROpAll, RFrz, RCode, RLocal. -/
import Derived.Test.YtmekcfdllhphlaaDoorK1
import Derived.MapKept
import Derived.Laws.CopyRow
import Derived.Laws.BytesArg
import Derived.Laws.IdiomStrings
import Derived.Tactics
set_option linter.unusedVariables false
set_option linter.unusedSimpArgs false
set_option maxRecDepth 100000
namespace Go.R
open Go
section
variable {P : Program} {L0 : Nat → Prop} {c0 : Cx} {n : Nat} {ds : List Nat} {o : Oper} {s : RS}
theorem Fr.turnMap {c : Cx} {Lo : Nat → Prop} {lam : Nat → Nat} {a : Act} (f : Fr L0 c Lo lam ds s a) (hbs : c.base ≤ c.w.heap.size) {id : Nat} {es es' : List (AV × AV)} (ho : c.h.get id = some (.map es)) {ents ents' : Array MapEntry} {clock clock' : Nat}
    (hb : c.w.heap[(c.β id).1]? = some (.map ents clock)) (he : EntR c (un L0 Lo) es' ents'.toList) :
    Ext c Lo ⟨c.β, s.h.put id (.map es'), { c.w with heap := c.w.heap.setIfInBounds (c.β id).1 (.map ents' clock') }, c.base⟩ Lo ∧
      Fr L0 ⟨c.β, s.h.put id (.map es'), { c.w with heap := c.w.heap.setIfInBounds (c.β id).1 (.map ents' clock') }, c.base⟩ Lo lam ds { s with h := s.h.put id (.map es') } a := by
  have hl : Live c.h id := ⟨f.rel.lt _ _ ho, by simp [ho]⟩
  have hlt : (c.β id).1 < c.w.heap.size := (Array.getElem?_eq_some_iff.1 hb).1
  have hne : ∀ b, b ≠ (c.β id).1 → ({ c.w with heap := c.w.heap.setIfInBounds (c.β id).1 (.map ents' clock') } : World).heap[b]? = c.w.heap[b]? := by
    intro b hb
    simp only [Array.getElem?_setIfInBounds]
    rw [if_neg (Ne.symm hb)]
  rw [← f.h]
  refine f.upd (β' := c.β) (h' := c.h.put id (.map es')) id (.map es') (Steady.put _ _ _) (Nat.lt_succ_of_lt hl.1) (by simp [AHeap.put, beq_nat])
    (fun id' h1 => .inr ⟨by simp [AHeap.put, beq_nat, h1], rfl⟩) (fun _ => ⟨hl, rfl⟩) (.inr ⟨id, hl, rfl, .inl rfl⟩) (fun _ => ?_)
    (fun b _ h1 => hne b h1) (fun b _ h1 => hne b h1) (by simp) hbs rfl rfl rfl (fun e => ⟨ents', clock', by simp [hlt], he.ext e⟩)
  simp only [Cx.len, World.shape?, hb, Array.getElem?_setIfInBounds, hlt, if_true]
theorem sameShape_eq {x y : AV} (hs : sameShape x y = true) (hq : keyEq x y = true) : x = y := by
  cases x <;> cases y <;> simp only [sameShape] at hs <;> try (cases hs; done)
  · simp only [keyEq, keyEq1, Bool.and_eq_true, beq_iff_eq] at hq
    obtain ⟨rfl, rfl⟩ := hq
    rfl
  · rename_i a b
    simp only [keyEq, keyEq1, beq_iff_eq] at hq
    congr 1
    cases a; cases b
    congr 1
    exact Array.toList_inj.1 hq
  · rename_i xs ys
    simp only [Bool.and_eq_true, beq_iff_eq] at hs
    obtain ⟨⟨_, hx⟩, hy⟩ := hs
    obtain ⟨ns, rfl⟩ := intCells hx
    obtain ⟨ms, rfl⟩ := intCells hy
    simp only [keyEq, keyEqs_ints, decide_eq_true_eq] at hq
    rw [hq]
theorem intCells_conc : ∀ ns : List Int, conc1s (ns.map fun n => AV.int .i64 n) = some (ns.map fun n => Value.int .i64 n)
  | [] => rfl
  | n :: ns => by simp [conc1s, AV.conc1, intCells_conc ns]
theorem keyOK_conc {t : TypeId} {k : AV} (h : keyOK P t k = true) : ∃ u, k.conc = some u ∧ Instr.sameBits 10000 u u = true := by
  unfold keyOK at h
  have hagg : ∀ cs : List AV, cs.all intCell = true → ∃ u, (AV.agg cs).conc = some u ∧ Instr.sameBits 10000 u u = true := by
    intro cs hcs
    obtain ⟨ns, rfl⟩ := intCells hcs
    refine ⟨.agg (ns.map fun n => Value.int .i64 n).toArray, by simp [AV.conc, intCells_conc], ?_⟩
    simp only [Instr.sameBits, beq_self_eq_true, Bool.true_and, List.all_eq_true]
    intro p hp
    have : ∀ (l : List Value), (∀ v ∈ l, ∃ m, v = Value.int .i64 m) → ∀ p ∈ l.zip l, Instr.sameBits 9999 p.1 p.2 = true := by
      clear hp p
      intro l hl p hp
      have h1 : p.1 = p.2 ∧ p.1 ∈ l := by
        clear hl
        induction l with
        | nil => cases hp
        | cons v l ih =>
          simp only [List.zip_cons_cons, List.mem_cons] at hp
          rcases hp with rfl | hp
          · exact ⟨rfl, by simp⟩
          · obtain ⟨h1, h2⟩ := ih hp; exact ⟨h1, by simp [h2]⟩
      obtain ⟨h1, h2⟩ := h1
      obtain ⟨m, hm⟩ := hl _ h2
      rw [← h1, hm]
      simp [Instr.sameBits]
    exact this (ns.map fun n => Value.int .i64 n) (fun v hv => by obtain ⟨m, _, rfl⟩ := List.mem_map.1 hv; exact ⟨m, rfl⟩) p (by simpa using hp)
  split at h
  · exact ⟨_, rfl, by simp [Instr.sameBits]⟩
  · exact ⟨_, rfl, by simp [Instr.sameBits, beq_bytes]⟩
  · simp only [Bool.and_eq_true] at h; exact hagg _ h.1.1.2
  · simp only [Bool.and_eq_true] at h; exact hagg _ h.1.1.2
  · cases h
theorem updA_place {c : Cx} {L : Nat → Prop} {k v : AV} {kv vv : Value} (hc : k.conc.isSome = true) (hk : VR c L k kv) (hv : VR c L v vv) :
    ∀ (es es' : List (AV × AV)) (ms : List MapEntry) (i : Nat), EntR c L es ms → updA k v es = some es' →
      findA k es ≠ none ∧ (place k es ms i = none ∧ (∀ b, EntR c L es' (ms ++ [{ key := kv, val := vv, born := b }])) ∨
        ∃ j u m, place k es ms i = some (i + j, u) ∧ ms[j]? = some m ∧ m.key = kv ∧ EntR c L es' (ms.modify j fun e => { e with key := kv, val := vv }))
  | [], es', [], i, _, h => by
    simp only [updA, Option.some.injEq] at h
    subst h
    exact ⟨by simp [findA], .inl ⟨rfl, fun b => ⟨⟨hk, hc⟩, hv, trivial⟩⟩⟩
  | (k', v') :: es, es', m :: ms, i, he, h => by
    obtain ⟨⟨hkr, hkc⟩, hvr, hes⟩ := he
    simp only [updA] at h
    split at h
    rotate_left
    · cases h
    rename_i hs
    split at h
    · rename_i hq
      cases h
      have hkk : k = k' := sameShape_eq hs hq
      obtain ⟨u, hu⟩ := Option.isSome_iff_exists.1 hc
      refine ⟨by simp [findA, hs, hq], .inr ⟨0, m.val, m, by simp [place, hq], rfl, ?_, ?_⟩⟩
      · subst hkk
        rw [conc_VR hu hk, conc_VR hu hkr]
      · exact ⟨⟨hk, hc⟩, hv, hes⟩
    · rename_i hq
      rw [Option.map_eq_some_iff] at h
      obtain ⟨es1, h1, rfl⟩ := h
      obtain ⟨h2, h3⟩ := updA_place hc hk hv es es1 ms (i + 1) hes h1
      refine ⟨by simp [findA, hs, hq, h2], ?_⟩
      have hq' : keyEq k k' = false := by simpa using hq
      rcases h3 with ⟨h3, h4⟩ | ⟨j, u, m', h3, h4, h5, h6⟩
      · exact .inl ⟨by simp [place, hq', h3], fun b => ⟨⟨hkr, hkc⟩, hvr, h4 b⟩⟩
      · exact .inr ⟨j + 1, u, m', by simp [place, hq', h3]; omega, by simpa using h4, h5, ⟨⟨hkr, hkc⟩, hvr, h6⟩⟩
  | [], _, _ :: _, _, h, _ => h.elim
  | _ :: _, _, [], _, h, _ => h.elim
theorem argOK_ne {x : AV} (h : x.argOK = true) : ∀ k off, x ≠ .lp k off := by rintro k off rfl; simp [AV.argOK] at h
theorem run_mapUpdate {c : Cx} {Lo : Nat → Prop} {lam : Nat → Nat} {a : Act} (f : Fr L0 c Lo lam ds s a) (hbs : c.base ≤ c.w.heap.size) {t : TypeId} {m k x : AV} {mv kv xv : Value} (hm : SR c L0 Lo lam s.bx m mv) (hk : SR c L0 Lo lam s.bx k kv) (hx : SR c L0 Lo lam s.bx x xv) {h' : AHeap}
    (h : mapUpdA P s.h t m k x = some h') : ∃ c', (Instr.mapUpdate t mv kv xv).run P c.w = .ok () c'.w ∧ Ext c Lo c' Lo ∧ Fr L0 c' Lo lam ds { s with h := h' } a := by
  unfold mapUpdA at h
  rw [Option.bind_eq_some_iff] at h
  obtain ⟨d, hd, h⟩ := h
  cases d <;> simp only at h <;> try (cases h; done)
  rename_i kt et
  split at h
  · cases h
  rename_i hcond
  obtain ⟨hkok, hargs⟩ : keyOK P kt k = true ∧ x.argOK = true := by
    cases h1 : keyOK P kt k <;> cases h2 : x.argOK <;> simp [h1, h2] at hcond ⊢
  have hkv : VR c (un L0 Lo) k kv := hk.vr (by rintro k0 off rfl; simp [keyOK] at hkok)
  have hxv := hx.vr (argOK_ne hargs)
  cases m <;> simp only at h <;> try (cases h; done)
  rename_i id
  rw [Option.bind_eq_some_iff] at h
  obtain ⟨ob, ho, h⟩ := h
  cases ob with
  | cells cs => cases h
  | row t cs => cases h
  | map es =>
  rw [Option.map_eq_some_iff] at h
  obtain ⟨es', hu, rfl⟩ := h
  simp only [SR, VR] at hm
  obtain ⟨hi, r, rfl, hr⟩ := hm
  rw [← f.h] at ho
  have hl : Live c.h id := ⟨f.rel.lt _ _ ho, by simp [ho]⟩
  have hrr := hr hl
  subst hrr
  obtain ⟨ents, clock, h1, h2⟩ := f.rel.obj _ _ ho
  obtain ⟨u0, hconc, hsb⟩ := keyOK_conc hkok
  obtain ⟨hf, hp⟩ := updA_place (by simp [hconc]) hkv hxv es es' ents.toList 0 h2 hu
  have hfk := run_findA hkok hkv c.w h2 hf
  have hck := run_checkKeyA (P := P) false 9998 hkok hkv c.w
  have hget : (getObj (c.β id).1).run P c.w = .ok (.map ents clock) c.w := MapKept.run_getObj_map h1
  rcases hp with ⟨hp, hent⟩ | ⟨j, u, m, hp, hj, hmk, hent⟩
  · obtain ⟨e', f'⟩ := f.turnMap hbs ho h1 (ents' := ents.push { key := kv, val := xv, born := clock }) (clock' := clock + 1) (es' := es') (by simpa using hent clock)
    refine ⟨_, ?_, e', f'⟩
    unfold Instr.mapUpdate
    rw [hp] at hfk
    simp only [Sem.run_bind, run_und hd, Result.andThen_ok, hget, hck, hfk]
    exact MapKept.run_setObj_map _ h1
  · obtain ⟨e', f'⟩ := f.turnMap hbs ho h1 (ents' := ents.modify j fun e => { e with key := kv, val := xv }) (clock' := clock) (es' := es') (by simpa using hent)
    refine ⟨_, ?_, e', f'⟩
    unfold Instr.mapUpdate
    rw [hp, Nat.zero_add] at hfk
    have hj' : ents[j]? = some m := by simpa using hj
    have hkt : (Instr.keyThatStays m.key kv).run P c.w = .ok kv c.w := by
      rw [hmk]
      unfold Instr.keyThatStays
      rw [conc_VR hconc hkv, hsb]
      rfl
    simp only [Sem.run_bind, run_und hd, Result.andThen_ok, hget, hck, hfk, hj', Option.map_some, Option.getD_some, hkt]
    exact MapKept.run_setObj_map _ h1
theorem op_mapUpdate (hb0 : c0.base ≤ c0.w.heap.size) {t : TypeId} {m k x : Operand} (ho : o.op = .mapUpdate t m k x ∨ o.op = .insert t m k x) (hdst : o.dst = none) {h' : AHeap}
    (h : mapUpdA P s.h t (opnd s.ρ m) (opnd s.ρ k) (opnd s.ρ x) = some h') : OpOK P L0 c0 n ds o s { s with h := h' } := by
  rintro a w K Q ⟨hn, c, Lo, lam, rfl, f, e⟩ hK
  obtain ⟨c', hr, e', f'⟩ := run_mapUpdate f (base_le e hb0) (opnd_SR f m) (opnd_SR f k) (opnd_SR f x) h
  unfold Oper.wp
  have : (execOp a.eval o).run P c.w = .ok .skip c'.w := by rcases ho with ho | ho <;> simp [execOp, ho, hr]
  rw [this, Oper.upon_skip]
  have hput : a.put o.dst undef = a := by rw [hdst]; rfl
  rw [hput]
  exact hK _ _ ⟨hn, c', Lo, lam, rfl, f', e.trans e'⟩
theorem op_clear (hb0 : c0.base ≤ c0.w.heap.size) (hd : DstOK n ds o) {t : TypeId} {x : Operand} (ho : o.op = .call { callee := .builtin .clear, args := #[x], argTypes := #[t] }) {h' : AHeap}
    (h : clearA P s.h t (opnd s.ρ x) = some h') : OpOK P L0 c0 n ds o s ({ s with h := h' }.set o.dst (.tup [])) := by
  rintro a w K Q ⟨hn, c, Lo, lam, rfl, f, e⟩ hK
  unfold clearA at h
  rw [Option.bind_eq_some_iff] at h
  obtain ⟨d, hund, h⟩ := h
  have hx := opnd_SR f x
  have fin : ∀ c', (Builtin.clear_ #[t] o.type #[a.eval x]).run P c.w = .ok (.tuple #[]) c'.w → Ext c Lo c' Lo → Fr L0 c' Lo lam ds { s with h := h' } a → o.wp P a c.w K Q := by
    intro c' hr e' f'
    unfold Oper.wp
    have : (execOp a.eval o).run P c.w = .ok (.value (.tuple #[])) c'.w := by
      simp [execOp, ho, resolve, invoke, builtin, hr]
    rw [this, Oper.upon_value]
    exact hK _ _ ⟨(put_size _ _ _).trans hn, c', Lo, lam, rfl, f'.set (SR.of (by simp [VR, VRs])) (fun t ht => by rw [hn]; exact hd t ht), e.trans e'⟩
  cases hxx : opnd s.ρ x <;> rw [hxx] at h hx <;> simp only at h <;> try (cases h; done)
  · cases h
    simp only [SR, VR] at hx
    refine fin c ?_ (Ext.refl _ _) f
    simp [Builtin.clear_, run_und hund, hx]
  · rename_i id
    rw [Option.bind_eq_some_iff] at h
    obtain ⟨ob, ho, h⟩ := h
    cases ob with
    | cells cs => cases h
    | row t cs => cases h
    | map es =>
    cases h
    simp only [SR, VR] at hx
    obtain ⟨hi, r, hxe, hr⟩ := hx
    rw [← f.h] at ho
    have hl : Live c.h id := ⟨f.rel.lt _ _ ho, by simp [ho]⟩
    have hrr := hr hl
    subst hrr
    obtain ⟨ents, clock, h1, h2⟩ := f.rel.obj _ _ ho
    obtain ⟨e', f'⟩ := f.turnMap (base_le e hb0) ho h1 (ents' := #[]) (clock' := clock) (es' := []) trivial
    refine fin _ ?_ e' f'
    have hget : (getObj (c.β id).1).run P c.w = .ok (.map ents clock) c.w := MapKept.run_getObj_map h1
    have hset := MapKept.run_setObj_map (P := P) (.map #[] clock) h1
    simp [Builtin.clear_, run_und hund, hxe, hget, hset]
end
end Go.R

namespace Go.R
open Go
section
variable {P : Program} {L0 : Nat → Prop} {c0 : Cx} {n : Nat} {ds : List Nat} {o : Oper} {s : RS}
theorem run_copySrc {w : World} {t t2 ty e : TypeId} {i : TypeInfo} (ht : P.underlying t = some (.slice e)) (hi : P.info? e = some i) {base : Option Addr} {len cap : Nat} {x : Value} {news : List Value} {m : Nat} (hs : Src P i.size t2 x m news w) (hm : m ≤ len) :
    (Builtin.copy_ #[t, t2] ty #[.slice base len cap, x]).run P w = match base with | none => .ok (goInt m) w | some a => ((storeCells a news).run P w).andThen fun _ w' => .ok (goInt m) w' := by
  have hmin : Nat.min m len = m := Nat.min_eq_left hm
  have hlen := hs.len w
  have hc := hs.cells
  have hsz : (sizeOf e).run P w = .ok i.size w := by simp [sizeOf, typeInfo, hi]
  unfold Builtin.copy_
  cases base with
  | none => simp [run_und ht, hlen, hmin, hsz, hc]
  | some a => simp [run_und ht, hlen, hmin, hsz, hc, Sem.run_bind]
theorem op_copy (hb0 : c0.base ≤ c0.w.heap.size) (hd : DstOK n ds o) {t t2 : TypeId} {dx sx : Operand} (ho : o.op = .call { callee := .builtin .copy, args := #[dx, sx], argTypes := #[t, t2] }) {y : AV} {h' : AHeap}
    (h : copyA P s.h t t2 (opnd s.ρ dx) (opnd s.ρ sx) = some (y, h')) : OpOK P L0 c0 n ds o s ({ s with h := h' }.set o.dst y) := by
  rintro a w K Q ⟨hn, c, Lo, lam, rfl, f, e0⟩ hK
  have hbs := base_le e0 hb0
  unfold copyA at h
  rw [Option.bind_eq_some_iff] at h
  obtain ⟨d, hund, h⟩ := h
  cases d <;> simp only at h <;> try (cases h; done)
  rename_i e
  rw [Option.bind_eq_some_iff] at h
  obtain ⟨i, hi, h⟩ := h
  rw [Option.bind_eq_some_iff] at h
  obtain ⟨⟨new, m⟩, hcs, h⟩ := h
  simp only at h
  split at h
  · cases h
  rename_i hsrc
  have hsrc : srcOK P t2 (opnd s.ρ sx) = true := by simpa using hsrc
  have hk1 : ∀ st, opnd s.ρ sx = .str st → P.underlying t2 = some .string := by
    intro st hst
    rw [hst] at hsrc
    unfold srcOK at hsrc
    simp only at hsrc
    split at hsrc
    · assumption
    · cases hsrc
  have hk2 : (∀ st, opnd s.ρ sx ≠ .str st) → ∃ e', P.underlying t2 = some (.slice e') := by
    intro hne
    unfold srcOK at hsrc
    split at hsrc
    · rename_i st hst; exact absurd hst (hne st)
    · split at hsrc
      · rename_i e' he; exact ⟨e', he⟩
      · cases hsrc
  have hk : (∃ e', P.underlying t2 = some (.slice e')) ∨ P.underlying t2 = some .string := by
    by_cases hst : ∃ st, opnd s.ρ sx = .str st
    · obtain ⟨st, hst⟩ := hst; exact .inr (hk1 st hst)
    · exact .inl (hk2 fun st hst' => hst ⟨st, hst'⟩)
  obtain ⟨news, hS, hv⟩ := src_cells f (opnd_SR f sx) hk hk1 hk2 hcs
  have hdx := opnd_SR f dx
  have fin : ∀ c', (Builtin.copy_ #[t, t2] o.type #[a.eval dx, a.eval sx]).run P c.w = .ok (goInt m) c'.w → Ext c Lo c' Lo → Fr L0 c' Lo lam ds { s with h := h' } a → y = .int .i64 m → o.wp P a c.w K Q := by
    intro c' hr e' f' hy
    unfold Oper.wp
    have : (execOp a.eval o).run P c.w = .ok (.value (goInt m)) c'.w := by
      simp [execOp, ho, resolve, invoke, builtin, hr]
    rw [this, Oper.upon_value]
    exact hK _ _ ⟨(put_size _ _ _).trans hn, c', Lo, lam, rfl, f'.set (SR.of (by subst hy; simp [VR, goInt])) (fun t ht => by rw [hn]; exact hd t ht), e0.trans e'⟩
  cases hxx : opnd s.ρ dx <;> rw [hxx] at h hdx <;> simp only at h <;> try (cases h; done)
  · split at h
    rotate_left
    · cases h
    rename_i hm0
    cases h
    simp only [SR, VR] at hdx
    obtain ⟨ad, hdx⟩ : ∃ ad : Option Addr, a.eval dx = .slice ad 0 0 := ⟨none, hdx⟩
    refine fin c ?_ (Ext.refl _ _) f (by rw [hm0]; rfl)
    rw [hdx, run_copySrc hund hi hS (by omega)]
    cases ad with
    | none => rfl
    | some ad =>
      have : news = [] := List.eq_nil_of_length_eq_zero (by rw [hS.newsLen, hm0]; simp)
      subst this
      rfl
  · rename_i id off len esz
    split at h
    · rename_i hid
      split at h
      rotate_left
      · cases h
      rename_i hm0
      cases h
      simp only [SR, VR] at hdx
      rcases hdx with ⟨_, _, _, ad, hdx⟩ | hdx
      rotate_left
      · exact absurd hid hdx.1
      refine fin c ?_ (Ext.refl _ _) f (by rw [hm0]; rfl)
      rw [hdx, run_copySrc hund hi hS (by omega)]
      cases ad with
      | none => rfl
      | some ad =>
        have : news = [] := List.eq_nil_of_length_eq_zero (by rw [hS.newsLen, hm0]; simp)
        subst this
        rfl
    rename_i hid0
    rw [Option.bind_eq_some_iff] at h
    obtain ⟨ob, hob, h⟩ := h
    cases ob with
    | map es => cases h
    | row t cs => cases h
    | cells cs =>
    simp only at h
    split at h
    rotate_left
    · cases h
    rename_i hh
    obtain ⟨hesz, hml, hoff⟩ := hh
    cases h
    simp only [SR, VR] at hdx
    rcases hdx with hdx | ⟨_, hid, ad, cap, hdx, hlc, hsome, hlive⟩
    · exact absurd hdx.1 hid0
    rw [← f.h] at hob
    have hl : Live c.h id := ⟨f.rel.lt _ _ hob, by simp [hob]⟩
    obtain ⟨q, hp, hq, hc⟩ := f.rel.obj _ _ hob
    have hnl := hS.newsLen
    have hvl := hv.length
    have hr := run_copySrc (ty := o.type) hund hi hS hml (base := ad) (cap := cap)
    by_cases ha : ad = some ⟨(c.β id).1, (c.β id).2 + off, none⟩
    · subst ha
      simp only at hr
      have hst := run_storePlain (P := P) hp.toPlain (base := (c.β id).2) (off := off) (vs := news) (by omega) hS.one
      rw [hst] at hr
      simp only [Result.andThen_ok] at hr
      obtain ⟨q1, q2, q3, q4⟩ := setCells_same news (c.β id).1 ((c.β id).2 + off) c.w
      have hpl : PlainS c (c.β id).1 q := hp
      obtain ⟨C, e'', hb, hm2⟩ := hp
      obtain ⟨C', g1, g2, g3⟩ := setCells_row news (c.β id).1 ((c.β id).2 + off) c.w C e'' (0, 0) hb (by omega)
      obtain ⟨e', f'⟩ := f.upd (w' := c.w.setCells (c.β id).1 ((c.β id).2 + off) news) (β' := c.β) (h' := s.h.put id (.cells (splice cs off new))) id (.cells (splice cs off new))
        (by rw [f.h]; exact Steady.put _ _ _) (by rw [← f.h]; exact Nat.lt_succ_of_lt hl.1) (by simp [AHeap.put, beq_nat]) (fun id' h1 => .inr ⟨by rw [f.h]; simp [AHeap.put, beq_nat, h1], rfl⟩) (fun _ => ⟨hl, rfl⟩) (.inr ⟨id, hl, rfl, .inl rfl⟩)
        (fun _ => by simp only [Cx.len, World.shape?, g1, hb, Option.map_some, Option.getD_some, g2])
        (fun b _ hne => setCells_far _ _ _ _ _ hne) (fun b _ hne => setCells_far _ _ _ _ _ hne) (by rw [q1]; exact Nat.le_refl _) hbs q2 q3 q4
        (fun ee => ⟨q, hpl.setCells (by omega) _ _ _, by rw [splice_length]; exact hq, cells_setCells hpl.toPlain hc hv hS.one (by omega) (by omega) ee rfl⟩)
      refine fin _ ?_ e' f' rfl
      rw [hdx]
      exact hr
    · have hz : new = [] ∧ m = 0 ∧ news = [] := by
        rcases hlive hl with ⟨h1, _⟩ | h1
        · exact absurd h1 ha
        · have h0 : m = 0 := by omega
          have h2 : news = [] := List.eq_nil_of_length_eq_zero (by rw [hnl, h0]; simp)
          subst h2
          exact ⟨List.eq_nil_of_length_eq_zero (by simpa using hvl), h0, rfl⟩
      obtain ⟨rfl, rfl, rfl⟩ := hz
      have hcell : splice cs off [] = cs := by simp [splice]
      rw [hcell] at *
      obtain ⟨e', f'⟩ := f.upd (w' := c.w) (β' := c.β) (h' := s.h.put id (.cells cs)) id (.cells cs)
        (by rw [f.h]; exact Steady.put _ _ _) (by rw [← f.h]; exact Nat.lt_succ_of_lt hl.1) (by simp [AHeap.put, beq_nat]) (fun id' h1 => .inr ⟨by rw [f.h]; simp [AHeap.put, beq_nat, h1], rfl⟩) (fun _ => ⟨hl, rfl⟩) (.inr ⟨id, hl, rfl, .inl rfl⟩)
        (fun _ => rfl) (fun b _ hne => rfl) (fun b _ hne => rfl) (Nat.le_refl _) hbs rfl rfl rfl
        (fun ee => ObjR.ext ee ⟨q, hp, hq, hc⟩ rfl)
      refine fin _ ?_ e' f' rfl
      rw [hdx, hr]
      cases ad <;> rfl
end
end Go.R

namespace Go.R
open Go
section
variable {P : Program} {L0 : Nat → Prop} {c0 : Cx} {n : Nat} {ds : List Nat} {o : Oper} {s : RS}
theorem isU8_spec {e : TypeId} (h : isU8 P e = true) : P.underlying e = some (.int .u8) ∧ szOf P e = some 1 := by
  unfold isU8 at h
  simp only [Bool.and_eq_true, beq_iff_eq] at h
  obtain ⟨h1, h2⟩ := h
  refine ⟨?_, h2⟩
  split at h1
  · assumption
  · cases h1
theorem u8s_VRs {c : Cx} {L : Nat → Prop} : ∀ {cs : List AV} {l : List UInt8} {vs : List Value}, u8s cs = some l → VRs c L cs vs → ∃ xs : List Int, vs = xs.map (Value.int .u8) ∧ l = xs.map fun n => UInt8.ofNat n.toNat
  | [], l, [], h, _ => by simp only [u8s, Option.some.injEq] at h; subst h; exact ⟨[], rfl, rfl⟩
  | x :: cs, l, v :: vs, h, hv => by
    unfold u8s at h
    split at h
    · rename_i heq; cases heq
    · rename_i n xs heq
      cases heq
      rw [Option.map_eq_some_iff] at h
      obtain ⟨l', h1, rfl⟩ := h
      obtain ⟨ys, rfl, rfl⟩ := u8s_VRs h1 hv.2
      have h2 := hv.1
      simp only [VR] at h2
      subst h2
      exact ⟨n :: ys, rfl, rfl⟩
    · cases h
  | [], _, _ :: _, _, h => h.elim
  | _ :: _, _, [], _, h => h.elim
theorem strOfNums_eq (xs : List Int) : strOfNums xs = ⟨(xs.map fun n => UInt8.ofNat n.toNat).toArray⟩ := rfl
theorem run_bytesOf {w : World} {src dst e : TypeId} {v : Value} {m : Nat} {xs : List Int} (hs : P.underlying src = some (.slice e)) (he : P.underlying e = some (.int .u8)) (hd : P.underlying dst = some .string)
    (hS : Src P 1 src v m (xs.map (Value.int .u8)) w) (hv : ∃ a cap, v = .slice a m cap) : (convert src dst v).run P w = .ok (.string (strOfNums xs)) w := by
  obtain ⟨a, cap, rfl⟩ := hv
  have hc := hS.cells
  have hl := hS.newsLen
  cases a with
  | none =>
    have : xs = [] := by
      simp [Builtin.firstCells] at hc
      cases xs with
      | nil => rfl
      | cons x xs => simp at hc
    subst this
    exact run_convert_bytes_nil w src e hs he m cap dst hd
  | some a =>
    rw [run_convert_bytes_string w src dst e (some a) m cap hs he hd]
    have h1 : (loadCells a m).run P w = .ok (xs.map (Value.int .u8)).toArray w := by simpa [Builtin.firstCells] using hc
    rw [run_bytesToString w a m cap xs h1, foldl_push_bytes]
    simp [strOfNums, ByteArray.empty, ByteArray.emptyWithCapacity]
    rfl
theorem cellsOf_slice {c : Cx} {Lo : Nat → Prop} {lam : Nat → Nat} {x : AV} {v : Value} {h : AHeap} {size m : Nat} {new : List AV} (hx : SR c L0 Lo lam s.bx x v) (hc : cellsOfA h size x = some (new, m)) (hne : ∀ st, x ≠ .str st) : ∃ a cap, v = .slice a m cap := by
  unfold cellsOfA at hc
  cases x <;> simp only at hc <;> try (cases hc; done)
  · exact absurd rfl (hne _)
  · cases hc
    simp only [SR, VR] at hx
    subst hx
    exact ⟨none, 0, rfl⟩
  · split at hc
    · cases hc
      simp only [SR, VR] at hx
      obtain ⟨a, cap, rfl, _⟩ := hx
      exact ⟨a, cap, rfl⟩
    · cases hc
  · split at hc
    · split at hc
      · cases hc
        simp only [SR, VR] at hx
        rename_i hid _
        rcases hx with ⟨_, _, _, a, rfl⟩ | hx
        · exact ⟨a, 0, rfl⟩
        · exact absurd hid hx.1
      · cases hc
    rename_i hid0
    rw [Option.bind_eq_some_iff] at hc
    obtain ⟨ob, _, hc⟩ := hc
    cases ob with
    | map es => cases hc
    | row t cs => cases hc
    | cells cs =>
      simp only at hc
      split at hc
      · cases hc
        simp only [SR, VR] at hx
        rcases hx with hx | ⟨_, _, a, cap, rfl, _⟩
        · exact absurd hx.1 hid0
        exact ⟨a, cap, rfl⟩
      · cases hc
theorem bytes_VRs {c : Cx} {L : Nat → Prop} : ∀ l : List UInt8, VRs c L (l.map fun b => AV.int .u8 b.toNat) (l.map fun b => Value.int .u8 b.toNat)
  | [] => trivial
  | b :: l => ⟨by simp [VR], bytes_VRs l⟩
theorem keeps_freeze {w : World} {b o k : Nat} {C : Array Value} {e : TypeId} {fr : Nat × Nat} (hb : w.heap[b]? = some (.cells C e fr)) (ho : C.size ≤ o) (hk : k ≠ 0) :
    (∀ b', Keeps w (w.freeze ⟨b, o, none⟩ k) b') ∧ (∀ b', b' ≠ b → (w.freeze ⟨b, o, none⟩ k).heap[b']? = w.heap[b']?) ∧ (w.freeze ⟨b, o, none⟩ k).heap.size = w.heap.size ∧ (w.freeze ⟨b, o, none⟩ k).os = w.os ∧ (w.freeze ⟨b, o, none⟩ k).tape = w.tape ∧ (w.freeze ⟨b, o, none⟩ k).output = w.output := by
  unfold World.freeze
  rw [if_neg hk]
  have hlt := (Array.getElem?_eq_some_iff.1 hb).1
  refine ⟨fun b' => ?_, fun b' hne => by simp [Array.getElem?_modify, Ne.symm hne], by simp, rfl, rfl, rfl⟩
  by_cases hne : b' = b
  · subst hne
    obtain ⟨lo, hi⟩ := fr
    refine .inr ⟨C, e, lo, hi, (if lo == hi then (o, o + k) else (min lo o, max hi (o + k))).1, (if lo == hi then (o, o + k) else (min lo o, max hi (o + k))).2, hb, ?_, ?_⟩
    · simp [Array.getElem?_modify, hb]
    · intro h
      by_cases hlh : lo = hi
      · subst hlh; right; simpa using ho
      · have : (lo == hi) = false := by simpa using hlh
        right
        simp only [this, Bool.false_eq_true, if_false]
        rcases h with h | h
        · exact absurd h hlh
        · exact Nat.le_min.2 ⟨h, ho⟩
  · exact .inl (by simp [Array.getElem?_modify, Ne.symm hne])
theorem op_convert (hb0 : c0.base ≤ c0.w.heap.size) (hd : DstOK n ds o) {src dst : TypeId} {x : Operand} (ho : o.op = .convert src dst x) {y : AV} (h : convertA P s.h src dst (opnd s.ρ x) = some y) : OpOK P L0 c0 n ds o s (s.set o.dst y) := by
  have hex : ∀ (a : Act) (w w' : World) v, (convert src dst (a.eval x)).run P w = .ok v w' → (execOp a.eval o).run P w = .ok (.value v) w' := by
    intro a w w' v hr; simp [execOp, ho, hr]
  unfold convertA at h
  split at h
  · rename_i e hs hdd
    split at h
    rotate_left
    · cases h
    rename_i hu
    obtain ⟨he, hsz⟩ := isU8_spec hu
    rw [Option.bind_eq_some_iff] at h
    obtain ⟨⟨cs, m⟩, hcs, h⟩ := h
    rw [Option.map_eq_some_iff] at h
    obtain ⟨l, hl, rfl⟩ := h
    by_cases hst : ∃ st, opnd s.ρ x = .str st
    · 
      obtain ⟨st, hst⟩ := hst
      refine op_val hd fun a c Lo lam f hn => ?_
      have hx := opnd_SR f x
      rw [hst] at hx hcs
      simp only [SR, VR] at hx
      simp only [cellsOfA, if_true, Option.some.injEq, Prod.mk.injEq] at hcs
      obtain ⟨rfl, rfl⟩ := hcs
      refine ⟨_, hex _ _ _ (.string st) ?_, ?_⟩
      · simp [convert, run_underlying hs, run_underlying hdd, hx]
      · have : ∀ (l0 l1 : List UInt8), u8s (l0.map fun b => AV.int .u8 b.toNat) = some l1 → l1 = l0 := by
          intro l0
          induction l0 with
          | nil => intro l1 h; simp [u8s] at h; exact h
          | cons b l0 ih =>
            intro l1 h
            simp only [List.map_cons, u8s, Option.map_eq_some_iff] at h
            obtain ⟨l2, h2, rfl⟩ := h
            rw [ih l2 h2]
            simp
        rw [this _ _ hl]
        simp [SR, VR]
    · refine op_val hd fun a c Lo lam f hn => ?_
      have hne : ∀ st, opnd s.ρ x ≠ .str st := fun st h => hst ⟨st, h⟩
      have hx := opnd_SR f x
      obtain ⟨news, hS, hv⟩ := src_cells f hx (.inl ⟨e, hs⟩) (fun st h => absurd h (hne st)) (fun _ => ⟨e, hs⟩) hcs
      obtain ⟨xs, rfl, rfl⟩ := u8s_VRs hl hv
      exact ⟨_, hex _ _ _ _ (run_bytesOf hs he hdd hS (cellsOf_slice hx hcs hne)), by simp [SR, VR, strOfNums_eq]⟩
  · rename_i e hs hdd
    cases hxx : opnd s.ρ x <;> rw [hxx] at h <;> simp only at h <;> try (cases h; done)
    rename_i st
    split at h
    rotate_left
    · cases h
    rename_i hu
    obtain ⟨he, hsz⟩ := isU8_spec hu
    cases h
    refine op_world hb0 hd (fun a c Lo lam f hn hbs => ?_) (by rintro k off h; cases h)
    have hx := opnd_SR f x
    rw [hxx] at hx
    simp only [SR, VR] at hx
    have hr := run_bytes_of_string c.w src dst e st hs hdd he
    rw [← hx] at hr
    refine ⟨_, _, hex _ _ _ _ hr, fun b hb => .inl (alloc_old c.w.drew _ (show b < c.w.heap.size from hb)), fun id hl => alloc_old c.w.drew _ (show (c.β id).1 < c.w.heap.size from f.rel.block hl), fun b hb => alloc_old c.w.drew _ (show b < c.w.heap.size by omega), by show c.w.heap.size ≤ (c.w.heap.push _).size; simp, rfl, rfl, rfl, fun e' => ?_⟩
    simp only [VR]
    refine ⟨_, _, rfl, grownCap_ge c.w, by simp, .inl rfl, ?_⟩
    refine .inr ⟨c.w.heap.size, 0, rfl, RO_new f.rel rfl rfl, by simp, ?_⟩
    refine Cells.of_vals (bytes_VRs st.data.toList) (fun i hi => ?_) (fun v hv => by obtain ⟨b, _, rfl⟩ := List.mem_map.1 hv; rfl)
    have hi' : i < st.data.size := by simpa using hi
    have : (World.alloc c.w.drew (.cells (bytesRow st (grownCap c.w st.size 0 e)) e ((bytesRow st (grownCap c.w st.size 0 e)).size, (bytesRow st (grownCap c.w st.size 0 e)).size + 1))).heap[c.w.heap.size]? = some (.cells (bytesRow st (grownCap c.w st.size 0 e)) e ((bytesRow st (grownCap c.w st.size 0 e)).size, (bytesRow st (grownCap c.w st.size 0 e)).size + 1)) := alloc_new c.w.drew _
    rw [cell_of_block this]
    simp [bytesRow, Array.getElem?_append, hi']
    intro hge
    have : st.size = st.data.size := rfl
    omega
  · rename_i e0 e hs hdd
    cases hxx : opnd s.ρ x <;> rw [hxx] at h <;> try (cases h; done)
    rename_i cs m ex
    cases ex
    · cases h
    simp only at h
    split at h
    rotate_left
    · cases h
    rename_i hu
    simp only [Bool.and_eq_true, beq_iff_eq, decide_eq_true_eq] at hu
    obtain ⟨⟨hsd, hu⟩, hpos⟩ := hu
    subst hsd
    obtain ⟨he, hsz⟩ := isU8_spec hu
    cases h
    refine op_world hb0 hd (fun a c Lo lam f hn hbs => ?_) (by rintro k off h; cases h)
    have hx := opnd_SR f x
    rw [hxx] at hx
    have hx' := hx.vr (by rintro k off h; cases h)
    simp only [SR, VR] at hx
    obtain ⟨ad, cap, hxe, h1, h2, _, h3⟩ := hx
    rcases h3 with rfl | ⟨b, off, rfl, hro, hbb, hc⟩
    · simp at hpos
    have hlt : b < c.w.heap.size := by
      cases cs with
      | nil => simp at hpos
      | cons x cs => exact cells_size hc
    have hcell : ∃ C e' fr, c.w.heap[b]? = some (.cells C e' fr) := by
      cases cs with
      | nil => simp at hpos
      | cons x cs =>
        obtain ⟨⟨v, hv, _⟩, _⟩ := hc
        unfold World.cell? at hv
        split at hv
        · exact ⟨_, _, _, by assumption⟩
        · cases hv
    obtain ⟨C, e', fr, hb⟩ := hcell
    obtain ⟨k1, k2, k3, k4, k5, k6⟩ := keeps_freeze (k := 1) hb (Nat.le_refl C.size) (by decide)
    refine ⟨c.w.freeze ⟨b, C.size, none⟩ 1, a.eval x, hex _ _ _ _ ?_, fun b' _ => k1 b', fun id hl => k2 _ (hro.1 id hl), fun b' hb' => k2 b' (by have := hbb trivial; omega), by rw [k3]; exact Nat.le_refl _, k4, k5, k6, fun e'' => VR.ext e'' _ _ hx'⟩
    rw [hxe]
    have hsh : c.w.shape? b = some (e', C.size) := by simp [World.shape?, hb]
    simp [convert, run_underlying hdd, run_underlying he, markStringish, hsh]
  · rw [Option.bind_eq_some_iff] at h
    obtain ⟨v, hv, h⟩ := h
    rw [Option.bind_eq_some_iff] at h
    obtain ⟨r, hr, h⟩ := h
    refine op_val hd fun a c Lo lam f hn => ?_
    have hx := conc1_VR hv ((opnd_SR f x).vr (conc1_ne hv))
    exact ⟨r, hex _ _ _ _ (by rw [hx]; exact pureRun_run _ hr), SR.of (ofV1_VR h)⟩
theorem run_eqGuard_conc {op : BinOp} {t : TypeId} {x y : Operand} {u v : Value} (h : (∀ a b, u ≠ .agg a ∨ v ≠ .agg b) ∧ u ≠ .nilIface) (w : World) : (eqGuard op t x y u v).run P w = .ok () w := by
  obtain ⟨h1, h2⟩ := h
  unfold eqGuard
  cases op <;> first | rfl | skip
  all_goals
    simp only [Bool.not_true, Bool.false_eq_true, if_false]
    split
    · exact absurd rfl h2
    · rename_i a b; rcases h1 a b with h3 | h3 <;> exact absurd rfl h3
    · rfl
theorem conc1_flat {x : AV} {u : Value} (h : x.conc1 = some u) : (∀ a, u ≠ .agg a) ∧ u ≠ .nilIface := by
  unfold AV.conc1 at h
  split at h <;> first | (cases h; done) | (cases h; exact ⟨fun _ => (by simp), (by simp)⟩)
theorem run_strOp {op : BinOp} {a b : ByteArray} {y : AV} (h : strOpA op a b = some y) (w : World) : ∃ r, (Op.stringOp op a b).run P w = .ok r w ∧ ∀ (c : Cx) (L : Nat → Prop), VR c L y r := by
  have hl : ∀ z : ByteArray, z.toList = z.data.toList := fun z => ByteArray.toList_eq z
  unfold strOpA at h
  unfold Op.stringOp
  simp only [hl]
  cases op <;> simp only at h <;> try (cases h; done)
  · split at h
    rotate_left
    · cases h
    rename_i hsz
    cases h
    refine ⟨.string (a ++ b), ?_, fun c L => by simp only [VR]⟩
    have h1 : ¬ (((a.size + b.size : Nat) : Int) > IntKind.i64.max) := by
      have : IntKind.i64.max = 9223372036854775807 := by decide
      rw [this]; omega
    simp only [h1, if_false]
    rfl
  all_goals (cases h; exact ⟨_, rfl, fun c L => by simp only [VR]⟩)
theorem eqOp_spec {op : BinOp} {pol : Bool} (h : eqOp op = some pol) : (op = .eql ∧ pol = true) ∨ (op = .neq ∧ pol = false) := by
  unfold eqOp at h
  split at h <;> cases h
  · exact .inl ⟨rfl, rfl⟩
  · exact .inr ⟨rfl, rfl⟩
theorem run_ptrNil {t : TypeId} (ht : ∃ q, P.underlying t = some (.pointer q)) {a : Addr} {op : BinOp} {pol : Bool} (h : eqOp op = some pol) (w : World) :
    (binOp op t (.pointer (some a)) (.pointer none)).run P w = .ok (.bool (!pol)) w ∧ (binOp op t (.pointer none) (.pointer (some a))).run P w = .ok (.bool (!pol)) w := by
  obtain ⟨q, hq⟩ := ht
  have e1 : (Op.equal t (.pointer (some a)) (.pointer none)).run P w = .ok false w := by
    unfold Op.equal Op.maxDepth
    unfold Op.equalIn
    simp [run_und hq]
  have e2 : (Op.equal t (.pointer none) (.pointer (some a))).run P w = .ok false w := by
    unfold Op.equal Op.maxDepth
    unfold Op.equalIn
    simp [run_und hq]
  rcases eqOp_spec h with ⟨rfl, rfl⟩ | ⟨rfl, rfl⟩
  · constructor
    · show ((do pure (.bool (← Op.equal t (.pointer (some a)) (.pointer none)))) : Sem Value).run P w = _
      simp [e1]
    · show ((do pure (.bool (← Op.equal t (.pointer none) (.pointer (some a))))) : Sem Value).run P w = _
      simp [e2]
  · constructor
    · show ((do pure (.bool (!(← Op.equal t (.pointer (some a)) (.pointer none))))) : Sem Value).run P w = _
      simp [e1]
    · show ((do pure (.bool (!(← Op.equal t (.pointer none) (.pointer (some a)))))) : Sem Value).run P w = _
      simp [e2]
theorem run_sliceNil {t : TypeId} (ht : ∃ q, P.underlying t = some (.slice q)) {ad : Option Addr} (hs : ad.isSome = true) {m cap : Nat} {op : BinOp} {pol : Bool} (h : eqOp op = some pol) (w : World) :
    (binOp op t (.slice ad m cap) (.slice none 0 0)).run P w = .ok (.bool (!pol)) w := by
  obtain ⟨q, hq⟩ := ht
  obtain ⟨a, rfl⟩ := Option.isSome_iff_exists.1 hs
  have e1 : (Op.equal t (.slice (some a) m cap) (.slice none 0 0)).run P w = .ok false w := by
    unfold Op.equal Op.maxDepth
    unfold Op.equalIn
    simp [run_und hq]
  rcases eqOp_spec h with ⟨rfl, rfl⟩ | ⟨rfl, rfl⟩
  · show ((do pure (.bool (← Op.equal t (.slice (some a) m cap) (.slice none 0 0)))) : Sem Value).run P w = _
    simp [e1]
  · show ((do pure (.bool (!(← Op.equal t (.slice (some a) m cap) (.slice none 0 0))))) : Sem Value).run P w = _
    simp [e1]
theorem op_binOp (hd : DstOK n ds o) {op : BinOp} {t t2 : TypeId} {x y : Operand} (ho : o.op = .binOp op t x y t2) {z : AV} (h : binOpA P op t (opnd s.ρ x) (opnd s.ρ y) = some z) : OpOK P L0 c0 n ds o s (s.set o.dst z) := by
  refine op_val hd fun a c Lo lam f hn => ?_
  have hx := opnd_SR f x
  have hy := opnd_SR f y
  have hex : ∀ v, (eqGuard op t x y (a.eval x) (a.eval y)).run P c.w = .ok () c.w → (binOp op t (a.eval x) (a.eval y)).run P c.w = .ok v c.w → (execOp a.eval o).run P c.w = .ok (.value v) c.w := by
    intro v h1 h2; simp [execOp, ho, h1, h2]
  unfold binOpA at h
  split at h
  · rename_i p q hp hq
    rw [hp] at hx; rw [hq] at hy
    simp only [SR, VR] at hx hy
    obtain ⟨r, hr, hv⟩ := run_strOp (P := P) h c.w
    refine ⟨r, hex _ (run_eqGuard_conc ⟨fun _ _ => .inl (by rw [hx]; simp), by rw [hx]; simp⟩ _) ?_, SR.of (hv _ _)⟩
    rw [hx, hy]
    unfold binOp
    simpa using hr
  · rename_i p q hp hq
    rw [hp] at hx; rw [hq] at hy
    simp only [SR, VR] at hx hy
    obtain ⟨_, ad, hxe, _⟩ := hx
    rw [Option.bind_eq_some_iff] at h
    obtain ⟨pol, hpol, h⟩ := h
    split at h
    rotate_left
    · cases h
    rename_i ht
    cases h
    refine ⟨.bool (!pol), hex _ (run_eqGuard_conc ⟨fun _ _ => .inl (by rw [hxe]; simp), by rw [hxe]; simp⟩ _) ?_, SR.of (by simp [VR])⟩
    rw [hxe, hy]
    exact (run_ptrNil ⟨_, ht⟩ hpol _).1
  · rename_i p q hp hq
    rw [hp] at hx; rw [hq] at hy
    simp only [SR, VR] at hx hy
    obtain ⟨_, ad, hye, _⟩ := hy
    rw [Option.bind_eq_some_iff] at h
    obtain ⟨pol, hpol, h⟩ := h
    split at h
    rotate_left
    · cases h
    rename_i ht
    cases h
    refine ⟨.bool (!pol), hex _ (run_eqGuard_conc ⟨fun _ _ => .inl (by rw [hx]; simp), by rw [hx]; simp⟩ _) ?_, SR.of (by simp [VR])⟩
    rw [hx, hye]
    exact (run_ptrNil ⟨_, ht⟩ hpol _).2
  · rename_i p q hp hq
    rw [hp] at hx; rw [hq] at hy
    simp only [SR, VR] at hx hy
    obtain ⟨b, off, hxe, _⟩ := hx
    rw [Option.bind_eq_some_iff] at h
    obtain ⟨pol, hpol, h⟩ := h
    split at h
    rotate_left
    · cases h
    rename_i ht
    cases h
    refine ⟨.bool (!pol), hex _ (run_eqGuard_conc ⟨fun _ _ => .inl (by rw [hxe]; simp), by rw [hxe]; simp⟩ _) ?_, SR.of (by simp [VR])⟩
    rw [hxe, hy]
    exact (run_ptrNil ⟨_, ht⟩ hpol _).1
  · rename_i hp hq
    rw [hp] at hx; rw [hq] at hy
    simp only [SR, VR] at hx hy
    obtain ⟨ad, cap, hxe, _, _, hs, _⟩ := hx
    replace hs : ad.isSome = true := hs.elim id fun h => by cases h.1
    rw [Option.bind_eq_some_iff] at h
    obtain ⟨pol, hpol, h⟩ := h
    split at h
    rotate_left
    · cases h
    rename_i ht
    cases h
    refine ⟨.bool (!pol), hex _ (run_eqGuard_conc ⟨fun _ _ => .inl (by rw [hxe]; simp), by rw [hxe]; simp⟩ _) ?_, SR.of (by simp [VR])⟩
    rw [hxe, hy]
    exact run_sliceNil ⟨_, ht⟩ hs hpol _
  · rename_i hp hq
    rw [hp] at hx; rw [hq] at hy
    simp only [SR, VR] at hx hy
    rcases hx with ⟨hx, _⟩ | ⟨_, _, ad, cap, hxe, _, hs, _⟩
    · omega
    rw [Option.bind_eq_some_iff] at h
    obtain ⟨pol, hpol, h⟩ := h
    split at h
    rotate_left
    · cases h
    rename_i ht
    cases h
    refine ⟨.bool (!pol), hex _ (run_eqGuard_conc ⟨fun _ _ => .inl (by rw [hxe]; simp), by rw [hxe]; simp⟩ _) ?_, SR.of (by simp [VR])⟩
    rw [hxe, hy]
    exact run_sliceNil ⟨_, ht⟩ hs hpol _
  · rename_i p q hp hq
    rw [hp, hq] at h
    rw [hp] at hx; rw [hq] at hy
    have hx' := hx.vr (by rintro k off h; cases h)
    have hy' := hy.vr (by rintro k off h; cases h)
    rw [Option.bind_eq_some_iff] at h
    obtain ⟨pol, hpol, h⟩ := h
    split at h
    rotate_left
    · cases h
    rename_i hcond
    simp only [Bool.and_eq_true, Bool.not_eq_true'] at hcond
    obtain ⟨⟨⟨h1, h2⟩, h3⟩, h4⟩ := hcond
    cases h
    have hk := run_keyEq (P := P) 9998 h1 h3 hx' hy' c.w
    simp only [VR] at hx' hy'
    obtain ⟨vx, hxe, _⟩ := hx'
    obtain ⟨vy, hye, _⟩ := hy'
    refine ⟨.bool (keyEq (.agg p) (.agg q) == pol), hex _ ?_ ?_, SR.of (by simp only [VR])⟩
    · rw [hxe, hye]
      rcases eqOp_spec hpol with ⟨rfl, rfl⟩ | ⟨rfl, rfl⟩ <;> simp [eqGuard, h4, program, Sem.run]
    · rw [hxe, hye] at hk ⊢
      rcases eqOp_spec hpol with ⟨rfl, rfl⟩ | ⟨rfl, rfl⟩
      · show ((do pure (.bool (← Op.equal t (.agg vx) (.agg vy)))) : Sem Value).run P c.w = _
        have hk' : (Op.equal t (.agg vx) (.agg vy)).run P c.w = _ := hk
        simp [hk']
      · show ((do pure (.bool (!(← Op.equal t (.agg vx) (.agg vy))))) : Sem Value).run P c.w = _
        have hk' : (Op.equal t (.agg vx) (.agg vy)).run P c.w = _ := hk
        simp [hk']
  · rw [Option.bind_eq_some_iff] at h
    obtain ⟨u, hu, h⟩ := h
    rw [Option.bind_eq_some_iff] at h
    obtain ⟨v, hv, h⟩ := h
    rw [Option.bind_eq_some_iff] at h
    obtain ⟨r, hr, h⟩ := h
    have h1 := conc1_VR hu (hx.vr (conc1_ne hu))
    have h2 := conc1_VR hv (hy.vr (conc1_ne hv))
    have h3 := conc1_flat hu
    exact ⟨r, hex _ (run_eqGuard_conc ⟨fun p _ => .inl (by rw [h1]; exact h3.1 p), by rw [h1]; exact h3.2⟩ _) (by rw [h1, h2]; exact pureRun_run _ hr), SR.of (ofV1_VR h)⟩
theorem op_unOp (hd : DstOK n ds o) {op : UnOp} {t : TypeId} {x : Operand} (ho : o.op = .unOp op t x) {z : AV} (h : ((opnd s.ρ x).conc1.bind fun a => (pureRun P (Op.unary op a)).bind ofV1) = some z) : OpOK P L0 c0 n ds o s (s.set o.dst z) := by
  refine op_val hd fun a c Lo lam f hn => ?_
  rw [Option.bind_eq_some_iff] at h
  obtain ⟨u, hu, h⟩ := h
  rw [Option.bind_eq_some_iff] at h
  obtain ⟨r, hr, h⟩ := h
  have h1 := conc1_VR hu ((opnd_SR f x).vr (conc1_ne hu))
  refine ⟨r, ?_, SR.of (ofV1_VR h)⟩
  have := pureRun_run (P := P) c.w hr
  rw [← h1] at this
  simp [execOp, ho, this]
theorem op_move (hd : DstOK n ds o) {x : Operand} (ho : o.op = .move x ∨ o.op = .assign x) : OpOK P L0 c0 n ds o s (s.set o.dst (opnd s.ρ x)) :=
  op_val hd fun a c Lo lam f hn => ⟨a.eval x, by rcases ho with ho | ho <;> simp [execOp, ho], opnd_SR f x⟩
theorem op_pick (hd : DstOK n ds o) {k x y : Operand} (ho : o.op = .pick k x y) {t : Bool} (h : boolA (opnd s.ρ k) = some t) : OpOK P L0 c0 n ds o s (s.set o.dst (if t then opnd s.ρ x else opnd s.ρ y)) := by
  refine op_val hd fun a c Lo lam f hn => ?_
  have hk := opnd_SR f k
  unfold boolA at h
  split at h
  · rename_i b hb
    cases h
    rw [hb] at hk
    simp only [SR, VR] at hk
    refine ⟨if t then a.eval x else a.eval y, by simp [execOp, ho, hk, asBool], ?_⟩
    cases t
    · exact opnd_SR f y
    · exact opnd_SR f x
  · cases h
theorem op_nilCheck (hd : DstOK n ds o) {x : Operand} (ho : o.op = .nilCheck x) {z : AV} (h : nilCheckA (opnd s.ρ x) = some z) : OpOK P L0 c0 n ds o s (s.set o.dst z) := by
  refine op_val hd fun a c Lo lam f hn => ?_
  have hx := opnd_SR f x
  have hp : (∃ ad, a.eval x = .pointer (some ad)) ∧ z = opnd s.ρ x := by
    unfold nilCheckA at h
    split at h
    · rename_i id off heq
      cases h
      rw [heq] at hx
      simp only [SR, VR] at hx
      obtain ⟨_, ad, h1, _⟩ := hx
      exact ⟨⟨ad, h1⟩, heq.symm⟩
    · rename_i k off heq
      cases h
      rw [heq] at hx
      simp only [SR] at hx
      exact ⟨⟨_, hx.1⟩, heq.symm⟩
    · rename_i cs off heq
      cases h
      rw [heq] at hx
      simp only [SR, VR] at hx
      obtain ⟨b, o', h1, _⟩ := hx
      exact ⟨⟨_, h1⟩, heq.symm⟩
    · cases h
  obtain ⟨⟨ad, hp⟩, rfl⟩ := hp
  exact ⟨a.eval x, by simp [execOp, ho, hp], hx⟩
theorem opnds_VRs {c : Cx} {Lo : Nat → Prop} {lam : Nat → Nat} {a : Act} (f : Fr L0 c Lo lam ds s a) : ∀ xs : List Operand, (∀ x ∈ xs, ∀ k off, opnd s.ρ x ≠ .lp k off) → VRs c (un L0 Lo) (xs.map (opnd s.ρ)) (xs.map a.eval)
  | [], _ => trivial
  | x :: xs, h => ⟨(opnd_SR f x).vr (h x (by simp)), opnds_VRs f xs fun y hy => h y (by simp [hy])⟩
theorem cellOK_ne {x : AV} (h : x.cellOK = true) : ∀ k off, x ≠ .lp k off := by rintro k off rfl; simp [AV.cellOK] at h
theorem op_makeFunc (hd : DstOK n ds o) {fid : FuncId} {first cap : Array Operand} (ho : o.op = .makeFunc (.func fid) first cap) (hf : first.isEmpty = true) (hc : (cap.toList.map (opnd s.ρ)).all AV.cellOK = true) : OpOK P L0 c0 n ds o s (s.set o.dst (.fn fid (cap.toList.map (opnd s.ρ)))) := by
  refine op_val hd fun a c Lo lam f hn => ?_
  have hf' : first = #[] := by simpa using hf
  subst hf'
  refine ⟨.func (.func fid) #[] (cap.map a.eval), by simp [execOp, ho, Instr.makeFunc], SR.of ?_⟩
  simp only [VR]
  refine ⟨_, rfl, ?_⟩
  rw [Array.toList_map]
  refine opnds_VRs f _ fun x hx => cellOK_ne ?_
  rw [List.all_eq_true] at hc
  exact hc _ (List.mem_map.2 ⟨x, hx, rfl⟩)
theorem op_extract (hd : DstOK n ds o) {x : Operand} {i : Nat} (ho : o.op = .extract x i) {z : AV} (h : extractA (opnd s.ρ x) i = some z) : OpOK P L0 c0 n ds o s (s.set o.dst z) := by
  refine op_val hd fun a c Lo lam f hn => ?_
  have hx := opnd_SR f x
  cases heq : opnd s.ρ x <;> rw [heq] at h hx <;> simp only [extractA] at h <;> try (cases h; done)
  rename_i vs
  simp only [SR, VR] at hx
  obtain ⟨us, hxe, hvs⟩ := hx
  obtain ⟨v, hv, hr⟩ := hvs.get i z h
  have hv' : us[i]? = some v := by simpa using hv
  exact ⟨v, by simp [execOp, ho, hxe, Instr.extract, hv'], SR.of hr⟩
theorem run_foldMin {op : Value → Value → Sem Value} : ∀ (vs : List Value) (v r : Value) (w : World), foldMin P op v vs = some r → (vs.foldlM op v).run P w = .ok r w
  | [], v, r, w, h => by simp only [foldMin, Option.some.injEq] at h; subst h; rfl
  | x :: xs, v, r, w, h => by
    simp only [foldMin, Option.bind_eq_some_iff] at h
    obtain ⟨u, h1, h2⟩ := h
    simp only [List.foldlM_cons, Sem.run_bind, pureRun_run w h1, Result.andThen_ok]
    exact run_foldMin xs u r w h2
theorem op_minmax (hd : DstOK n ds o) {b : Builtin} {ats : Array TypeId} {args : Array Operand} (ho : o.op = .call { callee := .builtin b, args := args, argTypes := ats }) {op : Value → Value → Sem Value} (hb : (b = .min ∧ op = Builtin.min2) ∨ (b = .max ∧ op = Builtin.max2))
    {x : AV} {xs : List AV} (he : args.toList.map (opnd s.ρ) = x :: xs) {v u : Value} {vs : List Value} (hx : x.conc1 = some v) (hxs : conc1s xs = some vs) (hf : foldMin P op v vs = some u) {z : AV} (hz : ofV1 u = some z) : OpOK P L0 c0 n ds o s (s.set o.dst z) := by
  refine op_val hd fun a c Lo lam f hn => ?_
  refine ⟨u, ?_, SR.of (ofV1_VR hz)⟩
  have hne : ∀ q : Operand, ∀ k off, opnd s.ρ q = .lp k off → q ∉ args.toList := by
    intro q k off hq hm
    have hm' : AV.lp k off ∈ x :: xs := by rw [← he, ← hq]; exact List.mem_map.2 ⟨q, hm, rfl⟩
    rcases List.mem_cons.1 hm' with h1 | h1
    · exact conc1_ne hx k off h1.symm
    · have : ∀ (ys : List AV) (us : List Value), conc1s ys = some us → AV.lp k off ∉ ys := by
        intro ys
        induction ys with
        | nil => intro us _ h; cases h
        | cons y ys ih =>
          intro us hu hm
          simp only [conc1s, Option.bind_eq_some_iff] at hu
          obtain ⟨u1, h2, us1, h3, _⟩ := hu
          rcases List.mem_cons.1 hm with h4 | h4
          · exact conc1_ne h2 k off h4.symm
          · exact ih _ h3 h4
      exact this _ _ hxs h1
  have hvr := opnds_VRs f args.toList (fun q hq k off h => hne q k off h hq)
  rw [he] at hvr
  have hall : args.toList.map a.eval = v :: vs := conc1s_VR (xs := x :: xs) (us := v :: vs) (by simp [conc1s, hx, hxs]) hvr
  have hr := run_foldMin vs v u c.w hf
  have hargs : args.map a.eval = (v :: vs).toArray := by rw [← hall]; apply Array.ext'; simp
  rcases hb with ⟨rfl, rfl⟩ | ⟨rfl, rfl⟩
  · simp [execOp, ho, resolve, invoke, builtin, Builtin.min_, hargs, hr]
  · simp [execOp, ho, resolve, invoke, builtin, Builtin.max_, hargs, hr]
end
end Go.R

namespace Go.R
open Go
def CallOK (P : Program) (cf : CallF) : Prop :=
  ∀ f args h r h', cf f args h = some (r, h') →
    (∀ (vs : Array Value) (w : World), (callFunc f vs).run P w = .ok (.enter f vs) w) ∧
    ∀ (L0 : Nat → Prop) (c : Cx) (vs : List Value), c.h = h → c.base ≤ c.w.heap.size → HRel c L0 → VRs c L0 args vs →
      Calls P f vs.toArray c.w fun e w' => ∃ c' v, e = .returned v ∧ c'.w = w' ∧ c'.h = h' ∧ VR c' L0 r v ∧ HRel c' L0 ∧ Ext c none0 c' none0
section
variable {P : Program} {L0 : Nat → Prop} {c0 : Cx} {n : Nat} {ds : List Nat} {o : Oper} {s : RS}
theorem Fr.call {c c' : Cx} {Lo : Nat → Prop} {lam : Nat → Nat} {a : Act} (f : Fr L0 c Lo lam ds s a) (hr : HRel c' (un L0 Lo)) (e : Ext c none0 c' none0) :
    Ext c Lo c' Lo ∧ Fr L0 c' Lo lam ds { s with h := c'.h } a := by
  have hlo : ∀ b, Lo b → b < c.w.heap.size := fun b hb => f.rel.bd b (.inr hb)
  have e' : Ext c Lo c' Lo :=
    ⟨e.next, e.live, e.size, fun b h1 _ h3 => e.keep b h1 (fun h => h.elim) h3, e.exact, e.base, e.img, fun _ h => h, fun _ h => .inl h, e.os, e.tape, e.output⟩
  refine ⟨e', rfl, hr, fun t => (f.slot t).ext e' (fun _ _ _ => ⟨rfl, fun h => h⟩), fun k cs hb => ?_, f.inj, f.tidy, f.defers, fun b hb => by rw [e.base]; exact f.lob b hb⟩
  have ob := f.box k cs hb
  exact ob.ext e' (e.keep _ ob.plain.lt (fun h => h.elim) fun id hl he => f.rel.out id hl (he ▸ .inr ob.own))
theorem op_call {cf : CallF} (hcf : CallOK P cf) (hb0 : c0.base ≤ c0.w.heap.size) (hd : DstOK n ds o) {fx : Operand} {args : Array Operand} {ats : Array TypeId} (ho : o.op = .call { callee := .value fx, args := args, argTypes := ats }) {fid : FuncId} {cap : List AV}
    (hf : opnd s.ρ fx = .fn fid cap) (ha : (args.toList.map (opnd s.ρ)).all AV.argOK = true) {r : AV} {h' : AHeap} (h : cf fid (args.toList.map (opnd s.ρ) ++ cap) s.h = some (r, h')) :
    OpOK P L0 c0 n ds o s ({ s with h := h' }.set o.dst r) := by
  rintro a w K Q ⟨hn, c, Lo, lam, rfl, f, e0⟩ hK
  obtain ⟨hin, hcall⟩ := hcf _ _ _ _ _ h
  have hfx := opnd_SR f fx
  rw [hf] at hfx
  simp only [SR, VR] at hfx
  obtain ⟨cv, hfe, hcv⟩ := hfx
  have hargs : VRs c (un L0 Lo) (args.toList.map (opnd s.ρ)) (args.toList.map a.eval) := by
    refine opnds_VRs f _ fun x hx => argOK_ne ?_
    rw [List.all_eq_true] at ha
    exact ha _ (List.mem_map.2 ⟨x, hx, rfl⟩)
  have hall := VRs.append hargs hcv
  unfold Oper.wp
  have : (execOp a.eval o).run P c.w = .ok (.enter fid (args.map a.eval ++ cv)) c.w := by
    simp [execOp, ho, resolve, hfe, Deferred.ofValue, invoke, hin]
  rw [this, Oper.upon_enter]
  have hc := hcall (un L0 Lo) c _ f.h (base_le e0 hb0) f.rel hall
  have he : (args.toList.map a.eval ++ cv.toList).toArray = args.map a.eval ++ cv := by
    apply Array.ext'; simp
  rw [he] at hc
  refine Calls.mono hc ?_
  rintro e w' ⟨c', v, rfl, rfl, hh, hv, hrel, hext⟩
  obtain ⟨e', f'⟩ := f.call hrel hext
  rw [hh] at f'
  exact hK _ _ ⟨(put_size _ _ _).trans hn, c', Lo, lam, rfl, f'.set (SR.of hv) (fun t ht => by rw [hn]; exact hd t ht), e0.trans e'⟩
theorem Option.map_some' {α β : Type} {x : Option α} {g : α → β} {y : β} (h : x.map g = some y) : ∃ z, x = some z ∧ g z = y := Option.map_eq_some_iff.1 h
theorem newBox_ok {locs : List Nat} {cs : List AV} {s' : RS} (h : newBox s locs ds o cs = some s') : cs.all AV.cellOK = true := by
  unfold newBox at h
  split at h
  · assumption
  · cases h
theorem opA_ok {cf : CallF} (hcf : CallOK P cf) (hb0 : c0.base ≤ c0.w.heap.size) (hd : DstOK n ds o) {locs : List Nat} {s' : RS} (h : opA P cf locs ds s o = some s') : OpOK P L0 c0 n ds o s s' := by
  have hval : ∀ {x : Option AV}, (x.map fun x => s.set o.dst x) = some s' → (∀ z, x = some z → OpOK P L0 c0 n ds o s (s.set o.dst z)) → OpOK P L0 c0 n ds o s s' := by
    intro x hx hz
    obtain ⟨z, rfl, rfl⟩ := Option.map_some' hx
    exact hz z rfl
  unfold opA opE at h
  dsimp only at h
  split at h
  · rename_i x ho; cases h; exact op_move hd (.inl ho)
  · rename_i x ho; cases h; exact op_move hd (.inr ho)
  · rename_i k x y ho
    obtain ⟨t, ht, rfl⟩ := Option.map_some' h
    exact op_pick hd ho ht
  · 
    rename_i t ho
    rw [Option.bind_eq_some_iff] at h
    obtain ⟨z, hz, h⟩ := h
    refine op_newBox hb0 hd t h fun a c Lo lam f hn => ?_
    have hok := newBox_ok h
    obtain ⟨v, h1, h2, h3⟩ := run_alloc (P := P) (c := c) hz (rdyC_ok hok) (un L0 Lo)
    exact ⟨v, by simp [execOp, ho, h1], rdyC_VR h2, h3⟩
  · 
    rename_i t x ho
    refine op_newBox hb0 hd t h fun a c Lo lam f hn => ?_
    have hok : (opnd s.ρ x).cells.all AV.cellOK = true := newBox_ok h
    obtain ⟨h1, h2⟩ := cells_VR hok ((opnd_SR f x).cellsVR hok)
    exact ⟨a.eval x, by simp [execOp, ho, Instr.box, newVar, newRow], h1, h2⟩
  · rename_i t ps ho
    refine hval h fun z hz => op_val hd fun a c Lo lam f hn => ?_
    obtain ⟨v, hr, hv⟩ := run_build (P := P) (parts_SR f ps.toList) hz
    refine ⟨v, ?_, SR.of hv⟩
    have he : ps.map (fun (i, x) => (i, a.eval x)) = (ps.toList.map fun (i, x) => (i, a.eval x)).toArray := by
      apply Array.ext'; simp
    simp only [execOp, ho, Sem.run_bind]
    rw [he, hr]
    rfl
  · rename_i t k ps ho
    rw [Option.map_eq_some_iff] at h
    obtain ⟨z, hz, rfl⟩ := h
    exact op_buildSliceT hb0 hd ho locs hz
  · 
    rename_i t x ho
    refine hval h fun z hz => op_val hd fun a c Lo lam f hn => ?_
    obtain ⟨r, hr, hv⟩ := run_loadAt (P := P) f (t := t) (opnd_SR f x) hz
    exact ⟨r, by simp [execOp, ho, hr], SR.of hv⟩
  · 
    rename_i t x y ho
    split at h
    · cases h
    rename_i hdst
    exact op_store hb0 hd ho (by simpa using hdst) h
  · rename_i ho; exact hval h fun z hz => op_nilCheck hd ho hz
  · rename_i ho; exact hval h fun z hz => op_binOp hd ho hz
  · rename_i ho; exact hval h fun z hz => op_unOp hd ho hz
  · rename_i ho; exact hval h fun z hz => op_convert hb0 hd ho hz
  · rename_i fid first cap ho
    split at h
    · rename_i hh
      refine hval h fun z hz => ?_
      cases hz
      exact op_makeFunc hd ho hh.1 hh.2
    · cases h
  · rename_i ho; cases h; exact op_makeMap hb0 hd ho
  · rename_i ho; exact op_makeSlice hb0 hd ho h
  · 
    rename_i t x lo hi mx ho
    refine hval h fun z hz => op_val hd fun a c Lo lam f hn => ?_
    have hs : ∀ (q : Option Operand) (y : AV), q.map (opnd s.ρ) = some y → ∃ v, q.map a.eval = some v ∧ SR c L0 Lo lam s.bx y v := by
      intro q y hq
      obtain ⟨u, rfl, rfl⟩ := Option.map_some' hq
      exact ⟨_, rfl, opnd_SR f u⟩
    have hs' : ∀ (q : Option Operand), q.map (opnd s.ρ) = none → q.map a.eval = none := by
      intro q hq
      simpa using hq
    obtain ⟨r, hr, hv⟩ := run_sliceA (P := P) (opnd_SR f x) (hs lo) (hs' lo) (hs hi) (hs' hi) (hs mx) (hs' mx) hz
    exact ⟨r, by simp [execOp, ho, hr], SR.of hv⟩
  · rename_i t x i ho
    refine hval h fun z hz => op_val hd fun a c Lo lam f hn => ?_
    obtain ⟨r, hr, hv⟩ := run_fieldAt (P := P) (opnd_SR f x) hz
    exact ⟨r, by simp [execOp, ho, hr], hv⟩
  · rename_i t x i ho
    refine hval h fun z hz => op_val hd fun a c Lo lam f hn => ?_
    obtain ⟨r, hr, hv⟩ := run_fieldA (P := P) (opnd_SR f x) hz
    exact ⟨r, by simp [execOp, ho, hr], SR.of hv⟩
  · rename_i t x i ho
    refine hval h fun z hz => op_val hd fun a c Lo lam f hn => ?_
    obtain ⟨r, hr, hv⟩ := run_indexAt (P := P) (opnd_SR f x) (opnd_SR f i) hz
    exact ⟨r, by simp [execOp, ho, hr], hv⟩
  · rename_i t x i ho
    refine hval h fun z hz => op_val hd fun a c Lo lam f hn => ?_
    obtain ⟨r, hr, hv⟩ := run_indexA (P := P) (opnd_SR f x) (opnd_SR f i) hz
    exact ⟨r, by simp [execOp, ho, hr], SR.of hv⟩
  · rename_i t m k ok ho
    refine hval h fun z hz => op_val hd fun a c Lo lam f hn => ?_
    obtain ⟨r, hr, hv⟩ := run_lookupA (P := P) f (opnd_SR f m) (opnd_SR f k) hz
    exact ⟨r, by simp [execOp, ho, hr], SR.of hv⟩
  · rename_i t m k x ho
    split at h
    · cases h
    rename_i hdst
    obtain ⟨h', hh, rfl⟩ := Option.map_some' h
    exact op_mapUpdate hb0 (.inl ho) (by simpa using hdst) hh
  · rename_i t m k x ho
    split at h
    · cases h
    rename_i hdst
    obtain ⟨h', hh, rfl⟩ := Option.map_some' h
    exact op_mapUpdate hb0 (.inr ho) (by simpa using hdst) hh
  · rename_i ho; exact hval h fun z hz => op_extract hd ho hz
  · 
    rename_i b args ats ho
    unfold callBuiltin at h
    split at h
    · rename_i t x hts hargs
      have hats : ats = #[t] := by apply Array.ext'; simpa using hts
      obtain ⟨q, hq, rfl⟩ : ∃ q, args = #[q] ∧ opnd s.ρ q = x := by
        cases args with | mk l =>
        rcases l with _ | ⟨q, _ | ⟨q2, l⟩⟩ <;> simp at hargs
        exact ⟨q, rfl, hargs⟩
      subst hats hq
      refine hval h fun z hz => op_val hd fun a c Lo lam f hn => ?_
      obtain ⟨r, hr, hv⟩ := run_lenA (P := P) f #[t] rfl (opnd_SR f q) hz o.type
      exact ⟨r, by simp [execOp, ho, resolve, invoke, builtin, hr], SR.of hv⟩
    · rename_i t t2 x y hts hargs
      have hats : ats = #[t, t2] := by apply Array.ext'; simpa using hts
      obtain ⟨q, q2, hq, rfl, rfl⟩ : ∃ q q2, args = #[q, q2] ∧ opnd s.ρ q = x ∧ opnd s.ρ q2 = y := by
        cases args with | mk l =>
        rcases l with _ | ⟨q, _ | ⟨q2, _ | ⟨q3, l⟩⟩⟩ <;> simp at hargs
        exact ⟨q, q2, rfl, hargs.1, hargs.2⟩
      subst hats hq
      exact op_append hb0 hd ho h
    · rename_i t t2 x y hts hargs
      have hats : ats = #[t, t2] := by apply Array.ext'; simpa using hts
      obtain ⟨q, q2, hq, rfl, rfl⟩ : ∃ q q2, args = #[q, q2] ∧ opnd s.ρ q = x ∧ opnd s.ρ q2 = y := by
        cases args with | mk l =>
        rcases l with _ | ⟨q, _ | ⟨q2, _ | ⟨q3, l⟩⟩⟩ <;> simp at hargs
        exact ⟨q, q2, rfl, hargs.1, hargs.2⟩
      subst hats hq
      obtain ⟨⟨z, h'⟩, hh, rfl⟩ := Option.map_some' h
      exact op_copy hb0 hd ho hh
    · rename_i t x hts hargs
      have hats : ats = #[t] := by apply Array.ext'; simpa using hts
      obtain ⟨q, hq, rfl⟩ : ∃ q, args = #[q] ∧ opnd s.ρ q = x := by
        cases args with | mk l =>
        rcases l with _ | ⟨q, _ | ⟨q2, l⟩⟩ <;> simp at hargs
        exact ⟨q, rfl, hargs⟩
      subst hats hq
      obtain ⟨h', hh, rfl⟩ := Option.map_some' h
      exact op_clear hb0 hd ho hh
    · rename_i x xs hargs
      rw [Option.bind_eq_some_iff] at h
      obtain ⟨v, hv, h⟩ := h
      rw [Option.bind_eq_some_iff] at h
      obtain ⟨vs, hvs, h⟩ := h
      rw [Option.bind_eq_some_iff] at h
      obtain ⟨u, hu, h⟩ := h
      exact hval h fun z hz => op_minmax hd ho (.inl ⟨rfl, rfl⟩) hargs hv hvs hu hz
    · rename_i x xs hargs
      rw [Option.bind_eq_some_iff] at h
      obtain ⟨v, hv, h⟩ := h
      rw [Option.bind_eq_some_iff] at h
      obtain ⟨vs, hvs, h⟩ := h
      rw [Option.bind_eq_some_iff] at h
      obtain ⟨u, hu, h⟩ := h
      exact hval h fun z hz => op_minmax hd ho (.inr ⟨rfl, rfl⟩) hargs hv hvs hu hz
    · cases h
  · 
    rename_i fx args ats ho
    split at h
    · rename_i fid cap heq
      split at h
      · rename_i ha
        obtain ⟨⟨r, h'⟩, hh, rfl⟩ := Option.map_some' h
        exact op_call hcf hb0 hd ho heq ha hh
      · cases h
    · cases h
  · cases h
end
end Go.R

namespace Go.R
open Go
section
variable {P : Program} {L0 : Nat → Prop} {c0 : Cx} {n : Nat} {ds : List Nat} {s : RS}
theorem Fr.killed {c : Cx} {Lo : Nat → Prop} {lam : Nat → Nat} {a : Act} (f : Fr L0 c Lo lam ds s a) (id : Nat) :
    Ext c Lo ⟨c.β, c.h.kill id, c.w, c.base⟩ Lo ∧ Fr L0 ⟨c.β, c.h.kill id, c.w, c.base⟩ Lo lam ds { s with h := s.h.kill id } a ∧ (Live c.h id → RO ⟨c.β, c.h.kill id, c.w, c.base⟩ (un L0 Lo) (c.β id).1) := by
  have hg : ∀ i, (c.h.kill id).get i = if i = id then none else c.h.get i := fun i => by
    simp only [AHeap.kill, beq_nat]
    by_cases h : i = id <;> simp [h]
  have hlv : ∀ i, Live (c.h.kill id) i → i ≠ id ∧ Live c.h i := fun i hl => by
    have h2 := hl.2
    rw [hg] at h2
    by_cases h : i = id
    · rw [if_pos h] at h2; cases h2
    · rw [if_neg h] at h2
      obtain ⟨o, ho⟩ := Option.isSome_iff_exists.1 h2
      exact ⟨h, f.rel.lt _ _ ho, h2⟩
  have e : Ext c Lo ⟨c.β, c.h.kill id, c.w, c.base⟩ Lo :=
    ⟨Nat.le_succ _, fun i hi hl => ⟨(hlv i hl).2, rfl, rfl⟩, Nat.le_refl _, fun _ _ _ _ => .inl rfl, fun _ _ => rfl, rfl, fun i hl => .inr ⟨i, (hlv i hl).2, rfl⟩, fun _ h => h, fun _ h => .inl h, rfl, rfl, rfl⟩
  refine ⟨e, ⟨by rw [← f.h], ⟨fun i o ho => ?_, fun i o ho => ?_, fun i j hi hj he => ?_, fun i hi => ?_, f.rel.bd, fun i hi => ?_, (Steady.kill c.h id).wf f.rel.ver⟩, fun t => ?_, fun k cs hb => ?_, f.inj, f.tidy, f.defers, f.lob⟩, fun hl => ⟨fun i hi he => ?_, f.rel.out id hl⟩⟩
  · replace ho : (c.h.kill id).get i = some o := ho
    rw [hg] at ho
    by_cases h : i = id
    · rw [if_pos h] at ho; cases ho
    · rw [if_neg h] at ho; exact Nat.lt_succ_of_lt (f.rel.lt _ _ ho)
  · replace ho : (c.h.kill id).get i = some o := ho
    rw [hg] at ho
    by_cases h : i = id
    · rw [if_pos h] at ho; cases ho
    · rw [if_neg h] at ho
      exact (f.rel.obj i o ho).ext e rfl
  · exact f.rel.inj i j (hlv i hi).2 (hlv j hj).2 he
  · exact f.rel.out i (hlv i hi).2
  · exact f.rel.low i (hlv i hi).2
  · exact (f.slot t).ext e (fun _ _ _ => ⟨rfl, fun h => h⟩)
  · have hb2 := f.box k cs hb
    exact hb2.ext e (.inl rfl)
  · obtain ⟨h1, h2⟩ := hlv i hi
    exact h1 (f.rel.inj i id h2 hl he)
theorem frzV_ok {c : Cx} {Lo : Nat → Prop} {lam : Nat → Nat} {a : Act} (f : Fr L0 c Lo lam ds s a) {k : Nat} {x y : AV} {h' : AHeap} (h : frzV k s.h x = some (y, h')) :
    (∀ k off, x ≠ .lp k off) ∧ (∀ k off, y ≠ .lp k off) ∧ ∃ c', c'.w = c.w ∧ Ext c Lo c' Lo ∧ Fr L0 c' Lo lam ds { s with h := h' } a ∧ ∀ v, VR c (un L0 Lo) x v → VR c' (un L0 Lo) y v := by
  cases k with
  | zero =>
    cases x with
    | nils =>
      simp only [frzV, Option.some.injEq, Prod.mk.injEq] at h
      obtain ⟨rfl, rfl⟩ := h
      refine ⟨by simp, by simp, c, rfl, Ext.refl _ _, f, fun v hv => ?_⟩
      simp only [VR] at hv ⊢
      exact ⟨none, 0, hv, Nat.le_refl _, fun _ => rfl, .inr ⟨trivial, rfl⟩, .inl trivial⟩
    | fz cs m ex =>
      simp only [frzV, Option.some.injEq, Prod.mk.injEq] at h
      obtain ⟨rfl, rfl⟩ := h
      refine ⟨by simp, by simp, c, rfl, Ext.refl _ _, f, fun v hv => ?_⟩
      simp only [VR] at hv ⊢
      obtain ⟨a, cap, rfl, h1, h2, hs, hc⟩ := hv
      exact ⟨a, cap, rfl, h1, by simp, hs, hc.imp id fun ⟨b, o, ha, hr, hex, hc⟩ => ⟨b, o, ha, hr, by simp, hc⟩⟩
    | rs id off len esz =>
      simp only [frzV] at h
      split at h
      · rename_i hid
        split at h
        rotate_left
        · cases h
        rename_i hl0
        simp only [Option.some.injEq, Prod.mk.injEq] at h
        obtain ⟨rfl, rfl⟩ := h
        refine ⟨by simp, by simp, c, rfl, Ext.refl _ _, f, fun v hv => ?_⟩
        simp only [VR] at hv ⊢
        rcases hv with ⟨_, _, _, a, rfl⟩ | hv
        · exact ⟨a, 0, rfl, Nat.le_refl _, fun _ => rfl, .inr ⟨trivial, rfl⟩, .inl trivial⟩
        · exact absurd hid hv.1
      rename_i hid0
      rw [Option.bind_eq_some_iff] at h
      obtain ⟨ob, ho, h⟩ := h
      cases ob with
      | map es => cases h
      | row t cs => cases h
      | cells cs =>
      simp only at h
      split at h
      rotate_left
      · cases h
      rename_i hle
      simp only [Option.some.injEq, Prod.mk.injEq] at h
      obtain ⟨rfl, rfl⟩ := h
      rw [← f.h] at ho
      have hl : Live c.h id := ⟨f.rel.lt _ _ ho, by simp [ho]⟩
      obtain ⟨e, f', hro⟩ := f.killed id
      refine ⟨by simp, by simp, ⟨c.β, c.h.kill id, c.w, c.base⟩, rfl, e, f', fun v hv => ?_⟩
      simp only [VR] at hv ⊢
      rcases hv with hv | ⟨_, _, a, cap, rfl, h1, h2, h3⟩
      · exact absurd hv.1 hid0
      obtain ⟨m, _, _, hc⟩ := f.rel.obj _ _ ho
      refine ⟨a, cap, rfl, h1, by simp, .inl h2, ?_⟩
      rcases h3 hl with ⟨h4, _⟩ | h4
      · exact .inr ⟨_, _, h4, hro hl, by simp, Cells.move e _ _ _ _ _ (fun i hi => rfl) ((hc.drop off).take (len * esz))⟩
      · left
        have hz : len = 0 := by omega
        subst hz
        simp
    | _ => simp [frzV] at h
  | succ k =>
    have key : (x = .nils ∨ x = .fz [] 0 true) → y = .rs 0 0 0 (k + 1) → h' = s.h → (∀ k off, x ≠ .lp k off) ∧ (∀ k off, y ≠ .lp k off) ∧ ∃ c', c'.w = c.w ∧ Ext c Lo c' Lo ∧ Fr L0 c' Lo lam ds { s with h := h' } a ∧ ∀ v, VR c (un L0 Lo) x v → VR c' (un L0 Lo) y v := by
      rintro hx rfl rfl
      refine ⟨by rcases hx with rfl | rfl <;> simp, by simp, c, rfl, Ext.refl _ _, f, fun v hv => ?_⟩
      rcases hx with rfl | rfl
      · simp only [VR] at hv ⊢
        exact .inl ⟨trivial, trivial, trivial, none, hv⟩
      · simp only [VR] at hv ⊢
        obtain ⟨a, cap, rfl, h1, h2, hs, hc⟩ := hv
        have := h2 trivial
        subst this
        exact .inl ⟨trivial, trivial, trivial, a, rfl⟩
    unfold frzV at h
    simp only at h
    split at h
    · simp only [Option.some.injEq, Prod.mk.injEq] at h
      exact key (.inl rfl) h.1.symm h.2.symm
    · simp only [Option.some.injEq, Prod.mk.injEq] at h
      exact key (.inr rfl) h.1.symm h.2.symm
    · simp only [Option.some.injEq, Prod.mk.injEq] at h
      obtain ⟨rfl, rfl⟩ := h
      exact ⟨by simp, by simp, c, rfl, Ext.refl _ _, f, fun v hv => hv⟩
    · cases h
theorem Inv.frz1 {a : Act} {w : World} {p : Nat × Option Nat × Nat} {s' : RS} (hi : Inv L0 c0 n ds s a w) (h : frz1 s p = some s') : Inv L0 c0 n ds s' a w := by
  obtain ⟨hn, c, Lo, lam, rfl, f, e⟩ := hi
  unfold Go.R.frz1 at h
  split at h
  · rw [Option.map_eq_some_iff] at h
    obtain ⟨⟨y, h'⟩, hz, rfl⟩ := h
    obtain ⟨hx, hy, c', hw, e', f', hv⟩ := frzV_ok f hz
    refine ⟨hn, c', Lo, lam, hw, ⟨f'.h, f'.rel, fun t => ?_, f'.box, f'.inj, fun t k off ht he => ?_, f'.defers, f'.lob⟩, e.trans e'⟩
    · simp only [beq_nat]
      by_cases ht : t = p.1
      · subst ht
        simp only [decide_true, cond_true]
        exact SR.of (hv _ ((f.slot _).vr hx))
      · simp only [ht, decide_false, cond_false]
        exact f'.slot t
    · simp only [beq_nat] at he
      by_cases htp : t = p.1
      · simp only [htp, decide_true, cond_true] at he
        exact absurd he (hy _ _)
      · simp only [htp, decide_false, cond_false] at he
        exact f'.tidy t k off ht he
  · rename_i i hp
    split at h
    rotate_left
    · cases h
    rename_i cs hcs
    simp only [Option.bind_eq_some_iff, Option.map_eq_some_iff] at h
    obtain ⟨x, hx, ⟨y, h'⟩, hz, rfl⟩ := h
    obtain ⟨hx1, hy, c', hw, e', f', hv⟩ := frzV_ok f hz
    have hsm : ∀ k, (bif Nat.beq k p.1 then some (cs.set i y) else s.bx k).isSome = (s.bx k).isSome := fun k => by
      simp only [beq_nat]
      by_cases hk : k = p.1
      · subst hk; simp [hcs]
      · simp [hk]
    refine ⟨hn, c', Lo, lam, hw, ⟨f'.h, f'.rel, fun t => ?_, fun k cs' hb => ?_, fun k k' h1 h2 => f'.inj k k' (by rw [← hsm]; exact h1) (by rw [← hsm]; exact h2), f'.tidy, f'.defers, f'.lob⟩, e.trans e'⟩
    · have := f'.slot t
      unfold SR at this ⊢
      split
      · rename_i k off he
        rw [he] at this
        simp only at this
        exact ⟨this.1, by rw [hsm]; exact this.2⟩
      · rename_i x' hx'
        split at this
        · rename_i he; exact absurd he (hx' _ _)
        · exact this
    · simp only [beq_nat] at hb
      by_cases hk : k = p.1
      · subst hk
        simp only [decide_true, cond_true, Option.some.injEq] at hb
        subst hb
        have ob := f.box _ cs hcs
        have ob' := f'.box _ cs hcs
        refine ⟨ob'.own, by rw [List.length_set]; exact ob'.plain, ?_⟩
        obtain ⟨vs, q1, q2, q3⟩ := ob.cells.vals
        obtain ⟨vs', r1, r2, r3⟩ := ob'.cells.vals
        have hlen : vs = vs' := by
          apply List.ext_getElem?
          intro j
          by_cases hj : j < cs.length
          · rw [← q2 j hj, ← r2 j hj, hw]
          · rw [List.getElem?_eq_none (by rw [← q1.length]; omega), List.getElem?_eq_none (by rw [← r1.length]; omega)]
        subst hlen
        obtain ⟨u, hu, hr⟩ := VRs.get q1 i x hx
        have hset : VRs c' (un L0 Lo) (cs.set i y) vs := by
          have := VRs.set (hv u hr) i r1
          have hs2 : vs.set i u = vs := by
            apply List.ext_getElem?
            intro j
            rw [List.getElem?_set]
            by_cases hji : i = j
            · subst hji
              rw [if_pos rfl, hu]
              have := (List.getElem?_eq_some_iff.1 hu).1
              simp [this]
            · rw [if_neg hji]
          rwa [hs2] at this
        exact Cells.of_vals hset (fun j hj => by rw [r2 j (by rw [r1.length]; exact hj)]) r3
      · simp only [hk, decide_false, cond_false] at hb
        exact f'.box k cs' hb
theorem Inv.frzA {a : Act} {w : World} : ∀ {l : List (Nat × Option Nat × Nat)} {s s' : RS}, Inv L0 c0 n ds s a w → frzA s l = some s' → Inv L0 c0 n ds s' a w
  | [], s, s', hi, h => by cases h; exact hi
  | p :: ps, s, s', hi, h => by
    simp only [Go.R.frzA, Option.bind_eq_some_iff] at h
    obtain ⟨s1, h1, h2⟩ := h
    exact Inv.frzA (hi.frz1 h1) h2
theorem shutD_h {A : Ann} {r : Nat} {s : RS} : (s.shutD A r).h = s.h := by
  unfold RS.shutD
  split <;> rfl
theorem frzV_steady {k : Nat} {h h' : AHeap} {x y : AV} (hz : frzV k h x = some (y, h')) : Steady h h' := by
  unfold frzV at hz
  split at hz
  · split at hz
    · cases hz; exact Steady.refl _
    · split at hz
      · split at hz
        · cases hz; exact Steady.refl _
        · cases hz
      rw [Option.bind_eq_some_iff] at hz
      obtain ⟨o, _, hz⟩ := hz
      split at hz
      · split at hz
        · cases hz; exact Steady.kill _ _
        · cases hz
      · cases hz
    · cases hz; exact Steady.refl _
    · cases hz
  · split at hz <;> cases hz <;> exact Steady.refl _
theorem frz1_steady {s s' : RS} {p : Nat × Option Nat × Nat} (hz : frz1 s p = some s') : Steady s.h s'.h := by
  unfold frz1 at hz
  split at hz
  · rw [Option.map_eq_some_iff] at hz
    obtain ⟨⟨y, h'⟩, hz, rfl⟩ := hz
    exact frzV_steady hz
  · split at hz
    · simp only [Option.bind_eq_some_iff, Option.map_eq_some_iff] at hz
      obtain ⟨x, hx, ⟨y, h'⟩, hz, rfl⟩ := hz
      exact frzV_steady hz
    · cases hz
theorem frzA_steady : ∀ {l : List (Nat × Option Nat × Nat)} {s s' : RS}, frzA s l = some s' → Steady s.h s'.h
  | [], s, s', h => by cases h; exact Steady.refl _
  | p :: ps, s, s', h => by
    simp only [frzA, Option.bind_eq_some_iff] at h
    obtain ⟨s1, h1, h2⟩ := h
    exact (frz1_steady h1).trans (frzA_steady h2)
end
end Go.R

namespace Go.R
open Go
section
variable {P : Program} {L0 : Nat → Prop} {c0 : Cx} {n : Nat} {ds : List Nat} {o : Oper} {s : RS}
theorem wanted_ok {ops : Array Oper} {c : Cx} {Lo : Nat → Prop} {lam : Nat → Nat} {a : Act} (f : Fr L0 c Lo lam ds s a) {b : Bool} (h : wantedA ops.toList s.ρ o = some b) : Region.wanted o (yielded ops a.tmps) = b := by
  unfold wantedA at h
  unfold Region.wanted
  split at h
  · rename_i hg; rw [hg]; cases h; rfl
  · rename_i j want hg
    rw [hg]
    rw [Option.bind_eq_some_iff] at h
    obtain ⟨d, hd, h⟩ := h
    have hd' : (ops[j]?).bind (·.dst) = some d := by simpa using hd
    have hs := f.slot d
    simp only [yielded, hd', Option.bind_some]
    rw [Array.getD_eq_getD_getElem?] at hs
    split at h
    · rename_i b' hb
      cases h
      rw [hb] at hs
      simp only [SR, VR] at hs
      cases hq : a.tmps[d]? with
      | none => rw [hq] at hs; simp [undef] at hs
      | some v =>
        rw [hq] at hs
        simp only [Option.getD_some] at hs
        subst hs
        cases b' <;> cases want <;> rfl
    · rename_i hb
      cases h
      rw [hb] at hs
      simp only [SR, VR] at hs
      obtain ⟨vs, hv, _⟩ := hs
      cases hq : a.tmps[d]? with
      | none => rfl
      | some v =>
        rw [hq] at hv
        simp only [Option.getD_some] at hv
        subst hv
        rfl
    · cases h
theorem stepA_ok {cf : CallF} (hcf : CallOK P cf) (hb0 : c0.base ≤ c0.w.heap.size) {ops : Array Oper} (hds : ds = ops.toList.filterMap (·.dst)) (hd : DstOK n ds o) {locs : List Nat} {s' : RS} (h : stepA P cf locs ops.toList s o = some s')
    {a : Act} {w : World} {K : Act → World → Prop} {Q : Exit → Act → World → Prop} (hi : Inv L0 c0 n ds s a w) (hK : ∀ a' w', Inv L0 c0 n ds s' a' w' → K a' w') :
    if Region.wanted o (yielded ops a.tmps) then o.wp P a w K Q else K (a.put o.dst undef) w := by
  unfold stepA at h
  rw [Option.bind_eq_some_iff] at h
  obtain ⟨b, hb, h⟩ := h
  have hi0 := hi
  obtain ⟨hn, c, Lo, lam, rfl, f, e⟩ := hi
  rw [wanted_ok f hb]
  cases b with
  | true =>
    simp only [if_true] at h ⊢
    rw [← hds] at h
    exact opA_ok hcf hb0 hd h a c.w K Q hi0 hK
  | false =>
    simp only [Bool.false_eq_true, if_false, Option.some.injEq] at h ⊢
    subst h
    exact hK _ _ ⟨(put_size _ _ _).trans hn, c, Lo, lam, rfl, f.set (SR.of (by simp [VR, undef, VRs])) (fun t ht => by rw [hn]; exact hd t ht), e⟩
def dstsB (n : Nat) (ops : List Oper) : Bool := ops.all fun o => match o.dst with | some t => Nat.blt t n | none => true
theorem dstsB_ok {ops : List Oper} (h : dstsB n ops = true) {o : Oper} (ho : o ∈ ops) : DstOK n (ops.filterMap (·.dst)) o := by
  intro t ht
  unfold dstsB at h
  rw [List.all_eq_true] at h
  have := h o ho
  rw [ht] at this
  exact ⟨Nat.blt_eq.mp this, List.mem_filterMap.2 ⟨o, ho, ht⟩⟩
theorem runA_ok {cf : CallF} (hcf : CallOK P cf) (hb0 : c0.base ≤ c0.w.heap.size) {ops : Array Oper} (hds : ds = ops.toList.filterMap (·.dst)) (hdn : dstsB n ops.toList = true) {locs : List Nat} {Q : Exit → Act → World → Prop} {s' : RS} (hQ : ∀ a' w', Inv L0 c0 n ds s' a' w' → Q .normal a' w') :
    ∀ (l : List Oper) (s : RS), (∀ o ∈ l, o ∈ ops.toList) → runA P cf locs ops.toList s l = some s' → ∀ a w, Inv L0 c0 n ds s a w → wpList P ops Q l a w
  | [], s, _, h, a, w, hi => by
    simp only [runA, Option.some.injEq] at h
    subst h
    exact wpList_nil (hQ a w hi)
  | o :: l, s, hl, h, a, w, hi => by
    simp only [runA, Option.bind_eq_some_iff] at h
    obtain ⟨s1, h1, h2⟩ := h
    refine wpList_step fun K hK => ?_
    exact stepA_ok hcf hb0 hds (by rw [hds]; exact dstsB_ok hdn (hl o (by simp))) h1 hi fun a' w' hi' => hK a' w' (runA_ok hcf hb0 hds hdn hQ l s1 (fun o ho => hl o (by simp [ho])) h2 a' w' hi')
theorem look_mem {α : Type} (d : α) : ∀ (ks : List Nat) (g : Nat → α) (t : Nat), look d ks (ks.map g) t = if t ∈ ks then g t else d
  | [], g, t => rfl
  | k :: ks, g, t => by
    simp only [List.map_cons, look, beq_nat, look_mem d ks g t, List.mem_cons]
    by_cases h : t = k
    · subst h; simp
    · simp [h]
theorem Fr.forget {c : Cx} {Lo : Nat → Prop} {lam : Nat → Nat} {a : Act} (f : Fr L0 c Lo lam ds s a) {s2 : RS} (hh : s2.h = s.h) (hb : ∀ k cs, s2.bx k = some cs → s.bx k = some cs)
    (hr : ∀ t, s2.ρ t = .any ∨ s2.ρ t = s.ρ t ∧ ∀ k off, s.ρ t = .lp k off → k = t ∧ ((s.bx k).isSome = true → (s2.bx k).isSome = true)) : Fr L0 c Lo lam [] s2 a := by
  refine ⟨f.h.trans hh.symm, f.rel, fun t => ?_, fun k cs h => f.box k cs (hb k cs h), fun k k' h h' => f.inj k k' ?_ ?_, fun t k off _ he => ?_, f.defers, f.lob⟩
  · rcases hr t with h | ⟨h, h2⟩
    · rw [h]; exact SR.of (by simp [VR])
    · rw [h]
      have hs := f.slot t
      cases hx : s.ρ t <;> rw [hx] at hs <;> try exact hs
      rename_i k off
      simp only [SR] at hs ⊢
      exact ⟨hs.1, (h2 k off hx).2 hs.2⟩
  · obtain ⟨cs, hcs⟩ := Option.isSome_iff_exists.1 h; rw [hb k cs hcs]; rfl
  · obtain ⟨cs, hcs⟩ := Option.isSome_iff_exists.1 h'; rw [hb k' cs hcs]; rfl
  · rcases hr t with h | ⟨h, h2⟩
    · rw [h] at he; cases he
    · exact (h2 k off (h ▸ he)).1
theorem Inv.shut {a : Act} {w : World} (A : Ann) (h : Inv L0 c0 n ds s a w) : Inv L0 c0 n [] ((s.shut A).open A) a w := by
  obtain ⟨hn, c, Lo, lam, rfl, f, e⟩ := h
  refine ⟨hn, c, Lo, lam, rfl, f.forget rfl (fun k cs hk => ?_) (fun t => ?_), e⟩
  · simp only [RS.shut, St.open, look_mem] at hk
    split at hk
    · exact hk
    · cases hk
  · simp only [RS.shut, St.open, look_mem]
    split
    · unfold shutV
      cases hx : s.ρ t <;> simp only <;> try (right; exact ⟨trivial, fun k off he => by cases he⟩)
      rename_i k off
      cases hc : (Nat.beq k t && Nat.beq off 0 && A.locs.contains k) with
      | false => left; rfl
      | true =>
        right
        simp only [Bool.and_eq_true, beq_nat, decide_eq_true_eq, List.contains_iff_mem] at hc
        refine ⟨rfl, fun k' off' he => ?_⟩
        cases he
        refine ⟨hc.1.1, fun hs => ?_⟩
        rw [if_pos hc.2]
        exact hs
    · left; rfl
theorem Inv.shutD {a : Act} {w : World} (A : Ann) (r : Nat) (h : Inv L0 c0 n ds s a w) : Inv L0 c0 n [] ((s.shutD A r).open A) a w := by
  unfold RS.shutD
  split
  · exact h.shut A
  rename_i dl _
  have h2 := h.shut A
  obtain ⟨hn, c, Lo, lam, hw, f, e⟩ := h2
  have hbx : ∀ k, (St.open A { vars := A.keep.map (fun t => bif (listOf r A.dead).contains t then .any else shutV A.locs s.ρ t), bxs := A.locs.map (fun k => bif (listOf r A.dead).contains k then none else s.bx k), h := s.h }).bx k = bif (listOf r A.dead).contains k then none else (St.open A (s.shut A)).bx k := by
    intro k
    simp only [RS.shut, St.open, look_mem]
    cases (listOf r A.dead).contains k <;> simp
  refine ⟨hn, c, Lo, lam, hw, f.forget rfl (fun k cs hk => ?_) (fun t => ?_), e⟩
  · rw [hbx] at hk
    cases hc : (listOf r A.dead).contains k with
    | true => rw [hc] at hk; cases hk
    | false => rw [hc] at hk; exact hk
  · have hv : (St.open A { vars := A.keep.map (fun t => bif (listOf r A.dead).contains t then .any else shutV A.locs s.ρ t), bxs := A.locs.map (fun k => bif (listOf r A.dead).contains k then none else s.bx k), h := s.h }).ρ t = bif (listOf r A.dead).contains t then .any else (St.open A (s.shut A)).ρ t := by
      simp only [RS.shut, St.open, look_mem]
      cases (listOf r A.dead).contains t <;> simp
    rw [hv]
    cases hc : (listOf r A.dead).contains t with
    | true => left; rfl
    | false =>
      right
      refine ⟨rfl, fun k off he => ?_⟩
      have hkt : k = t := f.tidy t k off (by simp) he
      refine ⟨hkt, fun hs => ?_⟩
      rw [hbx, hkt, hc]
      rw [hkt] at hs
      exact hs
theorem Inv.wide {a : Act} {w : World} (h : Inv L0 c0 n [] s a w) (ds : List Nat) : Inv L0 c0 n ds s a w := by
  obtain ⟨hn, c, Lo, lam, rfl, f, e⟩ := h
  exact ⟨hn, c, Lo, lam, rfl, ⟨f.h, f.rel, f.slot, f.box, f.inj, fun t k off _ he => f.tidy t k off (by simp) he, f.defers, f.lob⟩, e⟩
theorem Inv.drew {a : Act} {w : World} (h : Inv L0 c0 n ds s a w) : Inv L0 c0 n ds s a { w with drawn := w.drawn + 1 } := by
  obtain ⟨hn, c, Lo, lam, rfl, f, e⟩ := h
  obtain ⟨e', f'⟩ := f.world (w' := { c.w with drawn := c.w.drawn + 1 }) (fun b _ => .inl rfl) (fun _ _ => rfl) (fun b _ => rfl) (Nat.le_refl _) rfl rfl rfl
  exact ⟨hn, _, Lo, lam, rfl, f', e.trans e'⟩
def LoopWP (P : Program) (c : Code) (Q : Exit → Act → World → Prop) (a : Act) (w : World) : Prop :=
  ∀ (b : Frame) (k : List Item) (cs : List Frame), ∃ e a' w', Q e a' w' ∧ Arrives P (lone (b.at a (.code c :: .inLoop c :: k)) cs w) b k cs e a' w'
theorem LoopWP.step {c : Code} {Q : Exit → Act → World → Prop} {a : Act} {w : World} (h : c.wp P (Exit.then (LoopWP P c Q) Q) a w) : LoopWP P c Q a w := by
  intro b k cs
  obtain ⟨e, a₁, w₁, hq, harr⟩ := h b (.inLoop c :: k) cs
  cases e with
  | normal =>
    obtain ⟨e₂, a₂, w₂, hq₂, harr₂⟩ := hq b k cs
    exact ⟨e₂, a₂, w₂, hq₂, .of_steps (Steps.trans harr (.one step_inLoop)) harr₂⟩
  | exit id => exact ⟨_, a₁, w₁, hq, .pass (x := .inLoop c) rfl (fun _ _ => .inl (by simp)) harr⟩
  | goto l => exact ⟨_, a₁, w₁, hq, .pass (x := .inLoop c) rfl (fun _ _ => .inl (by simp)) harr⟩
  | ret => exact ⟨_, a₁, w₁, hq, .pass (x := .inLoop c) rfl (fun _ _ => .inl (by simp)) harr⟩
  | panic ch => exact ⟨_, a₁, w₁, hq, .pass (x := .inLoop c) rfl (fun _ _ => .inl (by simp)) harr⟩
  | outgrown => exact ⟨_, a₁, w₁, hq, .pass (x := .inLoop c) rfl (fun _ _ => .inl (by simp)) harr⟩
theorem LoopWP.loop {c : Code} {Q : Exit → Act → World → Prop} {a : Act} {w : World} (h : LoopWP P c Q a w) : (Code.loop c).wp P Q a w := by
  intro b k cs
  obtain ⟨e, a', w', hq, harr⟩ := h b k cs
  exact ⟨e, a', w', hq, .of_steps (.one step_loop) harr⟩
def Ex.exit' : Ex → Exit
  | .norm => .normal
  | .exit id => .exit id
  | .ret => .ret
def codeB (n : Nat) : Code → Bool
  | .region _ ops _ => dstsB n ops.toList
  | .seq a b => codeB n a && codeB n b
  | .cond _ x y => codeB n x && codeB n y
  | .block _ c => codeB n c
  | .loop c => codeB n c
  | _ => true
def DrawOK (P : Program) (cf : CallF) : Prop :=
  ∀ (L0 : Nat → Prop) (c0 : Cx) (n : Nat) (locs : List Nat) (id : Nat) (ops : Array Oper) (s s' : RS), drawsA P cf locs ops s = some s' → c0.base ≤ c0.w.heap.size → dstsB n ops.toList = true →
    ∀ a w Q, Inv L0 c0 n (ops.toList.filterMap (·.dst)) s a w → (∀ a' w', Inv L0 c0 n (ops.toList.filterMap (·.dst)) s' a' w' → Q .normal a' w') → (Code.region id ops true).wp P Q a w
theorem execA_ok {cf : CallF} (hcf : CallOK P cf) (hdr : DrawOK P cf) (hb0 : c0.base ≤ c0.w.heap.size) {A : Ann} {m : Nat} : ∀ (c : Code), codeB n c = true → ∀ (st st' : St) (ex : Ex), execA P cf A m c st = some (ex, st') →
    ∀ a w Q, Inv L0 c0 n [] (st.open A) a w → (∀ a' w', Inv L0 c0 n [] (st'.open A) a' w' → Q ex.exit' a' w') → c.wp P Q a w
  | .skip, _, st, st', ex, h, a, w, Q, hi, hQ => by
    simp only [execA, Option.some.injEq, Prod.mk.injEq] at h
    obtain ⟨rfl, rfl⟩ := h
    exact wp_skip (hQ a w hi)
  | .label _, _, st, st', ex, h, a, w, Q, hi, hQ => by
    simp only [execA, Option.some.injEq, Prod.mk.injEq] at h
    obtain ⟨rfl, rfl⟩ := h
    exact wp_label (hQ a w hi)
  | .ret, _, st, st', ex, h, a, w, Q, hi, hQ => by
    simp only [execA, Option.some.injEq, Prod.mk.injEq] at h
    obtain ⟨rfl, rfl⟩ := h
    exact wp_ret (hQ a w hi)
  | .exit id, _, st, st', ex, h, a, w, Q, hi, hQ => by
    simp only [execA, Option.some.injEq, Prod.mk.injEq] at h
    obtain ⟨rfl, rfl⟩ := h
    exact wp_exit (hQ a w hi)
  | .seq x y, hB, st, st', ex, h, a, w, Q, hi, hQ => by
    simp only [codeB, Bool.and_eq_true] at hB
    simp only [execA, Option.bind_eq_some_iff] at h
    obtain ⟨⟨ex1, st1⟩, h1, h2⟩ := h
    refine wp_seq (execA_ok hcf hdr hb0 x hB.1 st st1 ex1 h1 a w _ hi fun a' w' hi' => ?_)
    cases ex1 with
    | norm => exact execA_ok hcf hdr hb0 y hB.2 st1 st' ex h2 a' w' Q hi' hQ
    | exit id =>
      simp only [Option.some.injEq, Prod.mk.injEq] at h2
      obtain ⟨rfl, rfl⟩ := h2
      exact hQ a' w' hi'
    | ret =>
      simp only [Option.some.injEq, Prod.mk.injEq] at h2
      obtain ⟨rfl, rfl⟩ := h2
      exact hQ a' w' hi'
  | .cond k x y, hB, st, st', ex, h, a, w, Q, hi, hQ => by
    simp only [codeB, Bool.and_eq_true] at hB
    simp only [execA, Option.bind_eq_some_iff] at h
    obtain ⟨t, ht, h⟩ := h
    have hk : a.eval k = .bool t := by
      obtain ⟨hn, c, Lo, lam, rfl, f, e⟩ := hi
      have hk := opnd_SR f k
      unfold boolA at ht
      split at ht
      · rename_i b hb
        cases ht
        rw [hb] at hk
        simpa [SR, VR] using hk
      · cases ht
    refine wp_cond hk ?_
    cases t with
    | true => exact execA_ok hcf hdr hb0 x hB.1 st st' ex (by simpa using h) a w Q hi hQ
    | false => exact execA_ok hcf hdr hb0 y hB.2 st st' ex (by simpa using h) a w Q hi hQ
  | .block id x, hB, st, st', ex, h, a, w, Q, hi, hQ => by
    simp only [codeB] at hB
    simp only [execA, Option.map_eq_some_iff] at h
    obtain ⟨⟨ex1, st1⟩, h1, h2⟩ := h
    refine wp_block (execA_ok hcf hdr hb0 x hB st st1 ex1 h1 a w _ hi fun a' w' hi' => ?_)
    cases ex1 with
    | norm =>
      simp only [Prod.mk.injEq] at h2
      obtain ⟨rfl, rfl⟩ := h2
      exact hQ a' w' hi'
    | exit id' =>
      simp only [Prod.mk.injEq] at h2
      obtain ⟨rfl, rfl⟩ := h2
      have := hQ a' w' hi'
      simp only [Ex.exit', Exit.inBlock]
      split
      · rename_i he; rw [if_pos he] at this; exact this
      · rename_i he; rw [if_neg he] at this; exact this
    | ret =>
      simp only [Prod.mk.injEq] at h2
      obtain ⟨rfl, rfl⟩ := h2
      exact hQ a' w' hi'
  | .loop x, hB, st, st', ex, h, a, w, Q, hi, hQ => by
    simp only [codeB] at hB
    simp only [execA] at h
    have key : ∀ (j : Nat) (st : St), iterA (execA P cf A m x) j st = some (ex, st') → ∀ a w, Inv L0 c0 n [] (st.open A) a w → LoopWP P x Q a w := by
      intro j
      induction j with
      | zero => intro st h; simp [iterA] at h
      | succ j ih =>
        intro st h a w hi
        simp only [iterA, Option.bind_eq_some_iff] at h
        obtain ⟨⟨ex1, st1⟩, h1, h2⟩ := h
        refine LoopWP.step (execA_ok hcf hdr hb0 x hB st st1 ex1 h1 a w _ hi fun a' w' hi' => ?_)
        cases ex1 with
        | norm => exact ih st1 h2 a' w' hi'
        | exit id =>
          simp only [Option.some.injEq, Prod.mk.injEq] at h2
          obtain ⟨rfl, rfl⟩ := h2
          exact hQ a' w' hi'
        | ret =>
          simp only [Option.some.injEq, Prod.mk.injEq] at h2
          obtain ⟨rfl, rfl⟩ := h2
          exact hQ a' w' hi'
    exact LoopWP.loop (key m st h a w hi)
  | .region id ops draw, hB, st, st', ex, h, a, w, Q, hi, hQ => by
    simp only [codeB] at hB
    simp only [execA, Option.bind_eq_some_iff, Option.map_eq_some_iff, Prod.mk.injEq] at h
    obtain ⟨s0, h0, s', h1, s2, h2, rfl, rfl⟩ := h
    replace hi := hi.frzA h0
    cases draw with
    | true =>
      simp only [if_true] at h1
      exact hdr L0 c0 n A.locs id ops _ s' h1 hb0 hB a w Q (hi.wide _) fun a' w' hi' => hQ a' w' ((hi'.frzA h2).shutD A id)
    | false =>
      simp only [Bool.false_eq_true, if_false] at h1
      exact wp_region_list (runA_ok hcf hb0 rfl hB (fun a' w' hi' => hQ a' w' ((hi'.frzA h2).shutD A id)) ops.toList _ (fun _ h => h) h1 a w (hi.wide _))
  | .rangeFunc .., _, st, st', ex, h, _, _, _, _, _ => by simp [execA] at h
  | .scope .., _, st, st', ex, h, _, _, _, _, _ => by simp [execA] at h
  | .goto .., _, st, st', ex, h, _, _, _, _, _ => by simp [execA] at h
  | .refuse .., _, st, st', ex, h, _, _, _, _, _ => by simp [execA] at h
theorem resA_ok {c : Cx} {Lo : Nat → Prop} {lam : Nat → Nat} {a : Act} (f : Fr L0 c Lo lam ds s a) : ∀ (rs : List ResultVar) (l : List AV), resA P s rs = some l → l.all AV.argOK = true →
    ∃ vs : List Value, (rs.mapM (m := Sem) fun | .tmp t => pure (a.tmps.getD t undef) | .cell x t => do loadVar t (← asAddr (a.tmps.getD x undef))).run P c.w = .ok vs c.w ∧ VRs c (un L0 Lo) l vs
  | [], l, h, _ => by
    simp only [resA, Option.some.injEq] at h
    subst h
    exact ⟨[], rfl, trivial⟩
  | .tmp t :: rs, l, h, hl => by
    simp only [resA, Option.map_eq_some_iff] at h
    obtain ⟨l', h1, rfl⟩ := h
    simp only [List.all_cons, Bool.and_eq_true] at hl
    obtain ⟨vs, h2, h3⟩ := resA_ok f rs l' h1 hl.2
    refine ⟨a.tmps.getD t undef :: vs, ?_, (f.slot t).vr (argOK_ne hl.1), h3⟩
    simp only [List.mapM_cons, Sem.run_bind, Sem.run_pure, Result.andThen_ok, h2]
  | .cell x t :: rs, l, h, hl => by
    simp only [resA, Option.bind_eq_some_iff, Option.map_eq_some_iff] at h
    obtain ⟨y, hy, l', h1, rfl⟩ := h
    simp only [List.all_cons, Bool.and_eq_true] at hl
    obtain ⟨vs, h2, h3⟩ := resA_ok f rs l' h1 hl.2
    have hx := f.slot x
    obtain ⟨u, hr, hu⟩ := run_loadAt (P := P) f (t := t) hx hy
    have hp : ∃ ad, a.tmps.getD x undef = .pointer (some ad) := by
      unfold loadA at hy
      cases hq : s.ρ x <;> rw [hq] at hy hx <;> simp only at hy <;> try (cases hy; done)
      · simp only [SR, VR] at hx; obtain ⟨_, ad, h, _⟩ := hx; exact ⟨ad, h⟩
      · simp only [SR] at hx; exact ⟨_, hx.1⟩
      · simp only [SR, VR] at hx; obtain ⟨_, _, h, _⟩ := hx; exact ⟨_, h⟩
    obtain ⟨ad, hp⟩ := hp
    rw [hp] at hr
    have hr' : (loadVar t ad).run P c.w = .ok u c.w := by simpa [Instr.loadAt, Instr.sureAddr] using hr
    refine ⟨u :: vs, ?_, hu, h3⟩
    have ha : (asAddr (a.tmps.getD x undef)).run P c.w = .ok ad c.w := by rw [hp]; rfl
    simp only [List.mapM_cons, Sem.run_bind, Sem.run_pure, Result.andThen_ok, h2, ha, hr']
theorem un_none0 : un L0 none0 = L0 := by funext b; simp [un, none0]
theorem Ext.close {c c' : Cx} {Lo' : Nat → Prop} (e : Ext c none0 c' Lo') : Ext c none0 c' none0 :=
  ⟨e.next, e.live, e.size, e.keep, e.exact, e.base, e.img, fun _ h => h, fun _ h => h.elim, e.os, e.tape, e.output⟩
theorem HRel.anti {c : Cx} {L L' : Nat → Prop} (hL : ∀ b, L' b → L b) (h : HRel c L) : HRel c L' :=
  ⟨h.lt, fun id o ho => by
    have := h.obj id o ho
    cases o with
    | cells cs => obtain ⟨m, h1, h2, h3⟩ := this; exact ⟨m, h1, h2, Cells.anti hL _ _ _ h3⟩
    | row t cs => obtain ⟨h0, C, h1, h2, h4, h3⟩ := this; exact ⟨h0, C, h1, h2, h4, Cells.anti hL _ _ _ h3⟩
    | map es =>
      obtain ⟨ents, clock, h1, h2⟩ := this
      refine ⟨ents, clock, h1, ?_⟩
      clear h1
      have : ∀ (es : List (AV × AV)) (ms : List MapEntry), EntR c L es ms → EntR c L' es ms := by
        intro es
        induction es with
        | nil => intro ms h; cases ms with | nil => trivial | cons m ms => exact h.elim
        | cons e es ih => intro ms h; cases ms with
          | nil => exact h.elim
          | cons m ms => obtain ⟨h1, h2, h3⟩ := h; exact ⟨⟨VR.anti hL _ _ h1.1, h1.2⟩, VR.anti hL _ _ h2, ih _ h3⟩
      exact this _ _ h2, h.inj, fun id hl hb => h.out id hl (hL _ hb), fun b hb => h.bd b (hL b hb), h.low, h.ver⟩
structure Fit (P : Program) : Prop where
  mixed : P.follows .mixedOrders = true
  codes : ∀ (f : FuncId) fn c, P.funcs[f]? = some fn → fn.body = some c → codeB fn.ntmps c = true ∧ fn.name ≠ "runtime.NumGoroutine"
def IntrOK (P : Program) (intr : FuncId → Option (List AV → AHeap → Option (AV × AHeap))) : Prop :=
  ∀ f g, intr f = some g → (CallOK P fun f' args h => if f' = f then g args h else none) ∧ ∀ args h r h', g args h = some (r, h') → Steady h h'
theorem callFunc_enter {f : FuncId} {fn : Func} {c : Code} (hf : P.funcs[f]? = some fn) (hc : fn.body = some c) (hn : fn.name ≠ "runtime.NumGoroutine") (vs : Array Value) (w : World) : (callFunc f vs).run P w = .ok (.enter f vs) w := by
  have hn' : (fn.name == "runtime.NumGoroutine") = false := by simpa using hn
  simp [callFunc, program, Sem.run, hf, hn, hc]
theorem bodyA_ok (hP : Fit P) {ann : FuncId → Ann} {cf : CallF} (ih : CallOK P cf) (hdr : DrawOK P cf) (m : Nat) : CallOK P (bodyA P ann cf m) := by
  intro f args h r h' hc
  unfold bodyA at hc
  rw [Option.bind_eq_some_iff] at hc
  obtain ⟨fn, hf, hc⟩ := hc
  rw [Option.bind_eq_some_iff] at hc
  obtain ⟨c, hb, hc⟩ := hc
  obtain ⟨hB, hname⟩ := hP.codes f fn c hf hb
  refine ⟨callFunc_enter hf hb hname, fun L0 c0 vs hh hb0 hrel hargs => ?_⟩
  split at hc
  rotate_left
  · cases hc
  rename_i hlen
  rw [Option.bind_eq_some_iff] at hc
  obtain ⟨⟨ex, st⟩, hex, hc⟩ := hc
  have hl := hargs.length
  refine calls_of_wp hf hb ?_
  refine execA_ok (L0 := L0) (c0 := c0) (n := fn.ntmps) ih hdr hb0 c hB _ _ _ hex _ _ _ ?_ ?_
  · refine ⟨by simp; omega, c0, none0, fun _ => 0, rfl, ⟨hh, by rw [un_none0]; exact hrel, fun t => ?_, fun k cs hk => ?_, fun k k' hk => ?_, fun t k off _ he => ?_, rfl, fun b hb => hb.elim⟩, Ext.refl _ _⟩
    · simp only [St.open, argsVars, look_mem]
      split
      · by_cases ht : t < args.length
        · obtain ⟨v, hv, hr⟩ := hargs.get t args[t] (by simp [ht])
          have : args.getD t AV.any = args[t] := by simp [ht]
          rw [this, Array.getD_eq_getD_getElem?, Array.getElem?_append_left (by simp; omega)]
          have hv' : vs.toArray[t]? = some v := by simpa using hv
          rw [hv']
          exact SR.of (by rw [un_none0]; exact hr)
        · have : args.getD t AV.any = .any := by simp [List.getElem?_eq_none (Nat.not_lt.1 ht)]
          rw [this]
          exact SR.of (by simp [VR])
      · exact SR.of (by simp [VR])
    · simp only [St.open, look_mem] at hk
      split at hk <;> cases hk
    · simp only [St.open, look_mem] at hk
      split at hk <;> cases hk
    · simp only [St.open, argsVars, look_mem] at he
      split at he
      · by_cases ht : t < args.length
        · obtain ⟨v, hv, hr⟩ := hargs.get t args[t] (by simp [ht])
          have h1 : args.getD t AV.any = args[t] := by simp [ht]
          rw [h1] at he
          rw [he] at hr
          exact hr.elim
        · have : args.getD t AV.any = .any := by simp [List.getElem?_eq_none (Nat.not_lt.1 ht)]
          rw [this] at he
          cases he
      · cases he
  · intro a' w' hi'
    have hfin : (resultA P (st.open (ann f)) fn.results.toList).map (fun r => (r, st.h)) = some (r, h') → a'.defers = [] ∧ ∃ v, (results fn a'.tmps).run P w' = .ok v w' ∧ (∃ c' v', Ending.returned v = .returned v' ∧ c'.w = w' ∧ c'.h = h' ∧ VR c' L0 r v' ∧ HRel c' L0 ∧ Ext c0 none0 c' none0) := by
      intro hc
      rw [Option.map_eq_some_iff] at hc
      obtain ⟨r', hr', he⟩ := hc
      cases he
      obtain ⟨hn, c', Lo, lam, rfl, f', e'⟩ := hi'
      refine ⟨f'.defers, ?_⟩
      unfold resultA at hr'
      rw [Option.bind_eq_some_iff] at hr'
      obtain ⟨l, hl, hr'⟩ := hr'
      split at hr'
      rotate_left
      · cases hr'
      rename_i hall
      obtain ⟨us, hus, hvr⟩ := resA_ok f' _ _ hl hall
      have hvr' : VRs c' L0 l us := VRs.anti (fun b hb => .inl hb) _ _ hvr
      have hrun : (results fn a'.tmps).run P c'.w = .ok (if h : us.toArray.size = 1 then us.toArray[0] else .tuple us.toArray) c'.w := by
        unfold results
        rw [← Array.toArray_toList (xs := fn.results)]
        rw [List.mapM_toArray]
        simp only [Sem.run_bind, Sem.run_map, Result.andThen_ok, Sem.run_pure]
        exact (congrArg (fun z => (Result.andThen z (fun (a : List Value) w' => Result.ok a.toArray w')).andThen (fun (a : Array Value) w' => Result.ok (if h : a.size = 1 then a[0] else Value.tuple a) w')) hus).trans rfl
      refine ⟨_, hrun, c', _, rfl, rfl, f'.h, ?_, HRel.anti (fun b hb => .inl hb) f'.rel, e'.close⟩
      split at hr'
      · rename_i x
        cases hr'
        cases us with
        | nil => exact hvr'.elim
        | cons u us => cases us with
          | nil => exact hvr'.1
          | cons u2 us => exact hvr'.2.elim
      · rename_i hne
        cases hr'
        have hne1 : us.length ≠ 1 := by
          intro h1
          rw [← hvr'.length] at h1
          cases l with
          | nil => simp at h1
          | cons x l => cases l with
            | nil => exact hne x rfl
            | cons y l => simp at h1
        have : ¬ us.toArray.size = 1 := by simpa using hne1
        rw [dif_neg this]
        simp only [VR]
        exact ⟨us.toArray, rfl, hvr'⟩
    cases ex with
    | norm => exact hfin hc
    | ret => exact hfin hc
    | exit id => cases hc
end
end Go.R

namespace Go.R
open Go
def RS.shift (s2 : RS) (f : Foot) (d : Option Nat) (s' : RS) : RS :=
  { ρ := match d with | none => s2.ρ | some d => fun t => if t = d then s'.ρ d else s2.ρ t
    bx := match f.wb with | none => s2.bx | some k => fun t => if t = k then s'.bx k else s2.bx t
    h := if f.wh then s'.h else s2.h }
theorem RS.ext' {s t : RS} (h1 : ∀ i, s.ρ i = t.ρ i) (h2 : ∀ i, s.bx i = t.bx i) (h3 : s.h = t.h) : s = t := by
  cases s; cases t
  congr
  · exact funext h1
  · exact funext h2
theorem shift_val (s s2 : RS) (f : Foot) (d : Option Nat) (z : AV) (hw : f.wb = none) (hh : f.wh = false) : s2.set d z = s2.shift f d (s.set d z) := by
  refine RS.ext' (fun i => ?_) (fun i => ?_) ?_
  · cases d with
    | none => rfl
    | some d => simp only [set_ρ, RS.shift, if_true]
  · simp only [RS.shift, hw]; cases d <;> rfl
  · simp only [RS.shift, hh]; cases d <;> rfl
theorem set_h (s : RS) (d : Option Nat) (z : AV) : (s.set d z).h = s.h := by cases d <;> rfl
theorem set_bx (s : RS) (d : Option Nat) (z : AV) : (s.set d z).bx = s.bx := by cases d <;> rfl
theorem box_bx (s : RS) (k i : Nat) (cs : List AV) : (s.box k cs).bx i = if i = k then some cs else s.bx i := by
  simp only [RS.box, beq_nat]
  by_cases h : i = k <;> simp [h]
theorem shift_heap (s s2 : RS) (f : Foot) (d : Option Nat) (z : AV) (h' : AHeap) (hw : f.wb = none) (hh : f.wh = true) : ({ s2 with h := h' } : RS).set d z = s2.shift f d (({ s with h := h' } : RS).set d z) := by
  refine RS.ext' (fun i => ?_) (fun i => ?_) ?_
  · cases d with
    | none => rfl
    | some d => simp only [set_ρ, RS.shift, if_true]
  · simp only [RS.shift, hw]; cases d <;> rfl
  · simp only [RS.shift, hh]; cases d <;> rfl
theorem shift_box (s s2 : RS) (f : Foot) (k : Nat) (cs : List AV) (hw : f.wb = some k) (hh : f.wh = false) : s2.box k cs = s2.shift f none (s.box k cs) := by
  refine RS.ext' (fun i => rfl) (fun i => ?_) ?_
  · simp only [box_bx, RS.shift, hw, if_true]
  · simp only [RS.shift, hh]; rfl
section
variable {P : Program} {cf : CallF} {locs ds : List Nat} {o : Oper} {s s' s2 : RS}
theorem newBox_local {cs : List AV} {f : Foot} (h : newBox s locs ds o cs = some s') (hf : f = (match o.dst with
    | some d => if locs.contains d then { wb := some d, al := true } else { wh := true }
    | none => {})) (hh : f.wh = true → s2.h = s.h) (hal : f.al = true → ∀ d, o.dst = some d → noLp d s2.ρ (ds.filter fun t => !Nat.beq t d) = true) :
    newBox s2 locs ds o cs = some (s2.shift f o.dst s') := by
  unfold newBox at h ⊢
  split at h
  rotate_left
  · cases h
  rename_i hok
  rw [if_pos hok]
  cases hd : o.dst with
  | none => rw [hd] at h; cases h
  | some d =>
    rw [hd] at h hf
    simp only at h hf ⊢
    by_cases hl : locs.contains d = true
    · rw [if_pos hl] at h hf ⊢
      subst hf
      split at h
      rotate_left
      · cases h
      cases h
      rw [if_pos (hal rfl d hd)]
      congr 1
      refine RS.ext' (fun i => ?_) (fun i => ?_) ?_
      · simp only [set_ρ, RS.shift, if_true]; rfl
      · simp only [set_bx, box_bx, RS.shift, if_true]
      · simp only [set_h, RS.shift]; rfl
    · rw [if_neg hl] at h hf ⊢
      subst hf
      cases h
      rw [hh rfl]
      congr 1
      exact shift_heap s s2 { wh := true } (some d) _ _ rfl rfl
theorem opE_local {e : Operand → AV} (h : opE P cf locs ds e s o = some s') (hb : ∀ k ∈ (footE locs e o).rb, s2.bx k = s.bx k) (hr : ∀ id ∈ (footE locs e o).rh, s2.h.get id = s.h.get id)
    (hh : (footE locs e o).wh = true → s2.h = s.h) (hal : (footE locs e o).al = true → ∀ d, o.dst = some d → noLp d s2.ρ (ds.filter fun t => !Nat.beq t d) = true) :
    opE P cf locs ds e s2 o = some (s2.shift (footE locs e o) o.dst s') := by
  have hval : ∀ {x x2 : Option AV} (f : Foot), (x.map fun x => s.set o.dst x) = some s' → (x2 = x) → f.wb = none → f.wh = false → (x2.map fun x => s2.set o.dst x) = some (s2.shift f o.dst s') := by
    intro x x2 f hx h2 h3 h4
    obtain ⟨z, rfl, rfl⟩ := Option.map_some' hx
    subst h2
    simp only [Option.map_some]
    rw [← shift_val s s2 f o.dst z h3 h4]
  have hheap : ∀ {α : Type} {x x2 : Option α} (f : Foot) (g : α → AV) (k : α → AHeap), (x.map fun y => ({ s with h := k y } : RS).set o.dst (g y)) = some s' → (x2 = x) → f.wb = none → f.wh = true →
      (x2.map fun y => ({ s2 with h := k y } : RS).set o.dst (g y)) = some (s2.shift f o.dst s') := by
    intro α x x2 f g k hx h2 h3 h4
    obtain ⟨z, rfl, rfl⟩ := Option.map_some' hx
    subst h2
    simp only [Option.map_some]
    rw [← shift_heap s s2 f o.dst (g z) (k z) h3 h4]
  unfold opE at h ⊢
  dsimp only at h ⊢
  split at h
  · rename_i x ho; cases h; simp only [Option.some.injEq]; exact shift_val s s2 _ _ _ (by simp [footE, ho]) (by simp [footE, ho])
  · rename_i x ho; cases h; simp only [Option.some.injEq]; exact shift_val s s2 _ _ _ (by simp [footE, ho]) (by simp [footE, ho])
  · rename_i k x y ho
    obtain ⟨t, ht, rfl⟩ := Option.map_some' h
    simp only [ht, Option.map_some, Option.some.injEq]
    exact shift_val s s2 _ _ _ (by simp [footE, ho]) (by simp [footE, ho])
  · rename_i t ho
    rw [Option.bind_eq_some_iff] at h
    obtain ⟨z, hz, h⟩ := h
    simp only [hz, Option.bind_some]
    exact newBox_local h (by simp only [footE, ho]; rfl) hh hal
  · rename_i t x ho
    exact newBox_local h (by simp only [footE, ho]; rfl) hh hal
  · rename_i t ps ho; exact hval _ h rfl (by simp [footE, ho]) (by simp [footE, ho])
  · rename_i t k ps ho
    obtain ⟨z, hz, rfl⟩ := Option.map_some' h
    simp only [hz, Option.map_some, Option.some.injEq]
    have hf : footE locs e o = (match o.dst with | some d => if locs.contains d then { wh := true } else {} | none => {}) := by simp only [footE, ho]; rfl
    unfold trackA
    cases htr : trackV P locs o t z with
    | none =>
      simp only
      cases hd : o.dst with
      | none => rw [hd] at hf; rw [hf]; exact shift_val s s2 _ none _ rfl rfl
      | some d =>
        rw [hd] at hf
        simp only at hf
        by_cases hl : locs.contains d = true
        · rw [if_pos hl] at hf
          have h2 := hh (by rw [hf])
          rw [hf]
          have h3 := shift_heap s s2 { wh := true } (some d) z s2.h rfl rfl
          refine h3.trans ?_
          rw [h2]
        · rw [if_neg hl] at hf
          rw [hf]; exact shift_val s s2 _ _ _ rfl rfl
    | some q =>
      obtain ⟨d, hd, hl⟩ : ∃ d, o.dst = some d ∧ locs.contains d = true := by
        unfold trackV at htr
        split at htr
        · rename_i d _ _ _ hd
          refine ⟨d, hd, ?_⟩
          cases hc : locs.contains d with
          | false => rw [hc] at htr; cases htr
          | true => rfl
        · cases htr
      rw [hd] at hf
      simp only [hl, if_true] at hf
      rw [hf] at hh ⊢
      simp only [hh rfl]
      exact shift_heap s s2 _ _ _ _ rfl rfl
  · 
    rename_i t x ho
    have hf : footE locs e o = (match e x with | .lp k _ => { rb := [k] } | .ptr id _ => { rh := [id] } | _ => {}) := by simp only [footE, ho]; rfl
    refine hval _ h ?_ ?_ ?_
    · rw [hf] at hb hr
      unfold loadA
      cases hx : e x <;> rw [hx] at hb hr <;> try rfl
      · simp only; rw [hr _ (by simp)]
      · simp only; rw [hb _ (by simp)]
    · rw [hf]; cases e x <;> rfl
    · rw [hf]; cases e x <;> rfl
  · 
    rename_i t x y ho
    have hf : footE locs e o = (match e x with | .lp k _ => { rb := [k], wb := some k } | _ => { wh := true }) := by simp only [footE, ho]; rfl
    try simp only at h ⊢
    split at h
    · cases h
    rename_i hd
    rw [if_neg hd]
    have hd' : o.dst = none := by simpa using hd
    cases hx : e x <;> rw [hx] at h hf <;> simp only at h hf ⊢ <;> try (cases h; done)
    · rename_i id off
      rw [hf] at hh ⊢
      rw [Option.bind_eq_some_iff] at h
      obtain ⟨ob, hob, h⟩ := h
      rw [hh rfl, hob]
      cases ob with
      | map es => cases h
      | row t cs => cases h
      | cells cs =>
        obtain ⟨cs', hcs, rfl⟩ := Option.map_some' h
        simp only [Option.bind_some, hcs, Option.map_some, hd', Option.some.injEq]
        exact shift_heap s s2 { wh := true } none .any _ rfl rfl
    · rename_i k off
      rw [hf] at hb ⊢
      rw [Option.bind_eq_some_iff] at h
      obtain ⟨cs, hcs, h⟩ := h
      rw [hb k (by simp), hcs]
      obtain ⟨cs', hcs', rfl⟩ := Option.map_some' h
      simp only [Option.bind_some, hcs', Option.map_some, hd', Option.some.injEq]
      exact shift_box s s2 _ k cs' rfl rfl
  · rename_i ho; exact hval _ h rfl (by simp [footE, ho]) (by simp [footE, ho])
  · rename_i ho; exact hval _ h rfl (by simp [footE, ho]) (by simp [footE, ho])
  · rename_i ho; exact hval _ h rfl (by simp [footE, ho]) (by simp [footE, ho])
  · 
    rename_i a b x ho
    have hf : footE locs e o = (match e x with | .rs id _ _ _ => { rh := [id] } | _ => {}) := by simp only [footE, ho]; rfl
    refine hval _ h ?_ ?_ ?_
    · have hc : cellsOfA s2.h 1 (e x) = cellsOfA s.h 1 (e x) := by
        rw [hf] at hr
        unfold cellsOfA
        cases hx : e x <;> rw [hx] at hr <;> try rfl
        simp only; rw [hr _ (by simp)]
      unfold convertA
      rw [hc]
    · rw [hf]; cases e x <;> rfl
    · rw [hf]; cases e x <;> rfl
  · rename_i fid first cap ho
    try simp only
    split at h
    · rename_i hc
      rw [if_pos hc]
      exact hval _ h rfl (by simp [footE, ho]) (by simp [footE, ho])
    · cases h
  · rename_i ho
    have hf : (footE locs e o).wh = true := by simp [footE, ho]
    cases h
    simp only [hh hf, Option.some.injEq]
    exact shift_heap s s2 _ _ _ _ (by simp [footE, ho]) hf
  · rename_i t l c ho
    have hf : (footE locs e o).wh = true := by simp [footE, ho]
    exact hheap _ (fun y : AV × AHeap => y.1) (fun y => y.2) h (by simp only [hh hf]) (by simp [footE, ho]) hf
  · rename_i ho; exact hval _ h rfl (by simp [footE, ho]) (by simp [footE, ho])
  · rename_i ho; exact hval _ h rfl (by simp [footE, ho]) (by simp [footE, ho])
  · rename_i ho; exact hval _ h rfl (by simp [footE, ho]) (by simp [footE, ho])
  · rename_i ho; exact hval _ h rfl (by simp [footE, ho]) (by simp [footE, ho])
  · rename_i ho; exact hval _ h rfl (by simp [footE, ho]) (by simp [footE, ho])
  · 
    rename_i t m k ok ho
    have hf : footE locs e o = (match e m with | .mp id => { rh := [id] } | _ => {}) := by simp only [footE, ho]; rfl
    refine hval _ h ?_ ?_ ?_
    · rw [hf] at hr
      unfold lookupA
      cases hx : e m <;> rw [hx] at hr <;> try rfl
      simp only; rw [hr _ (by simp)]
    · rw [hf]; cases e m <;> rfl
    · rw [hf]; cases e m <;> rfl
  · rename_i t m k x ho
    have hf : (footE locs e o).wh = true := by simp [footE, ho]
    try simp only at h ⊢
    split at h
    · cases h
    rename_i hd
    rw [if_neg hd]
    have hd' : o.dst = none := by simpa using hd
    obtain ⟨h', hm, rfl⟩ := Option.map_some' h
    simp only [hh hf, hm, Option.map_some, hd', Option.some.injEq]
    exact shift_heap s s2 _ none .any _ (by simp [footE, ho]) hf
  · rename_i t m k x ho
    have hf : (footE locs e o).wh = true := by simp [footE, ho]
    try simp only at h ⊢
    split at h
    · cases h
    rename_i hd
    rw [if_neg hd]
    have hd' : o.dst = none := by simpa using hd
    obtain ⟨h', hm, rfl⟩ := Option.map_some' h
    simp only [hh hf, hm, Option.map_some, hd', Option.some.injEq]
    exact shift_heap s s2 _ none .any _ (by simp [footE, ho]) hf
  · rename_i ho; exact hval _ h rfl (by simp [footE, ho]) (by simp [footE, ho])
  · 
    rename_i b args ats ho
    try simp only
    unfold callBuiltin at h ⊢
    generalize hargs : args.toList.map e = as at h ⊢
    generalize ats.toList = ts at h ⊢
    split at h
    · rename_i t x
      try simp only
      have hf : footE locs e o = (match x with | .mp id => { rh := [id] } | _ => {}) := by
        simp only [footE, ho, hargs]
        cases x <;> rfl
      refine hval _ h ?_ ?_ ?_
      · rw [hf] at hr
        unfold lenA
        cases x <;> try rfl
        simp only; rw [hr _ (by simp)]
      · rw [hf]; cases x <;> rfl
      · rw [hf]; cases x <;> rfl
    · try simp only
      have hf : (footE locs e o).wh = true ∧ (footE locs e o).wb = none := by simp only [footE, ho, hargs]; simp
      exact hheap _ (fun y : AV × AHeap => y.1) (fun y => y.2) h (by simp only [hh hf.1]) hf.2 hf.1
    · try simp only
      have hf : (footE locs e o).wh = true ∧ (footE locs e o).wb = none := by simp only [footE, ho, hargs]; simp
      exact hheap _ (fun y : AV × AHeap => y.1) (fun y => y.2) h (by simp only [hh hf.1]) hf.2 hf.1
    · try simp only
      have hf : (footE locs e o).wh = true ∧ (footE locs e o).wb = none := by simp only [footE, ho, hargs]; simp
      exact hheap _ (fun _ : AHeap => .tup []) (fun y => y) h (by simp only [hh hf.1]) hf.2 hf.1
    · try simp only
      rw [Option.bind_eq_some_iff] at h
      obtain ⟨v, hv, h⟩ := h
      rw [Option.bind_eq_some_iff] at h
      obtain ⟨vs, hvs, h⟩ := h
      rw [Option.bind_eq_some_iff] at h
      obtain ⟨u, hu, h⟩ := h
      simp only [hv, hvs, hu, Option.bind_some]
      exact hval _ h rfl (by simp [footE, ho]) (by simp [footE, ho])
    · try simp only
      rw [Option.bind_eq_some_iff] at h
      obtain ⟨v, hv, h⟩ := h
      rw [Option.bind_eq_some_iff] at h
      obtain ⟨vs, hvs, h⟩ := h
      rw [Option.bind_eq_some_iff] at h
      obtain ⟨u, hu, h⟩ := h
      simp only [hv, hvs, hu, Option.bind_some]
      exact hval _ h rfl (by simp [footE, ho]) (by simp [footE, ho])
    · cases h
  · 
    rename_i fx args ats ho
    have hf : (footE locs e o).wh = true ∧ (footE locs e o).wb = none := by simp [footE, ho]
    try simp only
    cases hx : e fx <;> rw [hx] at h <;> simp only at h ⊢ <;> try (cases h; done)
    rename_i fid cap
    split at h
    · rename_i ha
      rw [if_pos ha]
      exact hheap _ (fun y : AV × AHeap => y.1) (fun y => y.2) h (by simp only [hh hf.1]) hf.2 hf.1
    · cases h
  · cases h
end
end Go.R

