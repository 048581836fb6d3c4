/- copy -/
import Derived.Test.YtmekcfdllhphlaaDoorROps5
set_option linter.unusedVariables false
set_option linter.unusedSimpArgs false
namespace Go.R
open Go

section
variable {P : Program} {L0 : Nat → Prop} {c0 : Cx} {n : Nat} {ds : List Nat} {o : Oper} {s : RS}

theorem run_copySrc {w : World} {t t2 ty e : TypeId} {i : TypeInfo} (ht : P.underlying t = some (.slice e)) (hi : P.info? e = some i) {base : Option Addr} {len cap : Nat} {x : Value} {news : List Value} {m : Nat} (hs : Src P i.size t2 x m news w) (hm : m ≤ len) :
    (Builtin.copy_ #[t, t2] ty #[.slice base len cap, x]).run P w = match base with | none => .ok (goInt m) w | some a => ((storeCells a news).run P w).andThen fun _ w' => .ok (goInt m) w' := by
  have hmin : Nat.min m len = m := Nat.min_eq_left hm
  have hlen := hs.len w
  have hc := hs.cells
  have hsz : (sizeOf e).run P w = .ok i.size w := by simp [sizeOf, typeInfo, hi]
  unfold Builtin.copy_
  cases base with
  | none => simp [run_und ht, hlen, hmin, hsz, hc]
  | some a => simp [run_und ht, hlen, hmin, hsz, hc, Sem.run_bind]

theorem op_copy (hb0 : c0.base ≤ c0.w.heap.size) (hd : DstOK n ds o) {t t2 : TypeId} {dx sx : Operand} (ho : o.op = .call { callee := .builtin .copy, args := #[dx, sx], argTypes := #[t, t2] }) {y : AV} {h' : AHeap}
    (h : copyA P s.h t t2 (opnd s.ρ dx) (opnd s.ρ sx) = some (y, h')) : OpOK P L0 c0 n ds o s ({ s with h := h' }.set o.dst y) := by
  rintro a w K Q ⟨hn, c, Lo, lam, rfl, f, e0⟩ hK
  have hbs := base_le e0 hb0
  unfold copyA at h
  rw [Option.bind_eq_some_iff] at h
  obtain ⟨d, hund, h⟩ := h
  cases d <;> simp only at h <;> try (cases h; done)
  rename_i e
  rw [Option.bind_eq_some_iff] at h
  obtain ⟨i, hi, h⟩ := h
  rw [Option.bind_eq_some_iff] at h
  obtain ⟨⟨new, m⟩, hcs, h⟩ := h
  simp only at h
  split at h
  · cases h
  rename_i hsrc
  have hsrc : srcOK P t2 (opnd s.ρ sx) = true := by simpa using hsrc
  have hk1 : ∀ st, opnd s.ρ sx = .str st → P.underlying t2 = some .string := by
    intro st hst
    rw [hst] at hsrc
    unfold srcOK at hsrc
    simp only at hsrc
    split at hsrc
    · assumption
    · cases hsrc
  have hk2 : (∀ st, opnd s.ρ sx ≠ .str st) → ∃ e', P.underlying t2 = some (.slice e') := by
    intro hne
    unfold srcOK at hsrc
    split at hsrc
    · rename_i st hst; exact absurd hst (hne st)
    · split at hsrc
      · rename_i e' he; exact ⟨e', he⟩
      · cases hsrc
  have hk : (∃ e', P.underlying t2 = some (.slice e')) ∨ P.underlying t2 = some .string := by
    by_cases hst : ∃ st, opnd s.ρ sx = .str st
    · obtain ⟨st, hst⟩ := hst; exact .inr (hk1 st hst)
    · exact .inl (hk2 fun st hst' => hst ⟨st, hst'⟩)
  obtain ⟨news, hS, hv⟩ := src_cells f (opnd_SR f sx) hk hk1 hk2 hcs
  have hdx := opnd_SR f dx
  have fin : ∀ c', (Builtin.copy_ #[t, t2] o.type #[a.eval dx, a.eval sx]).run P c.w = .ok (goInt m) c'.w → Ext c Lo c' Lo → Fr L0 c' Lo lam ds { s with h := h' } a → y = .int .i64 m → o.wp P a c.w K Q := by
    intro c' hr e' f' hy
    unfold Oper.wp
    have : (execOp a.eval o).run P c.w = .ok (.value (goInt m)) c'.w := by
      simp [execOp, ho, resolve, invoke, builtin, hr]
    rw [this, Oper.upon_value]
    exact hK _ _ ⟨(put_size _ _ _).trans hn, c', Lo, lam, rfl, f'.set (SR.of (by subst hy; simp [VR, goInt])) (fun t ht => by rw [hn]; exact hd t ht), e0.trans e'⟩
  cases hxx : opnd s.ρ dx <;> rw [hxx] at h hdx <;> simp only at h <;> try (cases h; done)
  · split at h
    rotate_left
    · cases h
    rename_i hm0
    cases h
    simp only [SR, VR] at hdx
    obtain ⟨ad, hdx⟩ : ∃ ad : Option Addr, a.eval dx = .slice ad 0 0 := ⟨none, hdx⟩
    refine fin c ?_ (Ext.refl _ _) f (by rw [hm0]; rfl)
    rw [hdx, run_copySrc hund hi hS (by omega)]
    cases ad with
    | none => rfl
    | some ad =>
      have : news = [] := List.eq_nil_of_length_eq_zero (by rw [hS.newsLen, hm0]; simp)
      subst this
      rfl
  · rename_i id off len esz
    rw [Option.bind_eq_some_iff] at h
    obtain ⟨ob, hob, h⟩ := h
    cases ob with
    | map es => cases h
    | row t cs => cases h
    | cells cs =>
    simp only at h
    split at h
    rotate_left
    · cases h
    rename_i hh
    obtain ⟨hesz, hml, hoff⟩ := hh
    cases h
    simp only [SR, VR] at hdx
    obtain ⟨hid, ad, cap, hdx, hlc, hsome, hlive⟩ := hdx
    rw [← f.h] at hob
    have hl : Live c.h id := ⟨f.rel.lt _ _ hob, by simp [hob]⟩
    obtain ⟨q, hp, hq, hc⟩ := f.rel.obj _ _ hob
    have hnl := hS.newsLen
    have hvl := hv.length
    have hr := run_copySrc (ty := o.type) hund hi hS hml (base := ad) (cap := cap)
    by_cases ha : ad = some ⟨(c.β id).1, (c.β id).2 + off, none⟩
    · subst ha
      simp only at hr
      have hst := run_storePlain (P := P) hp.toPlain (base := (c.β id).2) (off := off) (vs := news) (by omega) hS.one
      rw [hst] at hr
      simp only [Result.andThen_ok] at hr
      obtain ⟨q1, q2, q3, q4⟩ := setCells_same news (c.β id).1 ((c.β id).2 + off) c.w
      have hpl : PlainS c (c.β id).1 q := hp
      obtain ⟨C, e'', hb, hm2⟩ := hp
      obtain ⟨C', g1, g2, g3⟩ := setCells_row news (c.β id).1 ((c.β id).2 + off) c.w C e'' (0, 0) hb (by omega)
      obtain ⟨e', f'⟩ := f.upd (w' := c.w.setCells (c.β id).1 ((c.β id).2 + off) news) (β' := c.β) (h' := s.h.put id (.cells (splice cs off new))) id (.cells (splice cs off new))
        (by rw [f.h]; exact Steady.put _ _ _) (by rw [← f.h]; exact Nat.lt_succ_of_lt hl.1) (by simp [AHeap.put, beq_nat]) (fun id' h1 => .inr ⟨by rw [f.h]; simp [AHeap.put, beq_nat, h1], rfl⟩) (fun _ => ⟨hl, rfl⟩) (.inr ⟨id, hl, rfl, .inl rfl⟩)
        (fun _ => by simp only [Cx.len, World.shape?, g1, hb, Option.map_some, Option.getD_some, g2])
        (fun b _ hne => setCells_far _ _ _ _ _ hne) (fun b _ hne => setCells_far _ _ _ _ _ hne) (by rw [q1]; exact Nat.le_refl _) hbs q2 q3 q4
        (fun ee => ⟨q, hpl.setCells (by omega) _ _ _, by rw [splice_length]; exact hq, cells_setCells hpl.toPlain hc hv hS.one (by omega) (by omega) ee rfl⟩)
      refine fin _ ?_ e' f' rfl
      rw [hdx]
      exact hr
    · have hz : new = [] ∧ m = 0 ∧ news = [] := by
        rcases hlive hl with ⟨h1, _⟩ | h1
        · exact absurd h1 ha
        · have h0 : m = 0 := by omega
          have h2 : news = [] := List.eq_nil_of_length_eq_zero (by rw [hnl, h0]; simp)
          subst h2
          exact ⟨List.eq_nil_of_length_eq_zero (by simpa using hvl), h0, rfl⟩
      obtain ⟨rfl, rfl, rfl⟩ := hz
      have hcell : splice cs off [] = cs := by simp [splice]
      rw [hcell] at *
      obtain ⟨e', f'⟩ := f.upd (w' := c.w) (β' := c.β) (h' := s.h.put id (.cells cs)) id (.cells cs)
        (by rw [f.h]; exact Steady.put _ _ _) (by rw [← f.h]; exact Nat.lt_succ_of_lt hl.1) (by simp [AHeap.put, beq_nat]) (fun id' h1 => .inr ⟨by rw [f.h]; simp [AHeap.put, beq_nat, h1], rfl⟩) (fun _ => ⟨hl, rfl⟩) (.inr ⟨id, hl, rfl, .inl rfl⟩)
        (fun _ => rfl) (fun b _ hne => rfl) (fun b _ hne => rfl) (Nat.le_refl _) hbs rfl rfl rfl
        (fun ee => ObjR.ext ee ⟨q, hp, hq, hc⟩ rfl)
      refine fin _ ?_ e' f' rfl
      rw [hdx, hr]
      cases ad <;> rfl
end
end Go.R
