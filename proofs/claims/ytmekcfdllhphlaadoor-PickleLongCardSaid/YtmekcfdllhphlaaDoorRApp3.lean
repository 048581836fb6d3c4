/- append. -/
import Derived.Test.YtmekcfdllhphlaaDoorRApp2
set_option linter.unusedVariables false
set_option linter.unusedSimpArgs false
namespace Go.R
open Go

section
variable {P : Program} {L0 : Nat → Prop} {c0 : Cx} {n : Nat} {ds : List Nat} {o : Oper} {s : RS}

theorem grownCap_ge (w : World) {need old : Nat} {e : TypeId} : need ≤ grownCap w need old e := by
  unfold grownCap
  simp only [Question.cut]
  omega

theorem zeroCells_size (z : Array Value) (k : Nat) : (Builtin.zeroCells z k).size = k * z.size := by simp [Builtin.zeroCells]

theorem run_append_zero (w : World) {t tx ty e : TypeId} {i : TypeInfo} (ht : P.underlying t = some (.slice e)) (hi : P.info? e = some i) {base : Option Addr} {len cap : Nat} (hlc : len ≤ cap) {x : Value} {news : List Value} (hs : Src P i.size tx x 0 news w) :
    (Builtin.append_ #[t, tx] ty #[.slice base len cap, x]).run P w = .ok (.slice base len cap) w := by
  have hnews : news = [] := List.eq_nil_of_length_eq_zero (by rw [hs.newsLen]; simp)
  have hc := hs.cells
  rw [hnews] at hc
  rcases hs.kind with ⟨e', hk⟩ | hk <;> cases base <;> simp [Builtin.append_, run_underlying ht, run_underlying hk, sizeOf, typeInfo, hi, hs.len, hlc, hc, storeCells]

theorem frozen_plain {c : Cx} {b m : Nat} (hp : Plain c b m) {j : Nat} (hj : j < m) : c.w.frozen? ⟨b, j, none⟩ = false := by
  obtain ⟨C, e, lo, hi, hb, hf, rfl⟩ := hp
  simp only [World.frozen?, hb]
  rcases hf with hf | hf
  · subst hf; simp
  · simp; omega

/-- A row that has grown lies in a new block. -/
theorem Fr.grown {c : Cx} {Lo : Nat → Prop} {lam : Nat → Nat} {a : Act} (f : Fr L0 c Lo lam ds s a) (hbs : c.base ≤ c.w.heap.size) {e : TypeId} {z : Value} {size need cap : Nat} (hzs : z.cells.size = size) (hcap : need ≤ cap) {xs : List AV} {vs : List Value} (hv : VRs c (un L0 Lo) xs vs) (h1 : ∀ v ∈ vs, v.oneCell' = true)
    (hl : vs.length = need * size) (h' : AHeap) (hg : h'.get c.h.next = some (.cells xs)) (hst : Steady c.h h') (hn : c.h.next < h'.next) (ho : ∀ id, id ≠ c.h.next → h'.get id = none ∨ h'.get id = c.h.get id) :
    ∃ c' : Cx, c'.w = c.w.drew.alloc (.cells (vs.toArray ++ Builtin.zeroCells z.cells (cap - need)) e) ∧ c'.h = h' ∧ Ext c Lo c' Lo ∧ Fr L0 c' Lo lam ds { s with h := h' } a ∧ VR c' (un L0 Lo) (.rs c.h.next 0 need size) (.slice (some ⟨c.w.heap.size, 0, none⟩) need cap) := by
  have hCs : (vs.toArray ++ Builtin.zeroCells z.cells (cap - need)).size = cap * size := by
    rw [Array.size_append, zeroCells_size, hzs, List.size_toArray, hl, ← Nat.add_mul]
    congr 1; omega
  have hxl := hv.length
  obtain ⟨β', e', f', hβ, hlive⟩ := f.freshK hbs c.w.drew ⟨rfl, rfl, rfl, rfl⟩ (.cells xs) (.cells (vs.toArray ++ Builtin.zeroCells z.cells (cap - need)) e) h' hg hst hn ho (fun c' e' hw => by
    refine ⟨_, plainS_new (w1 := c.w.drew) hw, ?_, cells_new (w1 := c.w.drew) hw (VRs.ext e' _ _ hv) (fun i hi => ?_) h1⟩
    · rw [hCs, Nat.zero_add, hxl, hl]; exact Nat.mul_le_mul_right _ hcap
    · rw [Array.getElem?_append_left (by simpa using hi)]; simp)
  refine ⟨_, rfl, rfl, e', f', ?_⟩
  simp only [VR]
  refine ⟨hlive.1, _, _, rfl, hcap, rfl, fun _ => .inl ?_⟩
  rw [hβ]
  refine ⟨rfl, ?_⟩
  have : (c.w.drew.alloc (.cells (vs.toArray ++ Builtin.zeroCells z.cells (cap - need)) e)).heap[c.w.heap.size]? = some (.cells (vs.toArray ++ Builtin.zeroCells z.cells (cap - need)) e) := alloc_new c.w.drew _
  simp only [Cx.len, World.shape?, this, Option.map_some, Option.getD_some, hCs]
  omega

theorem op_append (hb0 : c0.base ≤ c0.w.heap.size) (hd : DstOK n ds o) {t t2 : TypeId} {sx xx : Operand} (ho : o.op = .call { callee := .builtin .append, args := #[sx, xx], argTypes := #[t, t2] }) {s' : RS}
    (h : ((appendA P s.h t t2 (opnd s.ρ sx) (opnd s.ρ xx)).map fun (v, h) => { s with h }.set o.dst v) = some s') : OpOK P L0 c0 n ds o s s' := by
  rw [Option.map_eq_some_iff] at h
  obtain ⟨⟨y, h'⟩, ha, rfl⟩ := h
  unfold appendA at ha
  rw [Option.bind_eq_some_iff] at ha
  obtain ⟨d, hud, ha⟩ := ha
  cases d <;> simp only at ha <;> try (cases ha; done)
  rename_i e
  rw [Option.bind_eq_some_iff] at ha
  obtain ⟨i, hi, ha⟩ := ha
  rw [Option.bind_eq_some_iff] at ha
  obtain ⟨⟨new, m⟩, hcs, ha⟩ := ha
  simp only at ha
  split at ha
  · cases ha
  rename_i hcond
  have hsz0 : i.size ≠ 0 := fun h => hcond (.inl h)
  have hsrc : srcOK P t2 (opnd s.ρ xx) = true := by
    cases hq : srcOK P t2 (opnd s.ρ xx) with
    | true => rfl
    | false => exact absurd (.inr (.inl hq)) hcond
  obtain ⟨zv, z, hzv, hzo, hzl⟩ : ∃ zv z, i.zero = some zv ∧ ofV zv = some z ∧ z.cells.length = i.size := by
    have hz : zOK i = true := by
      cases hq : zOK i with
      | true => rfl
      | false => exact absurd (.inr (.inr hq)) hcond
    unfold zOK at hz
    cases hq : i.zero.bind ofV with
    | none => rw [hq] at hz; cases hz
    | some z =>
      rw [hq] at hz
      obtain ⟨zv, h1, h2⟩ := Option.bind_eq_some_iff.1 hq
      exact ⟨zv, z, h1, h2, by simpa using hz⟩
  have hzs : ∀ c L, zv.cells.size = i.size := fun (c : Cx) (L : Nat → Prop) => by
    have := (cells_VR (ofV_cellOK hzo) (ofV_VR (c := c) (L := L) hzo)).1.length
    rw [hzl] at this
    simpa using this.symm
  have hkk : (∃ e', P.underlying t2 = some (.slice e')) ∨ P.underlying t2 = some .string := by
    unfold srcOK at hsrc
    split at hsrc
    · right; revert hsrc; split <;> simp_all
    · left; revert hsrc; split <;> simp_all
  have hks : ∀ st, opnd s.ρ xx = .str st → P.underlying t2 = some .string := by
    intro st he
    rw [he] at hsrc
    simp only [srcOK] at hsrc
    revert hsrc; split <;> simp_all
  have hkn : (∀ st, opnd s.ρ xx ≠ .str st) → ∃ e', P.underlying t2 = some (.slice e') := by
    intro hne
    unfold srcOK at hsrc
    split at hsrc
    · rename_i st he; exact absurd he (hne st)
    · revert hsrc; split <;> simp_all
  rintro a w K Q ⟨hn, c, Lo, lam, rfl, f, e0⟩ hK
  have hbs := base_le e0 hb0
  obtain ⟨news, hS, hnv⟩ := src_cells (P := P) f (opnd_SR f xx) hkk hks hkn hcs
  have hex : ∀ v w', (Builtin.append_ #[t, t2] o.type #[a.eval sx, a.eval xx]).run P c.w = .ok v w' → (execOp a.eval o).run P c.w = .ok (.value v) w' := by
    intro v w' hr
    unfold execOp
    simp only [ho, resolve, invoke, builtin, Sem.run_bind, Sem.run_pure, Result.andThen_ok, List.map_toArray, List.map_cons, List.map_nil, hr]
  have fin : ∀ c' v, (Builtin.append_ #[t, t2] o.type #[a.eval sx, a.eval xx]).run P c.w = .ok v c'.w → Ext c Lo c' Lo → Fr L0 c' Lo lam ds { s with h := h' } a → VR c' (un L0 Lo) y v → o.wp P a c.w K Q := by
    intro c' v hr e' f' hv
    unfold Oper.wp
    rw [hex v _ hr, Oper.upon_value]
    exact hK _ _ ⟨(put_size _ _ _).trans hn, c', Lo, lam, rfl, f'.set (SR.of hv) (fun t ht => by rw [hn]; exact hd t ht), e0.trans e'⟩
  have hsx := opnd_SR f sx
  have h63 : ∀ k : Nat, k ≤ roomA → (k : Int) ≤ 9223372036854775807 := fun k hk => by simp only [roomA] at hk; omega
  have hfit : ∀ need old, old < need → need * i.bytes ≤ roomA → Builtin.nextslicecap need old * i.bytes ≤ 281474976710656 := fun need old h1 h2 => growslice_fits h1 (by simp only [roomA] at h2; omega)
  have hnl := hnv.length
  have hone := hS.one
  have hnlen := hS.newsLen
  cases hq : opnd s.ρ sx with
  | nils =>
    rw [hq] at ha hsx
    simp only [SR, VR] at hsx
    obtain ⟨ad, hev, hadn⟩ : ∃ ad : Option Addr, a.eval sx = .slice ad 0 0 ∧ ad = none := ⟨none, hsx, rfl⟩
    simp only at ha
    split at ha
    · cases ha
    rename_i hroom
    split at ha
    · rename_i hm0
      subst hm0
      cases ha
      refine fin c (.slice ad 0 0) ?_ (Ext.refl _ _) f (by subst hadn; simp [VR])
      rw [hev]
      exact run_append_zero c.w hud hi (Nat.le_refl _) hS
    · rename_i hm0
      cases ha
      have hold : (Builtin.firstCells i.size 0 (.slice ad 0 0)).run P c.w.drew = .ok ([] : List Value).toArray c.w.drew := by
        cases ad with
        | none => exact run_firstCells_none _ _ _ _ _
        | some ad => exact run_firstCells_some _ _ _ _ _ _ [] (by simp) (fun j v hj => by simp at hj)
      have hr := run_append_grow_src c.w t t2 o.type e i zv hud hi hzv ad 0 0 [] hold (a.eval xx) m news hS (by omega) (by rw [Nat.zero_add]; exact h63 _ (by omega)) (hfit _ _ (by omega) (by rw [Nat.zero_add]; omega))
      simp only [Nat.zero_add, List.nil_append] at hr
      obtain ⟨c', hw, hh, e', f', hv⟩ := f.grown hbs (e := e) (hzs c L0) (grownCap_ge c.w (need := m) (old := 0) (e := e)) hnv hone hnlen (s.h.alloc (.cells new)) (by rw [f.h]; simp [AHeap.alloc, AHeap.put, beq_nat]) (by rw [f.h]; exact Steady.put _ _ _) (by rw [f.h]; exact Nat.lt_succ_self _) (fun id hne => .inr (by rw [f.h] at hne ⊢; simp [AHeap.alloc, AHeap.put, beq_nat, hne]))
      refine fin c' _ ?_ e' f' (by rw [← f.h]; exact hv)
      rw [hev, hw]
      exact hr
  | fz cs len ex =>
    rw [hq] at ha hsx
    cases ex with
    | false => simp only at ha; cases ha
    | true =>
    simp only [SR, VR] at hsx
    obtain ⟨ad, cap, hev, h1, h2, hsm, hc⟩ := hsx
    have hcap := h2 trivial
    subst hcap
    simp only at ha
    split at ha
    · cases ha
    rename_i hroom
    split at ha
    · rename_i hm0
      subst hm0
      cases ha
      refine fin c (.slice ad cap cap) ?_ (Ext.refl _ _) f ?_
      · rw [hev]
        exact run_append_zero c.w hud hi (Nat.le_refl _) hS
      · simp only [VR]
        exact ⟨ad, cap, rfl, h1, h2, hsm, hc⟩
    · rename_i hm0
      cases ha
      have hcl : cs.length = cap * i.size := by
        by_cases h3 : cs.length = cap * i.size
        · exact h3
        · exact absurd (.inr (.inr h3)) hroom
      obtain ⟨olds, hov, hof, ho1⟩ : ∃ olds : List Value, VRs c (un L0 Lo) cs olds ∧ (Builtin.firstCells i.size cap (.slice ad cap cap)).run P c.w.drew = .ok olds.toArray c.w.drew ∧ ∀ v ∈ olds, v.oneCell' = true := by
        rcases hc with rfl | ⟨b, o', rfl, hr, hex2, hc⟩
        · refine ⟨[], trivial, ?_, fun _ h => by cases h⟩
          cases ad with
          | none => exact run_firstCells_none _ _ _ _ _
          | some ad => exact run_firstCells_some _ _ _ _ _ _ [] (by simpa using hcl) (fun j v hj => by simp at hj)
        · obtain ⟨vs, q1, q2, q3⟩ := hc.vals
          refine ⟨vs, q1, run_firstCells_some _ _ _ _ _ _ vs (by rw [← q1.length]; exact hcl) (fun j v hj => ?_), q3⟩
          rw [World.cell?_drew, addr_add, q2 j (by rw [q1.length]; exact (List.getElem?_eq_some_iff.1 hj).1)]
          exact hj
      have hol := hov.length
      have hr := run_append_grow_src c.w t t2 o.type e i zv hud hi hzv ad cap cap olds hof (a.eval xx) m news hS (by omega) (h63 _ (by omega)) (hfit _ _ (by omega) (by omega))
      obtain ⟨c', hw, hh, e', f', hv⟩ := f.grown hbs (e := e) (hzs c L0) (grownCap_ge c.w (need := cap + m) (old := cap) (e := e)) (VRs.append hov hnv) (fun v hv => (List.mem_append.1 hv).elim (ho1 v) (hone v)) (by rw [List.length_append, hnlen, ← hol, hcl, Nat.add_mul]) (s.h.alloc (.cells (cs ++ new))) (by rw [f.h]; simp [AHeap.alloc, AHeap.put, beq_nat]) (by rw [f.h]; exact Steady.put _ _ _) (by rw [f.h]; exact Nat.lt_succ_self _) (fun id hne => .inr (by rw [f.h] at hne ⊢; simp [AHeap.alloc, AHeap.put, beq_nat, hne]))
      refine fin c' _ ?_ e' f' (by rw [← f.h]; exact hv)
      rw [hev, hw]
      exact hr
  | rs id off len esz =>
    rw [hq] at ha hsx
    simp only [SR, VR] at hsx
    obtain ⟨hid, ad, cap, hev, h1, h2, h3⟩ := hsx
    simp only [Option.bind_eq_some_iff] at ha
    obtain ⟨ob, hob, ha⟩ := ha
    cases ob with
    | map es => cases ha
    | row t cs => cases ha
    | cells cs =>
    simp only at ha
    split at ha
    · cases ha
    rename_i hroom
    have hes : esz = i.size := Decidable.byContradiction fun h => hroom (.inl h)
    subst hes
    have hle : off + len * i.size ≤ cs.length := Decidable.byContradiction fun h => hroom (.inr (.inl (by omega)))
    rw [← f.h] at hob
    have hl : Live c.h id := ⟨f.rel.lt _ _ hob, by simp [hob]⟩
    obtain ⟨q, hp, hm, hc⟩ := f.rel.obj _ _ hob
    split at ha
    · rename_i hm0
      subst hm0
      cases ha
      refine fin c (.slice ad len cap) ?_ (Ext.refl _ _) f ?_
      · rw [hev]
        exact run_append_zero c.w hud hi h1 hS
      · simp only [VR]
        exact ⟨hid, ad, cap, rfl, h1, h2, h3⟩
    · rename_i hm0
      cases ha
      have hc2 := (hc.drop off).take (len * i.size)
      have hlen2 : ((cs.drop off).take (len * i.size)).length = len * i.size := by simp; omega
      obtain ⟨olds, hov, hoc, ho1⟩ := hc2.vals
      have hol := hov.length
      have hget : ((s.h.kill id).put s.h.next (.cells ((cs.drop off).take (len * i.size) ++ new))).get c.h.next = some (.cells ((cs.drop off).take (len * i.size) ++ new)) := by rw [f.h]; simp [AHeap.put, beq_nat]
      have hnx : c.h.next < ((s.h.kill id).put s.h.next (.cells ((cs.drop off).take (len * i.size) ++ new))).next := by rw [f.h]; simp only [AHeap.put, AHeap.kill]; omega
      have hoth : ∀ id', id' ≠ c.h.next → ((s.h.kill id).put s.h.next (.cells ((cs.drop off).take (len * i.size) ++ new))).get id' = none ∨ ((s.h.kill id).put s.h.next (.cells ((cs.drop off).take (len * i.size) ++ new))).get id' = c.h.get id' := by
        intro id' hne
        rw [f.h] at hne ⊢
        by_cases h4 : id' = id
        · left; simp [AHeap.put, AHeap.kill, beq_nat, hne, h4]; rw [← h4]; simp [hne]
        · right; simp [AHeap.put, AHeap.kill, beq_nat, hne, h4]
      by_cases hfits : len + m ≤ cap
      · -- there is room
        rcases h3 hl with ⟨h4, h5⟩ | h4
        rotate_left
        · omega
        subst h4
        have hlenq : c.len (c.β id).1 = q := by
          obtain ⟨C, e', hb, hm2⟩ := hp
          simp [Cx.len, World.shape?, hb, hm2]
        rw [hlenq] at h5
        have hcapm : (len + m) * i.size ≤ cap * i.size := Nat.mul_le_mul_right _ hfits
        rw [Nat.add_mul] at hcapm
        have hpS := hp
        obtain ⟨C, e', hb, hm2⟩ := hp
        have hr := run_append_room_src c.w t t2 o.type e i hud hi (c.β id).1 ((c.β id).2 + off) len cap (a.eval xx) m news hS hfits
          (fun j hj => by
            rw [cell_of_block hb]
            have : (c.β id).2 + off + len * i.size + j < C.size := by omega
            simp [this])
          (fun j hj => frozen_plain hpS.toPlain (by omega))
        have hpl : PlainS c (c.β id).1 q := hpS
        obtain ⟨q1, q2, q3, q4⟩ := setCells_same news (c.β id).1 ((c.β id).2 + off + len * i.size) c.w
        obtain ⟨C', g1, g2, g3⟩ := setCells_row news (c.β id).1 ((c.β id).2 + off + len * i.size) c.w C e' (0, 0) hb (by omega)
        have := f.upd (w' := c.w.setCells (c.β id).1 ((c.β id).2 + off + len * i.size) news) (β' := fun k => if k = c.h.next then ((c.β id).1, (c.β id).2 + off) else c.β k) (h' := (s.h.kill id).put s.h.next (.cells ((cs.drop off).take (len * i.size) ++ new))) c.h.next (.cells ((cs.drop off).take (len * i.size) ++ new))
          (by rw [f.h]; exact (Steady.kill _ _).trans (Steady.put _ _ _)) hnx hget (fun id' hne => (hoth id' hne).imp (fun h => h) (fun h => ⟨h, by simp [hne]⟩)) (fun h => absurd h (Nat.lt_irrefl _))
          (.inr ⟨id, hl, by simp, .inr (by
            have : id ≠ s.h.next := by rw [← f.h]; have := hl.1; omega
            simp [AHeap.put, AHeap.kill, beq_nat, this])⟩)
          (fun _ => by simp [World.shape?, g1, Cx.len, hb, g2])
          (fun b _ hne => setCells_far _ _ _ _ _ (by simpa using hne)) (fun b _ hne => setCells_far _ _ _ _ _ (by simpa using hne)) (by rw [q1]; exact Nat.le_refl _) hbs q2 q3 q4
          (fun ee => by
            simp only [if_true]
            refine ⟨q, hpl.setCells (by omega) _ _ _, ?_, ?_⟩
            · rw [List.length_append, hlen2, hnl, hnlen]; omega
            · refine Cells.of_vals (VRs.append (VRs.ext ee _ _ hov) (VRs.ext ee _ _ hnv)) (fun j hj => ?_) (fun v hv => (List.mem_append.1 hv).elim (ho1 v) (hone v))
              rw [cell_of_block g1, g3]
              rw [List.length_append] at hj
              by_cases h6 : j < olds.length
              · rw [if_neg (by omega), ← cell_of_block hb, List.getElem?_append_left h6]
                exact hoc j (by omega)
              · rw [if_pos (by omega), List.getElem?_append_right (by omega)]
                congr 1
                omega)
        obtain ⟨e'', f''⟩ := this
        refine fin _ (.slice (some ⟨(c.β id).1, (c.β id).2 + off, none⟩) (len + m) cap) ?_ e'' f'' ?_
        · rw [hev]; exact hr
        · simp only [VR, ← f.h]
          refine ⟨by rw [← f.h] at hnx; exact hnx, _, _, rfl, hfits, rfl, fun _ => .inl ?_⟩
          simp only [if_true, Nat.add_zero, true_and]
          simp only [Cx.len, World.shape?, g1, Option.map_some, Option.getD_some, g2]
          omega
      · -- there is none
        obtain ⟨hof⟩ : Nonempty ((Builtin.firstCells i.size len (.slice ad len cap)).run P c.w.drew = .ok olds.toArray c.w.drew) := by
          rcases h3 hl with ⟨h4, h5⟩ | h4
          · subst h4
            refine ⟨run_firstCells_some _ _ _ _ _ _ olds (by rw [← hol, hlen2]) (fun j v hj => ?_)⟩
            rw [World.cell?_drew, addr_add, hoc j (by rw [hol]; exact (List.getElem?_eq_some_iff.1 hj).1)]
            exact hj
          · have hz : len = 0 := by omega
            subst hz
            have : olds = [] := List.eq_nil_of_length_eq_zero (by rw [← hol, hlen2]; simp)
            subst this
            cases ad with
            | none => exact ⟨run_firstCells_none _ _ _ _ _⟩
            | some ad => exact ⟨run_firstCells_some _ _ _ _ _ _ [] (by simp) (fun j v hj => by simp at hj)⟩
        have hr := run_append_grow_src c.w t t2 o.type e i zv hud hi hzv ad len cap olds hof (a.eval xx) m news hS (by omega) (h63 _ (by omega)) (hfit _ _ (by omega) (by omega))
        obtain ⟨c', hw, hh, e', f', hv⟩ := f.grown hbs (e := e) (hzs c L0) (grownCap_ge c.w (need := len + m) (old := cap) (e := e)) (VRs.append hov hnv) (fun v hv => (List.mem_append.1 hv).elim (ho1 v) (hone v)) (by rw [List.length_append, hnlen, ← hol, hlen2, Nat.add_mul]) _ hget (by rw [f.h]; exact (Steady.kill _ _).trans (Steady.put _ _ _)) hnx hoth
        refine fin c' _ ?_ e' f' (by rw [← f.h]; exact hv)
        rw [hev, hw]
        exact hr
  | _ => rw [hq] at ha; simp only at ha; cases ha
end
end Go.R
