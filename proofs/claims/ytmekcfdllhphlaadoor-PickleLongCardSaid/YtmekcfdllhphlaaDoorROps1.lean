/- The operations that turn no memory. -/
import Derived.Test.YtmekcfdllhphlaaDoorRFrame
import Derived.Laws.Cells
import Derived.Laws.Entries
set_option linter.unusedVariables false
set_option linter.unusedSimpArgs false
namespace Go.R
open Go

theorem addr_add (b o i : Nat) : (⟨b, o, none⟩ : Addr).add i = ⟨b, o + i, none⟩ := by
  unfold Addr.add
  split <;> simp_all

section
variable {P : Program} {L0 : Nat → Prop} {c0 : Cx} {n : Nat} {ds : List Nat} {o : Oper} {s : RS}

theorem run_und {t : TypeId} {d : TypeDesc} (h : P.underlying t = some d) (w : World) : (underlying t).run P w = .ok d w := run_underlying h w
theorem run_szOf {t : TypeId} {m : Nat} (h : szOf P t = some m) (w : World) : (sizeOf t).run P w = .ok m w := by
  unfold szOf at h
  rw [Option.map_eq_some_iff] at h
  obtain ⟨i, hi, rfl⟩ := h
  simp [sizeOf, typeInfo, hi]
theorem run_agg {t : TypeId} {b : Bool} (h : isAggT P t = some b) (w : World) : (isAgg t).run P w = .ok b w := by
  unfold isAggT at h
  rw [Option.map_eq_some_iff] at h
  obtain ⟨d, hd, rfl⟩ := h
  simp only [isAgg, Sem.run_bind, run_und hd, Result.andThen_ok]
  cases d <;> rfl

theorem run_loadCs {c : Cx} {L : Nat → Prop} {xs : List AV} {b off : Nat} (h : Cells c L xs b off) : ∃ vs : List Value, (loadCells ⟨b, off, none⟩ xs.length).run P c.w = .ok vs.toArray c.w ∧ VRs c L xs vs := by
  obtain ⟨vs, h1, h2, _⟩ := h.vals
  refine ⟨vs, ?_, h1⟩
  have := run_loadCells_list (P := P) (w := c.w) ⟨b, off, none⟩ vs (fun j v hj => by
    rw [addr_add, h2 j (by rw [h1.length]; exact (List.getElem?_eq_some_iff.1 hj).1)]; exact hj)
  rwa [← h1.length] at this

theorem Cells.drop {c : Cx} {L : Nat → Prop} : ∀ (m : Nat) {xs : List AV} {b off : Nat}, Cells c L xs b off → Cells c L (xs.drop m) b (off + m)
  | 0, _, _, _, h => h
  | m + 1, [], _, _, _ => by simp [Cells]
  | m + 1, x :: xs, b, off, h => by
    have := Cells.drop m h.2
    rw [Nat.add_right_comm, Nat.add_assoc] at this
    simpa using this
theorem Cells.take {c : Cx} {L : Nat → Prop} : ∀ (m : Nat) {xs : List AV} {b off : Nat}, Cells c L xs b off → Cells c L (xs.take m) b off
  | 0, _, _, _, _ => by simp [Cells]
  | m + 1, [], _, _, h => by simpa using h
  | m + 1, x :: xs, b, off, h => ⟨h.1, Cells.take m h.2⟩

theorem run_readCs {c : Cx} {L : Nat → Prop} {t : TypeId} {cs : List AV} {b base off : Nat} {x : AV} (h : readCs P t cs off = some x) (hc : Cells c L cs b base) :
    ∃ v, (loadVar t ⟨b, base + off, none⟩).run P c.w = .ok v c.w ∧ VR c L x v := by
  unfold readCs at h
  rw [Option.bind_eq_some_iff] at h
  obtain ⟨ag, hag, h⟩ := h
  simp only [loadVar, Sem.run_bind, run_agg hag, Result.andThen_ok]
  cases ag with
  | true =>
    simp only [if_true, Option.bind_eq_some_iff] at h
    obtain ⟨m, hm, h⟩ := h
    split at h
    · rename_i hle
      cases h
      have hc2 := (hc.drop off).take m
      obtain ⟨vs, hr, hv⟩ := run_loadCs (P := P) hc2
      rw [show ((cs.drop off).take m).length = m by simp; omega] at hr
      refine ⟨.agg vs.toArray, by simp [run_szOf hm, hr], ?_⟩
      simp only [VR]
      exact ⟨vs.toArray, rfl, by simpa using hv⟩
    · cases h
  | false =>
    simp only [Bool.false_eq_true, if_false] at h
    obtain ⟨v, hv, hx⟩ := hc.get off x h
    exact ⟨v, by simp [hv], hx⟩

theorem readCs_ne {t : TypeId} {cs : List AV} {off : Nat} {x : AV} (h : readCs P t cs off = some x) : cs = [] → x = .agg [] := by
  rintro rfl
  unfold readCs at h
  rw [Option.bind_eq_some_iff] at h
  obtain ⟨ag, _, h⟩ := h
  cases ag with
  | true =>
    simp only [if_true, Option.bind_eq_some_iff] at h
    obtain ⟨m, _, h⟩ := h
    split at h
    · cases h; simp
    · cases h
  | false => simp at h

/-- Shifted pointers. -/
theorem shift_SR {c : Cx} {Lo : Nat → Prop} {lam : Nat → Nat} {bx : Nat → Option (List AV)} {x y : AV} {m : Nat} {v : Value} (h : x.shift m = some y) (hx : SR c L0 Lo lam bx x v) :
    ∃ ad, v = .pointer (some ad) ∧ SR c L0 Lo lam bx y (.pointer (some (ad.add m))) := by
  cases x <;> simp only [AV.shift] at h <;> cases h
  · rename_i id off
    simp only [SR, VR] at hx ⊢
    obtain ⟨hi, ad, rfl, ha⟩ := hx
    exact ⟨ad, rfl, hi, _, rfl, fun hl => by rw [ha hl, addr_add, Nat.add_assoc]⟩
  · rename_i k off
    simp only [SR] at hx ⊢
    obtain ⟨rfl, hb⟩ := hx
    exact ⟨_, rfl, by rw [addr_add], hb⟩
  · rename_i cs off
    simp only [SR, VR] at hx ⊢
    obtain ⟨b, o', rfl, hc⟩ := hx
    exact ⟨_, rfl, b, o', by rw [addr_add, Nat.add_assoc], hc⟩

theorem run_loadAt {c : Cx} {Lo : Nat → Prop} {lam : Nat → Nat} {a : Act} (f : Fr L0 c Lo lam ds s a) {t : TypeId} {x y : AV} {v : Value} (hx : SR c L0 Lo lam s.bx x v)
    (h : loadA P s.bx s.h t x = some y) : ∃ u, (Instr.loadAt t v).run P c.w = .ok u c.w ∧ VR c (un L0 Lo) y u := by
  unfold loadA at h
  cases x <;> simp only at h <;> try (cases h; done)
  · rename_i id off
    rw [Option.bind_eq_some_iff] at h
    obtain ⟨ob, ho, h⟩ := h
    cases ob with
    | map es => cases h
    | row t cs => cases h
    | cells cs =>
      simp only [SR, VR] at hx
      obtain ⟨hi, ad, rfl, ha⟩ := hx
      rw [← f.h] at ho
      have hl : Live c.h id := ⟨f.rel.lt _ _ ho, by simp [ho]⟩
      obtain ⟨m, h1, h2, h3⟩ := f.rel.obj _ _ ho
      obtain ⟨u, hr, hu⟩ := run_readCs (P := P) h h3
      exact ⟨u, by simp [Instr.loadAt, Instr.sureAddr, ha hl, hr], hu⟩
  · rename_i k off
    rw [Option.bind_eq_some_iff] at h
    obtain ⟨cs, hb, h⟩ := h
    simp only [SR] at hx
    obtain ⟨rfl, _⟩ := hx
    have hw := f.box k cs hb
    obtain ⟨u, hr, hu⟩ := run_readCs (P := P) h hw.cells
    rw [Nat.zero_add] at hr
    exact ⟨u, by simp [Instr.loadAt, Instr.sureAddr, hr], hu⟩
  · rename_i cs off
    split at h
    · cases h
    · rename_i hne
      simp only [SR, VR] at hx
      obtain ⟨b, o', rfl, hc⟩ := hx
      rcases hc with hc | ⟨_, hc⟩
      · subst hc; simp at hne
      · obtain ⟨u, hr, hu⟩ := run_readCs (P := P) h hc
        exact ⟨u, by simp [Instr.loadAt, Instr.sureAddr, hr], hu⟩

theorem run_indexAt {c : Cx} {Lo : Nat → Prop} {lam : Nat → Nat} {bx : Nat → Option (List AV)} {t : TypeId} {x i y : AV} {v u : Value} (hx : SR c L0 Lo lam bx x v) (hi : SR c L0 Lo lam bx i u)
    (h : indexAddrA P t x i = some y) : ∃ r, (Instr.indexAt t v u).run P c.w = .ok r c.w ∧ SR c L0 Lo lam bx y r := by
  unfold indexAddrA at h
  split at h <;> try (cases h; done)
  rename_i k i
  simp only [SR, VR] at hi
  subst hi
  rw [Option.bind_eq_some_iff] at h
  obtain ⟨d, hd, h⟩ := h
  split at h <;> try (cases h; done)
  · rename_i len e
    rw [Option.bind_eq_some_iff] at h
    obtain ⟨m, hm, h⟩ := h
    split at h
    · rename_i hin
      obtain ⟨ad, rfl, hy⟩ := shift_SR h hx
      exact ⟨_, by simp [Instr.indexAt, asIntOf, run_und hd, Instr.sureAddr, hin, run_szOf hm], hy⟩
    · cases h
  · rename_i e
    rw [Option.bind_eq_some_iff] at h
    obtain ⟨m, hm, h⟩ := h
    split at h <;> try (cases h; done)
    · rename_i cs len ex
      split at h
      · rename_i hin
        obtain ⟨h1, h2, h3⟩ := hin
        cases h
        simp only [SR, VR] at hx ⊢
        obtain ⟨a, cap, rfl, h4, h5, _, hc⟩ := hx
        rcases hc with hc | ⟨b, o', rfl, hr, hex, hc⟩
        · subst hc; simp at h3
        · refine ⟨.pointer (some ((⟨b, o', none⟩ : Addr).add (i.toNat * m))), by simp [Instr.indexAt, asIntOf, run_und hd, h1, h2, run_szOf hm], b, o', ?_, .inr ⟨hr, hc⟩⟩
          rw [addr_add]
      · cases h
    · rename_i id off len esz
      split at h
      · rename_i hin
        obtain ⟨h0, h1, h2⟩ := hin
        cases h
        simp only [SR, VR] at hx ⊢
        obtain ⟨hid, a, cap, rfl, h4, hs, h5⟩ := hx
        cases a with
        | none => simp at hs
        | some a =>
          refine ⟨.pointer (some (a.add (i.toNat * m))), by simp [Instr.indexAt, asIntOf, run_und hd, h1, h2, run_szOf hm], hid, _, rfl, fun hl => ?_⟩
          rcases h5 hl with h6 | h6
          · obtain ⟨h6, _⟩ := h6
            cases h6
            rw [addr_add, Nat.add_assoc]
          · subst h6; omega
      · cases h
end
end Go.R
