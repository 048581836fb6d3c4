/- Part of the proof: PB5, PB6, PB7, PB8, PB9, PB10, PB11. -/
import Derived.Test.YtmekcfdllhphlaaDoorK11
set_option linter.unusedVariables false
set_option linter.unusedSimpArgs false
set_option maxRecDepth 100000
namespace Go.Proofs.YtmekcfdllhphlaaDoor
open Go Go.R
open Go.IntKind (i64 u64 u8 u32)
theorem Sim.refl {l : List VNode} {c : List Int} (i : Nat) : Sim l c i i := ⟨Alike.refl _, fun _ _ => rfl⟩
theorem Sim.symm {l : List VNode} {c : List Int} {i j : Nat} (h : Sim l c i j) : Sim l c j i := ⟨h.1.symm, fun k hk => (h.2 k (by have := h.1.len; unfold na at *; omega)).symm⟩
theorem Sim.trans {l : List VNode} {c : List Int} {i j q : Nat} (h : Sim l c i j) (g : Sim l c j q) : Sim l c i q :=
  ⟨h.1.trans g.1, fun k hk => (h.2 k hk).trans (g.2 k (by have := h.1.len; unfold na at *; omega))⟩
theorem Bis.symm {l : List VNode} {R : Nat → Nat → Prop} (B : Bis l R) : Bis l fun i j => R j i :=
  ⟨fun i j h => (B.rng j i h).symm, fun i j h => (B.top j i h).symm, fun i j h k hk => B.arg j i h k (by have := (B.top j i h).len; omega)⟩
structure Ph1 (l : List VNode) (cls : List Int) (dn : List Bool) (fs od : List Int) : Prop where
  lc : cls.length = l.length
  ld : dn.length = l.length
  odn : od.Nodup
  odr : ∀ x ∈ od, 0 ≤ x ∧ x < l.length
  don : ∀ i, i < l.length → (gb dn i = true ↔ (i : Int) ∈ od)
  rank : ∀ i : Nat, (i : Int) ∈ od → ∀ k, k < na l i → ((ar l i k : Nat) : Int) ∈ od ∧ od.idxOf ((ar l i k : Nat) : Int) < od.idxOf (i : Int)
  fsn : fs.Nodup
  fst : ∀ f ∈ fs, f ∈ od ∧ gt cls f.toNat = f
  rep : ∀ i : Nat, (i : Int) ∈ od → gt cls i ∈ fs ∧ Sim l cls i (gt cls i).toNat
  apart : ∀ f ∈ fs, ∀ g ∈ fs, Sim l cls f.toNat g.toNat → f = g
  coarse : ∀ R, Bis l R → ∀ i j : Nat, R i j → (i : Int) ∈ od → (j : Int) ∈ od → gt cls i = gt cls j
theorem sub_few {od : List Int} {n : Nat} (h : od.Nodup) (hr : ∀ x ∈ od, 0 ≤ x ∧ x < n) : od.length ≤ n := by
  have := h.length_le_of_subset (l₂ := ints n) (fun x hx => mem_ints.2 (hr x hx))
  rwa [ints_length] at this
theorem Ph1.fsr {l cls dn fs od} (P : Ph1 l cls dn fs od) : ∀ f ∈ fs, 0 ≤ f ∧ f < l.length := fun f hf => P.odr f (P.fst f hf).1
theorem ph1_step {l : List VNode} {cls : List Int} {dn : List Bool} {fs od : List Int} (ok : Okl l) (P : Ph1 l cls dn fs od) {i : Nat} (hi : i < l.length) (hn : (i : Int) ∉ od) (hr : Rdy l dn i) {v : Int}
    (hv : v = i ∧ (∀ f ∈ fs, ¬ Sim l cls i f.toNat) ∨ v ∈ fs ∧ Sim l cls i v.toNat) :
    Ph1 l (cls.set i v) (dn.set i true) (if v = i then fs ++ [(i : Int)] else fs) (od ++ [(i : Int)]) := by
  have hfi : (i : Int) ∉ fs := fun h => hn (P.fst _ h).1
  have hvi : v ∈ fs → v ≠ i := fun h e => hfi (e ▸ h)
  have gc : ∀ x, x ≠ i → gt (cls.set i v) x = gt cls x := fun x hx => by rw [gt_set (by rw [P.lc]; exact hi), if_neg hx]
  have gi : gt (cls.set i v) i = v := by rw [gt_set (by rw [P.lc]; exact hi), if_pos rfl]
  have ne : ∀ {x : Nat}, (x : Int) ∈ od → x ≠ i := fun h e => hn (by rw [← e]; exact h)
  have ad : ∀ x : Nat, ((x : Int) ∈ od ∨ x = i) → ∀ k, k < na l x → ((ar l x k : Nat) : Int) ∈ od := fun x hx k hk => by
    rcases hx with hx | rfl
    · exact (P.rank x hx k hk).1
    · exact (P.don _ (ar_lt ok hi hk).1).1 (hr k hk)
  have sm : ∀ x y : Nat, ((x : Int) ∈ od ∨ x = i) → ((y : Int) ∈ od ∨ y = i) → (Sim l (cls.set i v) x y ↔ Sim l cls x y) := fun x y hx hy => by
    constructor
    · rintro ⟨a, b⟩
      refine ⟨a, fun k hk => ?_⟩
      have := b k hk
      rwa [gc _ (ne (ad x hx k hk)), gc _ (ne (ad y hy k (by have := a.len; unfold na at *; omega)))] at this
    · rintro ⟨a, b⟩
      refine ⟨a, fun k hk => ?_⟩
      rw [gc _ (ne (ad x hx k hk)), gc _ (ne (ad y hy k (by have := a.len; unfold na at *; omega)))]
      exact b k hk
  have fo : ∀ f ∈ fs, ((f.toNat : Nat) : Int) ∈ od ∧ ((f.toNat : Nat) : Int) = f := fun f hf => by
    have h := P.fst f hf
    have r := P.odr f h.1
    have e : ((f.toNat : Nat) : Int) = f := by omega
    exact ⟨by rw [e]; exact h.1, e⟩
  have split : ∀ {x : Int}, x ∈ od ++ [(i : Int)] → x ∈ od ∨ x = i := fun h => by
    rcases List.mem_append.1 h with h | h
    · exact .inl h
    · exact .inr (List.mem_singleton.1 h)
  have one : ∀ R, Bis l R → ∀ j : Nat, R i j → (j : Int) ∈ od → v = gt cls j := fun R B j hR hj => by
    obtain ⟨g1, g2⟩ := P.rep j hj
    have s1 : Sim l cls i j := ⟨B.top i j hR, fun k hk => P.coarse R B _ _ (B.arg i j hR k hk) (ad i (.inr rfl) k hk) (ad j (.inl hj) k (by have := (B.top i j hR).len; unfold na at *; omega))⟩
    rcases hv with ⟨rfl, h⟩ | ⟨h1, h2⟩
    · exact absurd (s1.trans g2) (h _ g1)
    · exact P.apart v h1 _ g1 (h2.symm.trans (s1.trans g2))
  refine ⟨by simpa using P.lc, by simpa using P.ld, ?_, ?_, fun x hx => ?_, fun x hx k hk => ?_, ?_, fun f hf => ?_, fun x hx => ?_, fun f hf g hg hs => ?_, fun R B x y hR hx hy => ?_⟩
  · rw [List.nodup_append]
    refine ⟨P.odn, by simp, fun a ha b hb => ?_⟩
    rw [List.mem_singleton] at hb
    subst hb; intro e; subst e; exact hn ha
  · intro x hx
    rcases split hx with h | h
    · exact P.odr x h
    · omega
  · rw [gb_set (by rw [P.ld]; exact hi), List.mem_append, List.mem_singleton]
    by_cases e : x = i
    · subst e; simp
    · rw [if_neg e, P.don x hx]
      constructor
      · exact fun h => .inl h
      · rintro (h | h)
        · exact h
        · omega
  · rcases split hx with h | h
    · obtain ⟨r1, r2⟩ := P.rank x h k hk
      refine ⟨List.mem_append_left _ r1, ?_⟩
      rw [List.idxOf_append, if_pos r1, List.idxOf_append, if_pos h]; exact r2
    · have e : x = i := by omega
      subst e
      have r1 := ad x (.inr rfl) k hk
      refine ⟨List.mem_append_left _ r1, ?_⟩
      rw [List.idxOf_append, if_pos r1, List.idxOf_append, if_neg hn]
      have := List.idxOf_lt_length_of_mem r1
      omega
  · split
    · rw [List.nodup_append]
      refine ⟨P.fsn, by simp, fun a ha b hb => ?_⟩
      rw [List.mem_singleton] at hb
      subst hb; intro e; subst e; exact hfi ha
    · exact P.fsn
  · have hf' : f ∈ fs ∨ (f = i ∧ v = i) := by
      split at hf
      · rcases List.mem_append.1 hf with h | h
        · exact .inl h
        · exact .inr ⟨List.mem_singleton.1 h, by assumption⟩
      · exact .inl hf
    rcases hf' with h | ⟨rfl, h2⟩
    · obtain ⟨a, b⟩ := P.fst f h
      refine ⟨List.mem_append_left _ a, ?_⟩
      rw [gc _ (by have := (fo f h).1; exact ne this)]; exact b
    · refine ⟨by simp, ?_⟩
      rw [Int.toNat_natCast, gi]; exact h2
  · have inF : ∀ z ∈ fs, z ∈ (if v = (i : Int) then fs ++ [(i : Int)] else fs) := fun z hz => by
      split
      · exact List.mem_append_left _ hz
      · exact hz
    rcases split hx with h | h
    · obtain ⟨a, b⟩ := P.rep x h
      rw [gc x (ne h)]
      exact ⟨inF _ a, (sm x _ (.inl h) (.inl (fo _ a).1)).2 b⟩
    · have e : x = i := by omega
      subst e
      rw [gi]
      rcases hv with ⟨rfl, _⟩ | ⟨h1, h2⟩
      · rw [if_pos rfl, Int.toNat_natCast]
        exact ⟨by simp, Sim.refl _⟩
      · exact ⟨inF _ h1, (sm x _ (.inr rfl) (.inl (fo _ h1).1)).2 h2⟩
  · have cs : ∀ z, z ∈ (if v = (i : Int) then fs ++ [(i : Int)] else fs) → z ∈ fs ∨ (z = i ∧ v = i) := fun z hz => by
      split at hz
      · rcases List.mem_append.1 hz with h | h
        · exact .inl h
        · exact .inr ⟨List.mem_singleton.1 h, by assumption⟩
      · exact .inl hz
    have nov : v = i → ∀ f ∈ fs, ¬ Sim l cls i f.toNat := fun e f hf => by
      rcases hv with ⟨_, h⟩ | ⟨h, _⟩
      · exact h f hf
      · exact absurd e (hvi h)
    rcases cs f hf with h1 | ⟨rfl, e1⟩
    · rcases cs g hg with h2 | ⟨rfl, e2⟩
      · exact P.apart f h1 g h2 ((sm _ _ (.inl (fo f h1).1) (.inl (fo g h2).1)).1 hs)
      · rw [Int.toNat_natCast] at hs
        have := (sm _ _ (.inl (fo f h1).1) (.inr rfl)).1 hs
        exact absurd this.symm (nov e2 f h1)
    · rcases cs g hg with h2 | ⟨rfl, e2⟩
      · rw [Int.toNat_natCast] at hs
        have := (sm _ _ (.inr rfl) (.inl (fo g h2).1)).1 hs
        exact absurd this (nov e1 g h2)
      · rfl
  · rcases split hx with h1 | h1
    · rcases split hy with h2 | h2
      · rw [gc x (ne h1), gc y (ne h2)]; exact P.coarse R B x y hR h1 h2
      · have e : y = i := by omega
        subst e
        rw [gc x (ne h1), gi]
        exact (one _ B.symm x hR h1).symm
    · have e : x = i := by omega
      subst e
      rcases split hy with h2 | h2
      · rw [gc y (ne h2), gi]; exact one R B y hR h2
      · have e : y = x := by omega
        subst e; rfl
theorem ph1_l1 {m : Nat} (hm : 2 ^ 30 ≤ m) {l : List VNode} (ok : Okl l) : ∀ (f i : Nat) (cls : List Int) (dn : List Bool) (fs od : List Int) (more : Bool), i < f → i ≤ l.length → Ph1 l cls dn fs od →
    ∃ cls' dn' fs' more' x od', ref01_Classes.l1 m l f cls dn fs more ((i : Int) - 1) = some (cls', dn', fs', more', x) ∧ Ph1 l cls' dn' fs' od' ∧ od.length ≤ od'.length ∧
      (more' = true → more = true ∨ od.length < od'.length) ∧ (more' = false → more = false ∧ od' = od ∧ ∀ j, j < i → (j : Int) ∉ od → ∃ k, k < na l j ∧ ((ar l j k : Nat) : Int) ∉ od)
  | 0, i, _, _, _, _, _, hf, _, _ => absurd hf (by omega)
  | f + 1, 0, cls, dn, fs, od, more, hf, hi, P => by
    unfold ref01_Classes.l1
    rw [if_neg (by simp)]
    exact ⟨cls, dn, fs, more, _, od, rfl, P, Nat.le_refl _, fun h => .inl h, fun h => ⟨h, rfl, fun j hj => absurd hj (by omega)⟩⟩
  | f + 1, i + 1, cls, dn, fs, od, more, hf, hi, P => by
    have p30 : (2 : Nat) ^ 30 = 1073741824 := by decide
    have h8 := ok.1
    have hil : i < l.length := by omega
    unfold ref01_Classes.l1
    have ei : ((i + 1 : Nat) : Int) - 1 = (i : Int) := by omega
    have ew : i64.wrap ((i : Int) - 1) = (i : Int) - 1 := i64_id (by omega) (by omega)
    have hgb : ix dn (i : Int) = some (gb dn i) := by
      have := ix_gb (l := dn) (i := (i : Int)) (by omega) (by rw [Int.toNat_natCast, P.ld]; exact hil)
      rwa [Int.toNat_natCast] at this
    rw [ei, ew, if_pos (by simp), hgb, Option.bind_some]
    cases hd : gb dn i with
    | true =>
      rw [if_pos rfl]
      obtain ⟨cls', dn', fs', more', x, od', k1, k2, k3, k4, k5⟩ := ph1_l1 hm ok f i cls dn fs od more (by omega) (by omega) P
      refine ⟨cls', dn', fs', more', x, od', k1, k2, k3, k4, fun h => ?_⟩
      obtain ⟨q1, q2, q3⟩ := k5 h
      refine ⟨q1, q2, fun j hj hn => ?_⟩
      by_cases e : j = i
      · subst e; exact absurd ((P.don j hil).1 hd) hn
      · exact q3 j (by omega) hn
    | false =>
      have hnd : (i : Int) ∉ od := fun h => by rw [(P.don i hil).2 h] at hd; cases hd
      obtain ⟨xr, r1, r2, r3⟩ := rdy_spec hm ok P.ld hil
      rw [if_neg (by simp), ix_nd (by omega) (by omega), Option.bind_some, r1, Option.bind_some]
      cases xr with
      | false =>
        rw [if_pos (by simp)]
        obtain ⟨cls', dn', fs', more', x, od', k1, k2, k3, k4, k5⟩ := ph1_l1 hm ok f i cls dn fs od more (by omega) (by omega) P
        refine ⟨cls', dn', fs', more', x, od', k1, k2, k3, k4, fun h => ?_⟩
        obtain ⟨q1, q2, q3⟩ := k5 h
        refine ⟨q1, q2, fun j hj hn => ?_⟩
        by_cases e : j = i
        · subst e
          obtain ⟨k, g1, g2⟩ := r3 rfl
          exact ⟨k, g1, fun h => by rw [(P.don _ (ar_lt ok hil g1).1).2 h] at g2; cases g2⟩
        · exact q3 j (by omega) hn
      | true =>
        have hfl : fs.length ≤ 8000 := Nat.le_trans (sub_few P.fsn P.fsr) h8
        obtain ⟨v, f1, f2⟩ := find_spec hm ok P.lc hil P.fsr hfl
        have P' := ph1_step ok P hil hnd (r2 rfl) f2
        have hlen : (od ++ [(i : Int)]).length = od.length + 1 := by simp
        have e2 : ix cls (i : Int) = some (gt cls i) := ix_gt (by rw [P.lc]; exact hil)
        have e3 : ix (cls.set i v) (i : Int) = some v := by
          rw [ix_gt (by simpa using (by rw [P.lc]; exact hil)), gt_set (by rw [P.lc]; exact hil), if_pos rfl]
        have rest : ∀ fs2, Ph1 l (cls.set i v) (dn.set i true) fs2 (od ++ [(i : Int)]) → ∃ cls' dn' fs' more' x od', ref01_Classes.l1 m l f (cls.set i v) (dn.set i true) fs2 true ((i : Int) - 1) = some (cls', dn', fs', more', x) ∧ Ph1 l cls' dn' fs' od' ∧ od.length ≤ od'.length ∧
            (more' = true → more = true ∨ od.length < od'.length) ∧ (more' = false → more = false ∧ od' = od ∧ ∀ j, j < i + 1 → (j : Int) ∉ od → ∃ k, k < na l j ∧ ((ar l j k : Nat) : Int) ∉ od) := fun fs2 P2 => by
          obtain ⟨cls', dn', fs', more', x, od', k1, k2, k3, k4, k5⟩ := ph1_l1 hm ok f i _ _ fs2 _ true (by omega) (by omega) P2
          exact ⟨cls', dn', fs', more', x, od', k1, k2, by omega, fun _ => .inr (by omega), fun h => absurd (k5 h).1 (by simp)⟩
        rw [if_neg (by simp), f1, Option.bind_some, e2, Option.bind_some, Int.toNat_natCast, e3, Option.bind_some]
        by_cases hvi : v = i
        · have hap : app 8 fs [(i : Int)] = some (fs ++ [(i : Int)]) := by unfold app; rw [if_pos (by simp; omega)]
          rw [if_pos (by simpa using hvi), hap, Option.bind_some, Option.bind_some]
          rw [if_pos hvi] at P'
          exact rest _ P'
        · rw [if_neg (by simpa using hvi), Option.bind_some]
          rw [if_neg hvi] at P'
          exact rest _ P'
theorem ph1_l0 {m : Nat} (hm : 2 ^ 30 ≤ m) {l : List VNode} (ok : Okl l) : ∀ (f : Nat) (cls : List Int) (dn : List Bool) (fs od : List Int), l.length - od.length + 1 < f → Ph1 l cls dn fs od →
    ∃ cls' dn' fs' od', ref01_Classes.l0 m l f cls dn fs true = some (cls', dn', fs', false) ∧ Ph1 l cls' dn' fs' od' ∧ ∀ j, j < l.length → (j : Int) ∉ od' → ∃ k, k < na l j ∧ ((ar l j k : Nat) : Int) ∉ od'
  | 0, _, _, _, _, hf, _ => absurd hf (by omega)
  | f + 1, cls, dn, fs, od, hf, P => by
    have p30 : (2 : Nat) ^ 30 = 1073741824 := by decide
    have h8 := ok.1
    unfold ref01_Classes.l0
    obtain ⟨cls', dn', fs', more', x, od', k1, k2, k3, k4, k5⟩ := ph1_l1 hm ok m l.length cls dn fs od false (by omega) (Nat.le_refl _) P
    have ew : i64.wrap ((l.length : Int) - 1) = (l.length : Int) - 1 := i64_id (by omega) (by omega)
    rw [if_pos rfl, ew, k1, Option.bind_some]
    dsimp only
    have hfew := sub_few k2.odn k2.odr
    cases more' with
    | true =>
      rcases k4 rfl with h | h
      · cases h
      · exact ph1_l0 hm ok f cls' dn' fs' od' (by omega) k2
    | false =>
      obtain ⟨_, rfl, q⟩ := k5 rfl
      obtain ⟨g, rfl⟩ : ∃ g, f = g + 1 := ⟨f - 1, by omega⟩
      refine ⟨cls', dn', fs', od', ?_, k2, q⟩
      unfold ref01_Classes.l0
      rw [if_neg (by simp)]
end Go.Proofs.YtmekcfdllhphlaaDoor

namespace Go.Proofs.YtmekcfdllhphlaaDoor
open Go Go.R
open Go.IntKind (i64 u64 u8 u32)
def rst (dn : List Bool) : Nat → List Int
  | 0 => []
  | p + 1 => if gb dn p = true then rst dn p else rst dn p ++ [(p : Int)]
theorem mem_rst {dn : List Bool} : ∀ {p : Nat} {x : Int}, x ∈ rst dn p ↔ ∃ j : Nat, j < p ∧ gb dn j = false ∧ x = j
  | 0, x => ⟨fun h => by simp [rst] at h, fun ⟨j, h, _⟩ => absurd h (by omega)⟩
  | p + 1, x => by
    unfold rst
    have ih := mem_rst (dn := dn) (p := p) (x := x)
    split
    · rename_i h
      rw [ih]
      constructor
      · rintro ⟨j, a, b, c⟩; exact ⟨j, by omega, b, c⟩
      · rintro ⟨j, a, b, c⟩
        refine ⟨j, ?_, b, c⟩
        by_cases e : j = p
        · subst e; rw [b] at h; cases h
        · omega
    · rename_i h
      rw [List.mem_append, ih, List.mem_singleton]
      constructor
      · rintro (⟨j, a, b, c⟩ | c)
        · exact ⟨j, by omega, b, c⟩
        · exact ⟨p, by omega, by simpa using h, c⟩
      · rintro ⟨j, a, b, c⟩
        by_cases e : j = p
        · subst e; exact .inr c
        · exact .inl ⟨j, by omega, b, c⟩
theorem rst_length {dn : List Bool} : ∀ p, (rst dn p).length ≤ p
  | 0 => Nat.le_refl _
  | p + 1 => by
    have := rst_length (dn := dn) p
    unfold rst
    split
    · omega
    · simp; omega
theorem rst_lt {dn : List Bool} : ∀ {p k q : Nat}, k < q → q < (rst dn p).length → gt (rst dn p) k < gt (rst dn p) q
  | 0, k, q, _, h => by simp [rst] at h
  | p + 1, k, q, hk, h => by
    unfold rst at h ⊢
    split at h
    · rename_i g; rw [if_pos g]; exact rst_lt hk h
    · rename_i g
      rw [if_neg g]
      by_cases hq : q < (rst dn p).length
      · rw [gt_append hq, gt_append (by omega)]; exact rst_lt hk hq
      · have e : q = (rst dn p).length := by simp at h; omega
        have : gt (rst dn p ++ [(p : Int)]) q = p := by
          subst e; unfold gt; rw [List.getD_eq_getElem?_getD, List.getElem?_append_right (Nat.le_refl _), Nat.sub_self]; rfl
        rw [this, gt_append (by omega)]
        obtain ⟨j, a, b, c⟩ := mem_rst.1 (gt_mem (l := rst dn p) (k := k) (by omega))
        omega
structure Ph2 (l : List VNode) (dn : List Bool) (c0 : List Int) (p : Nat) (cls : List Int) : Prop where
  lc : cls.length = l.length
  old : ∀ j, gb dn j = true → gt cls j = gt c0 j
  rep : ∀ j : Nat, (j : Int) ∈ rst dn p → gt cls j ∈ rst dn p ∧ Alike (nd l j) (nd l (gt cls j)) ∧ ∀ g ∈ rst dn p, Alike (nd l j) (nd l g) → gt cls j ≤ g
theorem ph2_l3 {m : Nat} {l : List VNode} {dn : List Bool} (ok : Okl l) {cls : List Int} {i : Nat} (hi : i < l.length) (hc : cls.length = l.length) (hlt : ∀ g ∈ rst dn i, gt cls g.toNat ≠ i) : ∀ (f k : Nat), (rst dn i).length - k + 2 ≤ f → k ≤ (rst dn i).length → (∀ q, q < k → ¬ Alike (nd l i) (nd l (gt (rst dn i) q))) →
    ∃ v x, ref01_Classes.l3 m l (i : Int) (rst dn i ++ [(i : Int)]) f (cls.set i (i : Int)) (k : Int) = some (cls.set i v, x) ∧ (v = i ∧ (∀ g ∈ rst dn i, ¬ Alike (nd l i) (nd l g)) ∨ ∃ g ∈ rst dn i, Alike (nd l i) (nd l g) ∧ v = gt cls g.toNat)
  | 0, k, hf, _, _ => absurd hf (by omega)
  | f + 1, k, hf, hk, hno => by
    have h8 := ok.1
    have hrl := rst_length (dn := dn) i
    unfold ref01_Classes.l3
    have hil : i < (cls.set i (i : Int)).length := by simp [hc, hi]
    rw [ix_gt hil, gt_set (by omega), if_pos rfl, Option.bind_some, if_pos (by simp)]
    have hxl : (rst dn i ++ [(i : Int)]).length = (rst dn i).length + 1 := by simp
    by_cases h : k < (rst dn i).length
    · obtain ⟨j, j1, j2, j3⟩ := mem_rst.1 (gt_mem (l := rst dn i) (k := k) h)
      have hx : ix (rst dn i ++ [(i : Int)]) (k : Int) = some (gt (rst dn i) k) := by rw [ix_gt (by omega), gt_append h]
      obtain ⟨xa, a1, a2⟩ := alike_spec (m := m) (nd l (i : Int)) (nd l (gt (rst dn i) k))
      rw [hx, Option.bind_some, if_pos (by simp only [decide_eq_true_eq]; omega), ix_nd (by omega) (by omega), Option.bind_some, Option.bind_some, ix_nd (by omega) (by omega), Option.bind_some, a1, Option.bind_some]
      cases xa with
      | false =>
        rw [if_neg (by simp), i64_id (by omega) (by omega), show (k : Int) + 1 = ((k + 1 : Nat) : Int) by omega]
        refine ph2_l3 ok hi hc hlt f (k + 1) (by omega) (by omega) fun q hq => ?_
        by_cases e : q = k
        · subst e; intro hA; have := a2.2 hA; cases this
        · exact hno q (by omega)
      | true =>
        have hA := a2.1 rfl
        have hgl : (gt (rst dn i) k).toNat < cls.length := by omega
        have hix : ix (cls.set i (i : Int)) (gt (rst dn i) k) = some (gt cls (gt (rst dn i) k).toNat) := by
          rw [ix_gt' (k := (gt (rst dn i) k).toNat) (by omega) (by simpa using hgl), gt_set (by omega), if_neg (by omega)]
        rw [if_pos rfl, Option.bind_some, hix, Option.bind_some, Option.bind_some, Int.toNat_natCast, List.set_set]
        have e := hlt _ (gt_mem h)
        obtain ⟨g, rfl⟩ : ∃ g, f = g + 1 := ⟨f - 1, by omega⟩
        refine ⟨gt cls (gt (rst dn i) k).toNat, i64.wrap ((k : Int) + 1), ?_, .inr ⟨_, gt_mem h, hA, rfl⟩⟩
        unfold ref01_Classes.l3
        rw [ix_gt (by simpa [hc] using hi), gt_set (by omega), if_pos rfl, Option.bind_some, if_neg (by simpa using e)]
    · have e : k = (rst dn i).length := by omega
      have hx : ix (rst dn i ++ [(i : Int)]) (k : Int) = some (i : Int) := by
        rw [ix_gt (by omega)]
        subst e; unfold gt; rw [List.getD_eq_getElem?_getD, List.getElem?_append_right (Nat.le_refl _), Nat.sub_self]; rfl
      rw [hx, Option.bind_some, if_neg (by simp)]
      refine ⟨(i : Int), _, rfl, .inl ⟨rfl, fun g hg => ?_⟩⟩
      obtain ⟨q, hq, e2⟩ := gt_of_mem hg
      rw [← e2]; exact hno q (by omega)
theorem ph2_step {l : List VNode} {dn : List Bool} {c0 cls : List Int} {i : Nat} (hi : i < l.length) (hd : gb dn i = false) (P : Ph2 l dn c0 i cls) {v : Int}
    (hv : v = i ∧ (∀ g ∈ rst dn i, ¬ Alike (nd l i) (nd l g)) ∨ ∃ g ∈ rst dn i, Alike (nd l i) (nd l g) ∧ v = gt cls g.toNat) : Ph2 l dn c0 (i + 1) (cls.set i v) := by
  have hr : rst dn (i + 1) = rst dn i ++ [(i : Int)] := by show (if gb dn i = true then _ else _) = _; rw [if_neg (by rw [hd]; simp)]
  have gc : ∀ x, x ≠ i → gt (cls.set i v) x = gt cls x := fun x hx => by rw [gt_set (by rw [P.lc]; exact hi), if_neg hx]
  have gi : gt (cls.set i v) i = v := by rw [gt_set (by rw [P.lc]; exact hi), if_pos rfl]
  have ltI : ∀ {x : Int}, x ∈ rst dn i → 0 ≤ x ∧ x < i := fun h => by obtain ⟨j, a, b, c⟩ := mem_rst.1 h; omega
  refine ⟨by simpa using P.lc, fun j hj => ?_, fun j hj => ?_⟩
  · rw [gc j (fun e => by subst e; rw [hd] at hj; cases hj)]; exact P.old j hj
  · rw [hr] at hj ⊢
    rcases List.mem_append.1 hj with hj | hj
    · obtain ⟨r1, r2, r3⟩ := P.rep j hj
      have hji := ltI hj
      rw [gc j (by omega)]
      refine ⟨List.mem_append_left _ r1, r2, fun g hg hA => ?_⟩
      rcases List.mem_append.1 hg with hg | hg
      · exact r3 g hg hA
      · have := ltI r1
        rw [List.mem_singleton] at hg; omega
    · rw [List.mem_singleton] at hj
      have e : j = i := by omega
      subst e
      rw [gi]
      rcases hv with ⟨rfl, h⟩ | ⟨g, g1, g2, rfl⟩
      · refine ⟨by simp, Alike.refl _, fun g hg hA => ?_⟩
        rcases List.mem_append.1 hg with hg | hg
        · exact absurd hA (h g hg)
        · rw [List.mem_singleton] at hg; omega
      · have hgi := ltI g1
        have eg : ((g.toNat : Nat) : Int) = g := by omega
        obtain ⟨r1, r2, r3⟩ := P.rep g.toNat (by rw [eg]; exact g1)
        rw [eg] at r2 r3
        refine ⟨List.mem_append_left _ r1, g2.trans r2, fun x hx hA => ?_⟩
        rcases List.mem_append.1 hx with hx | hx
        · exact r3 x hx (g2.symm.trans hA)
        · have := ltI r1
          rw [List.mem_singleton] at hx; omega
theorem ph2_l2 {m : Nat} (hm : 2 ^ 30 ≤ m) {l : List VNode} (ok : Okl l) {dn : List Bool} (hd : dn.length = l.length) {c0 : List Int} : ∀ (f i : Nat) (cls : List Int), l.length - i < f → i ≤ l.length → Ph2 l dn c0 i cls →
    ∃ cls' x, ref01_Classes.l2 m l dn f cls (rst dn i) (i : Int) = some (cls', rst dn l.length, x) ∧ Ph2 l dn c0 l.length cls'
  | 0, i, cls, hf, _, _ => absurd hf (by omega)
  | f + 1, i, cls, hf, hi, P => by
    have p30 : (2 : Nat) ^ 30 = 1073741824 := by decide
    have h8 := ok.1
    unfold ref01_Classes.l2
    by_cases h : i < l.length
    · have hgb : ix dn (i : Int) = some (gb dn i) := by
        have := ix_gb (l := dn) (i := (i : Int)) (by omega) (by rw [Int.toNat_natCast]; omega)
        rwa [Int.toNat_natCast] at this
      have ew : i64.wrap ((i : Int) + 1) = ((i + 1 : Nat) : Int) := by rw [i64_id (by omega) (by omega)]; omega
      rw [if_pos (by simp only [decide_eq_true_eq]; omega), hgb, Option.bind_some, ew]
      cases hdi : gb dn i with
      | true =>
        have hr : rst dn (i + 1) = rst dn i := by show (if gb dn i = true then _ else _) = _; rw [if_pos hdi]
        rw [if_pos rfl, ← hr]
        exact ph2_l2 hm ok hd f (i + 1) cls (by omega) (by omega) ⟨P.lc, P.old, fun j hj => by rw [hr] at hj ⊢; exact P.rep j hj⟩
      | false =>
        have hr : rst dn (i + 1) = rst dn i ++ [(i : Int)] := by show (if gb dn i = true then _ else _) = _; rw [if_neg (by rw [hdi]; simp)]
        have hrl := rst_length (dn := dn) i
        have hap : app 8 (rst dn i) [(i : Int)] = some (rst dn i ++ [(i : Int)]) := by unfold app; rw [if_pos (by simp; omega)]
        obtain ⟨v, x, k1, k2⟩ := ph2_l3 (m := m) ok h P.lc (fun g hg e => by
          obtain ⟨j, a, b, c⟩ := mem_rst.1 hg
          have := (P.rep j (by rw [← c]; exact hg)).1
          obtain ⟨j', a', b', c'⟩ := mem_rst.1 this
          rw [c, Int.toNat_natCast] at e; omega) m 0 (by omega) (by omega) (fun q hq => absurd hq (by omega))
        have k1 : ref01_Classes.l3 m l (i : Int) (rst dn i ++ [(i : Int)]) m (cls.set i (i : Int)) 0 = _ := k1
        rw [if_neg (by simp), hap, Option.bind_some, ix_gt (by rw [P.lc]; exact h), Option.bind_some, Int.toNat_natCast, k1, Option.bind_some]
        dsimp only
        rw [← hr]
        exact ph2_l2 hm ok hd f (i + 1) _ (by omega) (by omega) (ph2_step h hdi P k2)
    · have e : i = l.length := by omega
      subst e
      exact ⟨cls, _, by rw [if_neg (by simp)], P⟩
end Go.Proofs.YtmekcfdllhphlaaDoor

namespace Go.Proofs.YtmekcfdllhphlaaDoor
open Go Go.R
open Go.IntKind (i64 u64 u8 u32)
structure Ph3 (l : List VNode) (dn : List Bool) (c0 cls : List Int) : Prop where
  lc : cls.length = l.length
  old : ∀ j, j < l.length → gb dn j = true → gt cls j = gt c0 j
  rep : ∀ j : Nat, (j : Int) ∈ rst dn l.length → gt cls j ∈ rst dn l.length ∧ gt cls j ≤ j ∧ gt cls (gt cls j).toNat = gt cls j ∧ Alike (nd l j) (nd l (gt cls j))
  coarse : ∀ R, Bis l R → ∀ i j : Nat, R i j → (i : Int) ∈ rst dn l.length → (j : Int) ∈ rst dn l.length → gt cls i = gt cls j
theorem rst_rng {dn : List Bool} {p : Nat} {x : Int} (h : x ∈ rst dn p) : 0 ≤ x ∧ x < p ∧ ((x.toNat : Nat) : Int) = x := by
  obtain ⟨j, a, b, c⟩ := mem_rst.1 h; omega
theorem ph3_start {l : List VNode} {dn : List Bool} {c0 cls : List Int} (P : Ph2 l dn c0 l.length cls) : Ph3 l dn c0 cls := by
  have mn : ∀ i j : Nat, (i : Int) ∈ rst dn l.length → (j : Int) ∈ rst dn l.length → Alike (nd l i) (nd l j) → gt cls i ≤ gt cls j := fun i j hi hj hA => by
    obtain ⟨r1, r2, r3⟩ := P.rep j hj
    exact (P.rep i hi).2.2 _ r1 (hA.trans r2)
  refine ⟨P.lc, fun j _ h => P.old j h, fun j hj => ?_, fun R B i j hR hi hj => ?_⟩
  · obtain ⟨r1, r2, r3⟩ := P.rep j hj
    have e := (rst_rng r1).2.2
    refine ⟨r1, r3 j hj (Alike.refl _), ?_, r2⟩
    have h1 := mn j (gt cls j).toNat hj (by rw [e]; exact r1) (by rw [e]; exact r2)
    have h2 := mn (gt cls j).toNat j (by rw [e]; exact r1) hj (by rw [e]; exact r2.symm)
    omega
  · have h1 := mn i j hi hj (B.top i j hR)
    have h2 := mn j i hj hi (B.top i j hR).symm
    omega
def Qr (l : List VNode) (cls : List Int) (j g : Nat) : Prop := gt cls j = gt cls g ∧ SA l cls j g
theorem Ph3.al {l dn c0 cls} (P : Ph3 l dn c0 cls) {i j : Nat} (hi : (i : Int) ∈ rst dn l.length) (hj : (j : Int) ∈ rst dn l.length) (h : gt cls i = gt cls j) : Alike (nd l i) (nd l j) := by
  have a := (P.rep i hi).2.2.2
  have b := (P.rep j hj).2.2.2
  rw [h] at a
  exact a.trans b.symm
theorem Ph3.qsymm {l dn c0 cls} (P : Ph3 l dn c0 cls) {i j : Nat} (hi : (i : Int) ∈ rst dn l.length) (hj : (j : Int) ∈ rst dn l.length) (h : Qr l cls i j) : Qr l cls j i :=
  ⟨h.1.symm, fun k hk => (h.2 k (by have := (P.al hi hj h.1).len; unfold na at *; omega)).symm⟩
theorem Ph3.qtrans {l dn c0 cls} (P : Ph3 l dn c0 cls) {i j q : Nat} (hi : (i : Int) ∈ rst dn l.length) (hj : (j : Int) ∈ rst dn l.length) (h : Qr l cls i j) (g : Qr l cls j q) : Qr l cls i q :=
  ⟨h.1.trans g.1, fun k hk => (h.2 k hk).trans (g.2 k (by have := (P.al hi hj h.1).len; unfold na at *; omega))⟩
theorem ph3_l6 {m : Nat} (hm : 2 ^ 30 ≤ m) {l : List VNode} {dn : List Bool} {c0 cls nx : List Int} (ok : Okl l) (P : Ph3 l dn c0 cls) (hnx : nx.length = l.length) {J : Nat} (hJ : J < (rst dn l.length).length)
    (hlt : ∀ q, q < J → gt nx (gt (rst dn l.length) q).toNat ≠ gt (rst dn l.length) J) : ∀ (f k : Nat), J - k + 2 ≤ f → k ≤ J → (∀ q, q < k → ¬ Qr l cls (gt (rst dn l.length) J).toNat (gt (rst dn l.length) q).toNat) →
    ∃ w x, ref01_Classes.l6 m l (rst dn l.length) cls (J : Int) (gt (rst dn l.length) J) f (nx.set (gt (rst dn l.length) J).toNat (gt (rst dn l.length) J)) (k : Int) = some (nx.set (gt (rst dn l.length) J).toNat w, x) ∧
      (w = gt (rst dn l.length) J ∧ (∀ q, q < J → ¬ Qr l cls (gt (rst dn l.length) J).toNat (gt (rst dn l.length) q).toNat) ∨ ∃ q, q < J ∧ Qr l cls (gt (rst dn l.length) J).toNat (gt (rst dn l.length) q).toNat ∧ w = gt nx (gt (rst dn l.length) q).toNat)
  | 0, k, hf, _, _ => absurd hf (by omega)
  | f + 1, k, hf, hk, hno => by
    have p30 : (2 : Nat) ^ 30 = 1073741824 := by decide
    have h8 := ok.1
    have hrl := rst_length (dn := dn) l.length
    have mJ := gt_mem hJ
    obtain ⟨v0, v1, v2⟩ := rst_rng mJ
    unfold ref01_Classes.l6
    have hself : ∀ w, ix (nx.set (gt (rst dn l.length) J).toNat w) (gt (rst dn l.length) J) = some w := fun w => by
      rw [ix_gt' (k := (gt (rst dn l.length) J).toNat) (by omega) (by rw [List.length_set]; omega), gt_set (by omega), if_pos rfl]
    rw [hself, Option.bind_some, if_pos (by simp)]
    by_cases h : k < J
    · have mk := gt_mem (l := rst dn l.length) (k := k) (by omega)
      obtain ⟨w0, w1, w2⟩ := rst_rng mk
      have next : ¬ Qr l cls (gt (rst dn l.length) J).toNat (gt (rst dn l.length) k).toNat → ∃ w x, ref01_Classes.l6 m l (rst dn l.length) cls (J : Int) (gt (rst dn l.length) J) f (nx.set (gt (rst dn l.length) J).toNat (gt (rst dn l.length) J)) (i64.wrap ((k : Int) + 1)) = some (nx.set (gt (rst dn l.length) J).toNat w, x) ∧
          (w = gt (rst dn l.length) J ∧ (∀ q, q < J → ¬ Qr l cls (gt (rst dn l.length) J).toNat (gt (rst dn l.length) q).toNat) ∨ ∃ q, q < J ∧ Qr l cls (gt (rst dn l.length) J).toNat (gt (rst dn l.length) q).toNat ∧ w = gt nx (gt (rst dn l.length) q).toNat) := fun hn => by
        rw [i64_id (by omega) (by omega), show (k : Int) + 1 = ((k + 1 : Nat) : Int) by omega]
        refine ph3_l6 hm ok P hnx hJ hlt f (k + 1) (by omega) (by omega) fun q hq => ?_
        by_cases e : q = k
        · subst e; exact hn
        · exact hno q (by omega)
      have c1 : ix cls (gt (rst dn l.length) J) = some (gt cls (gt (rst dn l.length) J).toNat) := ix_gt' v2.symm (by rw [P.lc]; omega)
      have c2 : ix cls (gt (rst dn l.length) k) = some (gt cls (gt (rst dn l.length) k).toNat) := ix_gt' w2.symm (by rw [P.lc]; omega)
      rw [if_pos (by simp only [decide_eq_true_eq]; omega), c1, Option.bind_some, ix_gt (by omega), Option.bind_some, c2, Option.bind_some]
      by_cases e : gt cls (gt (rst dn l.length) J).toNat = gt cls (gt (rst dn l.length) k).toNat
      · have hA := P.al (i := (gt (rst dn l.length) J).toNat) (j := (gt (rst dn l.length) k).toNat) (by rw [v2]; exact mJ) (by rw [w2]; exact mk) e
        obtain ⟨xs, s1, s2⟩ := sa_spec hm ok P.lc (i := (gt (rst dn l.length) J).toNat) (j := (gt (rst dn l.length) k).toNat) (by omega) (by omega) hA.len
        rw [v2, w2] at s1
        rw [if_pos (by simpa using e), ix_nd (by omega) (by omega), Option.bind_some, Option.bind_some, ix_nd (by omega) (by omega), Option.bind_some, s1, Option.bind_some]
        cases xs with
        | false =>
          rw [if_neg (by simp)]
          exact next fun h => by have := s2.2 h.2; cases this
        | true =>
          have hQ : Qr l cls (gt (rst dn l.length) J).toNat (gt (rst dn l.length) k).toNat := ⟨e, s2.1 rfl⟩
          have hne : (gt (rst dn l.length) k).toNat ≠ (gt (rst dn l.length) J).toNat := by have := rst_lt (dn := dn) (p := l.length) h hJ; omega
          have n1 : ix (nx.set (gt (rst dn l.length) J).toNat (gt (rst dn l.length) J)) (gt (rst dn l.length) k) = some (gt nx (gt (rst dn l.length) k).toNat) := by
            rw [ix_gt' w2.symm (by rw [List.length_set]; omega), gt_set (by omega), if_neg hne]
          obtain ⟨g, rfl⟩ : ∃ g, f = g + 1 := ⟨f - 1, by omega⟩
          rw [if_pos rfl, Option.bind_some, n1, Option.bind_some, Option.bind_some, List.set_set]
          refine ⟨gt nx (gt (rst dn l.length) k).toNat, i64.wrap ((k : Int) + 1), ?_, .inr ⟨k, h, hQ, rfl⟩⟩
          unfold ref01_Classes.l6
          rw [hself, Option.bind_some, if_neg (by simpa using hlt k h)]
      · rw [if_neg (by simpa using e)]
        exact next fun h => e h.1
    · have e : k = J := by omega
      rw [if_neg (by simp only [decide_eq_true_eq]; omega)]
      exact ⟨gt (rst dn l.length) J, _, rfl, .inl ⟨rfl, fun q hq => hno q (by omega)⟩⟩
structure N5 (l : List VNode) (dn : List Bool) (cls : List Int) (p : Nat) (nx : List Int) : Prop where
  ln : nx.length = l.length
  oldn : ∀ x : Nat, (x : Int) ∉ rst dn l.length → gt nx x = gt cls x
  later : ∀ q, p ≤ q → q < (rst dn l.length).length → gt nx (gt (rst dn l.length) q).toNat = gt cls (gt (rst dn l.length) q).toNat
  new : ∀ q, q < p → gt nx (gt (rst dn l.length) q).toNat ∈ rst dn l.length ∧ Qr l cls (gt (rst dn l.length) q).toNat (gt nx (gt (rst dn l.length) q).toNat).toNat ∧ ∀ g ∈ rst dn l.length, Qr l cls (gt (rst dn l.length) q).toNat g.toNat → gt nx (gt (rst dn l.length) q).toNat ≤ g
theorem rst_inj {dn : List Bool} {n p q : Nat} (hp : p < (rst dn n).length) (hq : q < (rst dn n).length) (e : (gt (rst dn n) p).toNat = (gt (rst dn n) q).toNat) : p = q := by
  have a := (rst_rng (gt_mem hp)).2.2
  have b := (rst_rng (gt_mem hq)).2.2
  rcases Nat.lt_trichotomy p q with h | h | h
  · have := rst_lt (dn := dn) (p := n) h hq; omega
  · exact h
  · have := rst_lt (dn := dn) (p := n) h hp; omega
theorem n5_step {l : List VNode} {dn : List Bool} {c0 cls nx : List Int} (P : Ph3 l dn c0 cls) {p : Nat} (hp : p < (rst dn l.length).length) (N : N5 l dn cls p nx) {w : Int}
    (hw : w = gt (rst dn l.length) p ∧ (∀ q, q < p → ¬ Qr l cls (gt (rst dn l.length) p).toNat (gt (rst dn l.length) q).toNat) ∨ ∃ q, q < p ∧ Qr l cls (gt (rst dn l.length) p).toNat (gt (rst dn l.length) q).toNat ∧ w = gt nx (gt (rst dn l.length) q).toNat) :
    N5 l dn cls (p + 1) (nx.set (gt (rst dn l.length) p).toNat w) := by
  have mp := gt_mem hp
  obtain ⟨v0, v1, v2⟩ := rst_rng mp
  have gc : ∀ x, x ≠ (gt (rst dn l.length) p).toNat → gt (nx.set (gt (rst dn l.length) p).toNat w) x = gt nx x := fun x hx => by rw [gt_set (by rw [N.ln]; omega), if_neg hx]
  have gi : gt (nx.set (gt (rst dn l.length) p).toNat w) (gt (rst dn l.length) p).toNat = w := by rw [gt_set (by rw [N.ln]; omega), if_pos rfl]
  refine ⟨by simpa using N.ln, fun x hx => ?_, fun q h1 h2 => ?_, fun q hq => ?_⟩
  · rw [gc x (fun e => hx (by rw [e, v2]; exact mp))]; exact N.oldn x hx
  · rw [gc _ (fun e => by have := rst_inj h2 hp e; omega)]; exact N.later q (by omega) h2
  · by_cases e : q = p
    · subst e
      rw [gi]
      rcases hw with ⟨rfl, h⟩ | ⟨q', h1, h2, rfl⟩
      · refine ⟨mp, ⟨rfl, fun _ _ => rfl⟩, fun g hg hQ => ?_⟩
        obtain ⟨k, hk, rfl⟩ := gt_of_mem hg
        by_cases hkq : k < q
        · exact absurd hQ (h k hkq)
        · by_cases hkq2 : k = q
          · subst hkq2; exact Int.le_refl _
          · have := rst_lt (dn := dn) (p := l.length) (k := q) (q := k) (by omega) hk; omega
      · have mq := gt_mem (l := rst dn l.length) (k := q') (by omega)
        have eq2 := (rst_rng mq).2.2
        obtain ⟨n1, n2, n3⟩ := N.new q' h1
        have e3 := (rst_rng n1).2.2
        have s1 : ((gt (rst dn l.length) q).toNat : Int) ∈ rst dn l.length := by rw [v2]; exact mp
        have s2 : ((gt (rst dn l.length) q').toNat : Int) ∈ rst dn l.length := by rw [eq2]; exact mq
        exact ⟨n1, P.qtrans s1 s2 h2 n2, fun g hg hQ => n3 g hg (P.qtrans s2 s1 (P.qsymm s1 s2 h2) hQ)⟩
    · rw [gc _ (fun e2 => by have := rst_inj (dn := dn) (n := l.length) (by omega) hp e2; omega)]
      exact N.new q (by omega)
theorem ph3_l5 {m : Nat} (hm : 2 ^ 30 ≤ m) {l : List VNode} {dn : List Bool} {c0 cls : List Int} (ok : Okl l) (P : Ph3 l dn c0 cls) : ∀ (f p : Nat) (more : Bool) (nx : List Int), (rst dn l.length).length - p < f → p ≤ (rst dn l.length).length → N5 l dn cls p nx →
    (more = true ↔ ∃ q, q < p ∧ gt nx (gt (rst dn l.length) q).toNat ≠ gt cls (gt (rst dn l.length) q).toNat) →
    ∃ more' nx' x, ref01_Classes.l5 m l (rst dn l.length) cls f more nx (p : Int) = some (more', nx', x) ∧ N5 l dn cls (rst dn l.length).length nx' ∧ (more' = true ↔ ∃ q, q < (rst dn l.length).length ∧ gt nx' (gt (rst dn l.length) q).toNat ≠ gt cls (gt (rst dn l.length) q).toNat)
  | 0, p, _, _, hf, _, _, _ => absurd hf (by omega)
  | f + 1, p, more, nx, hf, hp, N, hmore => by
    have p30 : (2 : Nat) ^ 30 = 1073741824 := by decide
    have h8 := ok.1
    have hrl := rst_length (dn := dn) l.length
    unfold ref01_Classes.l5
    by_cases h : p < (rst dn l.length).length
    · have mp := gt_mem h
      obtain ⟨v0, v1, v2⟩ := rst_rng mp
      obtain ⟨w, x, k1, k2⟩ := ph3_l6 hm ok P N.ln h (fun q hq => by
        obtain ⟨n1, n2, n3⟩ := N.new q hq
        have mq := gt_mem (l := rst dn l.length) (k := q) (by omega)
        have := n3 _ mq ⟨rfl, fun _ _ => rfl⟩
        have := rst_lt (dn := dn) (p := l.length) hq h
        omega) m 0 (by omega) (by omega) (fun q hq => absurd hq (by omega))
      have k1 : ref01_Classes.l6 m l (rst dn l.length) cls (p : Int) (gt (rst dn l.length) p) m (nx.set (gt (rst dn l.length) p).toNat (gt (rst dn l.length) p)) 0 = _ := k1
      have N' := n5_step P h N k2
      have ew : i64.wrap ((p : Int) + 1) = ((p + 1 : Nat) : Int) := by rw [i64_id (by omega) (by omega)]; omega
      have c0' : ix nx (gt (rst dn l.length) p) = some (gt nx (gt (rst dn l.length) p).toNat) := ix_gt' v2.symm (by rw [N.ln]; omega)
      have c1 : ix cls (gt (rst dn l.length) p) = some (gt cls (gt (rst dn l.length) p).toNat) := ix_gt' v2.symm (by rw [P.lc]; omega)
      have c2 : ix (nx.set (gt (rst dn l.length) p).toNat w) (gt (rst dn l.length) p) = some w := by
        rw [ix_gt' v2.symm (by rw [List.length_set, N.ln]; omega), gt_set (by rw [N.ln]; omega), if_pos rfl]
      have gw : gt (nx.set (gt (rst dn l.length) p).toNat w) (gt (rst dn l.length) p).toNat = w := by rw [gt_set (by rw [N.ln]; omega), if_pos rfl]
      have old : ∀ q, q < p → gt (nx.set (gt (rst dn l.length) p).toNat w) (gt (rst dn l.length) q).toNat = gt nx (gt (rst dn l.length) q).toNat := fun q hq => by
        rw [gt_set (by rw [N.ln]; omega), if_neg (fun e => by have := rst_inj (dn := dn) (n := l.length) (by omega) h e; omega)]
      rw [if_pos (by simp only [decide_eq_true_eq]; omega), ix_gt h, Option.bind_some, c0', Option.bind_some, k1, Option.bind_some]
      dsimp only
      rw [ew]
      cases more with
      | true =>
        rw [if_pos rfl]
        refine ph3_l5 hm ok P f (p + 1) true _ (by clear hmore k2; omega) (by clear hmore k2; omega) N' ⟨fun _ => ?_, fun _ => rfl⟩
        obtain ⟨q, q1, q2⟩ := hmore.1 rfl
        exact ⟨q, by omega, by rw [old q q1]; exact q2⟩
      | false =>
        rw [if_neg (by simp), c2, Option.bind_some, c1, Option.bind_some]
        refine ph3_l5 hm ok P f (p + 1) _ _ (by clear hmore k2; omega) (by clear hmore k2; omega) N' ?_
        constructor
        · intro hb
          refine ⟨p, by omega, ?_⟩
          rw [gw]; simpa using hb
        · rintro ⟨q, q1, q2⟩
          by_cases e : q = p
          · subst e; rw [gw] at q2; simpa using q2
          · rw [old q (by omega)] at q2
            have := hmore.2 ⟨q, by omega, q2⟩
            cases this
    · have e : p = (rst dn l.length).length := by omega
      subst e
      exact ⟨more, nx, _, by rw [if_neg (by simp)], N, hmore⟩
theorem ph3_next {l : List VNode} {dn : List Bool} {c0 cls nx : List Int} {od : List Int} (ok : Okl l) (P : Ph3 l dn c0 cls) (N : N5 l dn cls (rst dn l.length).length nx)
    (hdn : ∀ j, j < l.length → (gb dn j = true ↔ (j : Int) ∈ od)) (hc0 : ∀ R, Bis l R → ∀ i j : Nat, R i j → (i : Int) ∈ od → (j : Int) ∈ od → gt c0 i = gt c0 j)
    (hfin : ∀ R, Bis l R → ∀ i j : Nat, R i j → (i : Int) ∈ od → (j : Int) ∈ od) : Ph3 l dn c0 nx := by
  have notin : ∀ j, j < l.length → gb dn j = true → (j : Int) ∉ rst dn l.length := fun j _ h hm => by
    obtain ⟨j', a, b, c⟩ := mem_rst.1 hm
    have : j = j' := by omega
    subst this; rw [h] at b; cases b
  have isin : ∀ j, j < l.length → (j : Int) ∉ od → (j : Int) ∈ rst dn l.length := fun j hj h => mem_rst.2 ⟨j, hj, by
    cases hb : gb dn j with
    | true => exact absurd ((hdn j hj).1 hb) h
    | false => rfl, rfl⟩
  have atR : ∀ j : Nat, (j : Int) ∈ rst dn l.length → gt nx j ∈ rst dn l.length ∧ Qr l cls j (gt nx j).toNat ∧ ∀ g ∈ rst dn l.length, Qr l cls j g.toNat → gt nx j ≤ g := fun j hj => by
    obtain ⟨q, hq, e⟩ := gt_of_mem hj
    have := N.new q hq
    rw [e, Int.toNat_natCast] at this
    exact this
  have mn : ∀ i j : Nat, (i : Int) ∈ rst dn l.length → (j : Int) ∈ rst dn l.length → Qr l cls i j → gt nx i ≤ gt nx j := fun i j hi hj hQ => by
    obtain ⟨r1, r2, r3⟩ := atR j hj
    exact (atR i hi).2.2 _ r1 (P.qtrans hi hj hQ r2)
  have eqq : ∀ i j : Nat, (i : Int) ∈ rst dn l.length → (j : Int) ∈ rst dn l.length → Qr l cls i j → gt nx i = gt nx j := fun i j hi hj hQ => by
    have h1 := mn i j hi hj hQ
    have h2 := mn j i hj hi (P.qsymm hi hj hQ)
    omega
  refine ⟨N.ln, fun j hj h => by rw [N.oldn j (notin j hj h)]; exact P.old j hj h, fun j hj => ?_, fun R B i j hR hi hj => ?_⟩
  · obtain ⟨r1, r2, r3⟩ := atR j hj
    have e := (rst_rng r1).2.2
    have hm2 : (((gt nx j).toNat : Nat) : Int) ∈ rst dn l.length := by rw [e]; exact r1
    refine ⟨r1, r3 j hj ⟨rfl, fun _ _ => rfl⟩, (eqq j _ hj hm2 r2).symm, ?_⟩
    have := P.al hj hm2 r2.1
    rw [e] at this; exact this
  · refine eqq i j hi hj ⟨P.coarse R B i j hR hi hj, fun k hk => ?_⟩
    have hRk : R (ar l i k) (ar l j k) := B.arg i j hR k hk
    obtain ⟨ra, rb⟩ := B.rng _ _ hRk
    by_cases ha : ((ar l i k : Nat) : Int) ∈ od
    · have hb := hfin R B _ _ hRk ha
      rw [P.old _ ra ((hdn _ ra).2 ha), P.old _ rb ((hdn _ rb).2 hb)]
      exact hc0 R B _ _ hRk ha hb
    · have hb : ((ar l j k : Nat) : Int) ∉ od := fun h => ha (hfin _ B.symm _ _ hRk h)
      exact P.coarse R B _ _ hRk (isin _ ra ha) (isin _ rb hb)
def reps (dn : List Bool) (n : Nat) (cls : List Int) : List Int := (rst dn n).filter fun j => gt cls j.toNat == j
theorem rst_nodup {dn : List Bool} {n : Nat} : (rst dn n).Nodup := by
  unfold List.Nodup
  rw [List.pairwise_iff_getElem]
  intro i j hi hj hij e
  have := rst_lt (dn := dn) (p := n) hij hj
  have a := gt_some hi
  have b := gt_some hj
  rw [List.getElem?_eq_getElem hi] at a
  rw [List.getElem?_eq_getElem hj] at b
  have a := Option.some.inj a
  have b := Option.some.inj b
  omega
theorem ph3_l4 {m : Nat} (hm : 2 ^ 30 ≤ m) {l : List VNode} {dn : List Bool} {c0 od : List Int} (ok : Okl l)
    (hdn : ∀ j, j < l.length → (gb dn j = true ↔ (j : Int) ∈ od)) (hc0 : ∀ R, Bis l R → ∀ i j : Nat, R i j → (i : Int) ∈ od → (j : Int) ∈ od → gt c0 i = gt c0 j)
    (hfin : ∀ R, Bis l R → ∀ i j : Nat, R i j → (i : Int) ∈ od → (j : Int) ∈ od) : ∀ (f : Nat) (cls : List Int), (rst dn l.length).length - (reps dn l.length cls).length + 1 < f → Ph3 l dn c0 cls →
    ∃ cls', ref01_Classes.l4 m l (rst dn l.length) f cls true = some (cls', false) ∧ Ph3 l dn c0 cls' ∧ ∀ j : Nat, (j : Int) ∈ rst dn l.length → SA l cls' j (gt cls' j).toNat
  | 0, cls, hf, _ => absurd hf (by omega)
  | f + 1, cls, hf, P => by
    have p30 : (2 : Nat) ^ 30 = 1073741824 := by decide
    have h8 := ok.1
    have hrl := rst_length (dn := dn) l.length
    unfold ref01_Classes.l4
    have hap : app 8 ([] : List Int) cls = some cls := by unfold app; rw [if_pos (by simp; rw [P.lc]; omega), List.nil_append]
    obtain ⟨more', nx, x, k1, N, hmore⟩ := ph3_l5 hm ok P m 0 false cls (by omega) (by omega) ⟨P.lc, fun _ _ => rfl, fun _ _ _ => rfl, fun q hq => absurd hq (by omega)⟩ ⟨fun h => (by cases h), fun ⟨q, hq, _⟩ => absurd hq (by omega)⟩
    have k1 : ref01_Classes.l5 m l (rst dn l.length) cls m false cls 0 = _ := k1
    have P' := ph3_next ok P N hdn hc0 hfin
    rw [if_pos rfl, hap, Option.bind_some, k1, Option.bind_some]
    dsimp only
    cases hmo : more' with
    | true =>
      obtain ⟨q, hq, hne⟩ := hmore.1 hmo
      have mq := gt_mem hq
      have eq2 := (rst_rng mq).2.2
      obtain ⟨n1, n2, n3⟩ := N.new q hq
      have e3 := (rst_rng n1).2.2
      have hgrow : (reps dn l.length cls).length + 1 ≤ (reps dn l.length nx).length := by
        have nd1 : (gt nx (gt (rst dn l.length) q).toNat :: reps dn l.length cls).Nodup := by
          rw [List.nodup_cons]
          refine ⟨fun h => ?_, List.Pairwise.filter _ rst_nodup⟩
          have := (List.mem_filter.1 h).2
          have := beq_iff_eq.1 this
          exact hne (by rw [n2.1, this])
        have := nd1.length_le_of_subset (l₂ := reps dn l.length nx) (fun y hy => by
          rcases List.mem_cons.1 hy with rfl | hy
          · refine List.mem_filter.2 ⟨n1, ?_⟩
            have := (P'.rep (gt (rst dn l.length) q).toNat (by rw [eq2]; exact mq)).2.2.1
            rw [beq_iff_eq]; exact this
          · obtain ⟨y1, y2⟩ := List.mem_filter.1 hy
            have y2 := beq_iff_eq.1 y2
            refine List.mem_filter.2 ⟨y1, ?_⟩
            have ey := (rst_rng y1).2.2
            rw [beq_iff_eq]
            obtain ⟨k, hk, e⟩ := gt_of_mem y1
            obtain ⟨m1, m2, m3⟩ := N.new k hk
            rw [e] at m1 m2 m3
            have a1 := m3 y y1 ⟨rfl, fun _ _ => rfl⟩
            have em := (rst_rng m1).2.2
            have a2 := (P.rep (gt nx y.toNat).toNat (by rw [em]; exact m1)).2.1
            rw [← m2.1, y2] at a2
            omega)
        simpa using this
      have hle : (reps dn l.length nx).length ≤ (rst dn l.length).length := List.length_filter_le _ _
      exact ph3_l4 hm ok hdn hc0 hfin f nx (by clear hmore; omega) P'
    | false =>
      obtain ⟨g, rfl⟩ : ∃ g, f = g + 1 := ⟨f - 1, by omega⟩
      have same : ∀ j : Nat, (j : Int) ∈ rst dn l.length → gt nx j = gt cls j := fun j hj => by
        obtain ⟨k, hk, e⟩ := gt_of_mem hj
        by_cases hne : gt nx j = gt cls j
        · exact hne
        · have := hmore.2 ⟨k, hk, by rw [e, Int.toNat_natCast]; exact hne⟩
          rw [hmo] at this; cases this
      have enx : nx = cls := gt_ext (by rw [N.ln, P.lc]) fun k hk => by
        by_cases h : (k : Int) ∈ rst dn l.length
        · exact same k h
        · exact N.oldn k h
      refine ⟨nx, ?_, P', fun j hj => ?_⟩
      · unfold ref01_Classes.l4
        rw [if_neg (by simp)]
      · obtain ⟨k, hk, e⟩ := gt_of_mem hj
        obtain ⟨m1, m2, m3⟩ := N.new k hk
        rw [e, Int.toNat_natCast] at m2
        rw [enx] at m2 ⊢
        exact m2.2
end Go.Proofs.YtmekcfdllhphlaaDoor

namespace Go.Proofs.YtmekcfdllhphlaaDoor
open Go Go.R
open Go.IntKind (i64 u64 u8 u32)
structure RMin (l : List VNode) (c od : List Int) : Prop where
  min : Min l c
  rep : ∀ i, i < l.length → 0 ≤ gt c i ∧ gt c i < l.length ∧ gt c (gt c i).toNat = gt c i
  rank : ∀ i : Nat, (i : Int) ∈ od → ∀ k, k < na l i → ((ar l i k : Nat) : Int) ∈ od ∧ od.idxOf ((ar l i k : Nat) : Int) < od.idxOf (i : Int)
  big : ∀ i, i < l.length → (i : Int) ∉ od → gt c i ≤ i
theorem gb_rep {n k : Nat} : gb (List.replicate n false) k = false := by
  unfold gb; rw [List.getD_eq_getElem?_getD, List.getElem?_replicate]; split <;> rfl
theorem ref_classes {m : Nat} (hm : 2 ^ 30 ≤ m) {l : List VNode} (ok : Okl l) : ∃ c od, ref01_Classes.f m l = some c ∧ RMin l c od := by
  have p30 : (2 : Nat) ^ 30 = 1073741824 := by decide
  have h8 := ok.1
  unfold ref01_Classes.f
  have e0 : mkl 8 (l.length : Int) (0 : Int) = some (List.replicate l.length 0) := by unfold mkl; rw [if_pos ⟨by omega, by rw [Int.toNat_natCast]; omega⟩, Int.toNat_natCast]
  have e1 : mkl 1 (l.length : Int) false = some (List.replicate l.length false) := by unfold mkl; rw [if_pos ⟨by omega, by rw [Int.toNat_natCast]; omega⟩, Int.toNat_natCast]
  obtain ⟨c0, dn, fs, od, k1, P1, hq⟩ := ph1_l0 hm ok m (List.replicate l.length 0) (List.replicate l.length false) [] [] (by simp; omega)
    { lc := by simp, ld := by simp, odn := by simp, odr := (by intro x hx; cases hx), don := (by intro i hi; rw [gb_rep]; simp), rank := (by intro i hi; cases hi), fsn := by simp, fst := (by intro f hf; cases hf), rep := (by intro i hi; cases hi), apart := (by intro f hf; cases hf), coarse := (by intro R B i j hR hi; cases hi) }
  obtain ⟨c1, x, k2, P2⟩ := ph2_l2 hm ok P1.ld (c0 := c0) m 0 c0 (by omega) (by omega) { lc := P1.lc, old := fun _ _ => rfl, rep := (by intro j hj; cases hj) }
  have k2 : ref01_Classes.l2 m l dn m c0 [] 0 = _ := k2
  have hfin : ∀ R, Bis l R → ∀ i j : Nat, R i j → (i : Int) ∈ od → (j : Int) ∈ od := by
    intro R B
    have : ∀ N i j : Nat, od.idxOf (i : Int) < N → R i j → (i : Int) ∈ od → (j : Int) ∈ od := by
      intro N
      induction N with
      | zero => intro i j h; omega
      | succ N ih =>
        intro i j hN hR hi
        by_cases hj : (j : Int) ∈ od
        · exact hj
        · obtain ⟨k, g1, g2⟩ := hq j (B.rng i j hR).2 hj
          have hki : k < na l i := by have := (B.top i j hR).len; unfold na at *; omega
          obtain ⟨r1, r2⟩ := P1.rank i hi k hki
          exact absurd (ih (ar l i k) (ar l j k) (by omega) (B.arg i j hR k hki) r1) g2
    exact fun i j => this (od.idxOf (i : Int) + 1) i j (by omega)
  obtain ⟨c, k3, P3, hS⟩ := ph3_l4 hm ok P1.don P1.coarse hfin m c1 (by have := rst_length (dn := dn) l.length; omega) (ph3_start P2)
  have isin : ∀ j, j < l.length → (j : Int) ∉ od → (j : Int) ∈ rst dn l.length := fun j hj h => mem_rst.2 ⟨j, hj, by
    cases hb : gb dn j with
    | true => exact absurd ((P1.don j hj).1 hb) h
    | false => rfl, rfl⟩
  have notod : ∀ {x : Int}, x ∈ rst dn l.length → x ∉ od := fun hx h => by
    obtain ⟨j, a, b, e⟩ := mem_rst.1 hx
    subst e
    rw [(P1.don j a).2 h] at b; cases b
  have oldc : ∀ j : Nat, j < l.length → (j : Int) ∈ od → gt c j = gt c0 j := fun j hj h => P3.old j hj ((P1.don j hj).2 h)
  have fsod : ∀ f ∈ fs, 0 ≤ f ∧ f < l.length ∧ f ∈ od ∧ ((f.toNat : Nat) : Int) = f := fun f hf => by
    have a := P1.fsr f hf; have b := (P1.fst f hf).1; exact ⟨a.1, a.2, b, by omega⟩
  have simc : ∀ i j : Nat, (i : Int) ∈ od → (j : Int) ∈ od → Sim l c0 i j → SA l c i j := fun i j hi hj h k hk => by
    have a := (P1.rank i hi k hk).1
    have b := (P1.rank j hj k (by have := h.1.len; unfold na at *; omega)).1
    have ra := P1.odr _ a
    have rb := P1.odr _ b
    rw [oldc _ (by omega) a, oldc _ (by omega) b]
    exact h.2 k hk
  have both : ∀ i j : Nat, i < l.length → j < l.length → gt c i = gt c j → Alike (nd l i) (nd l j) ∧ SA l c i j := fun i j hi hj e => by
    by_cases h1 : (i : Int) ∈ od
    · obtain ⟨f1, s1⟩ := P1.rep i h1
      by_cases h2 : (j : Int) ∈ od
      · obtain ⟨f2, s2⟩ := P1.rep j h2
        rw [oldc i hi h1, oldc j hj h2] at e
        rw [e] at s1
        have s := s1.trans s2.symm
        exact ⟨s.1, simc i j h1 h2 s⟩
      · have := (P3.rep j (isin j hj h2)).1
        rw [← e, oldc i hi h1] at this
        exact absurd (fsod _ f1).2.2.1 (notod this)
    · have r1 := isin i hi h1
      by_cases h2 : (j : Int) ∈ od
      · obtain ⟨f2, s2⟩ := P1.rep j h2
        have := (P3.rep i r1).1
        rw [e, oldc j hj h2] at this
        exact absurd (fsod _ f2).2.2.1 (notod this)
      · have r2 := isin j hj h2
        have hA := P3.al r1 r2 e
        refine ⟨hA, fun k hk => ?_⟩
        have a := hS i r1 k hk
        have b := hS j r2 k (by have := hA.len; unfold na at *; omega)
        rw [e] at a
        exact a.trans b.symm
  refine ⟨c, od, ?_, ⟨P3.lc, fun i j hi hj e => (both i j hi hj e).1, fun i j hi hj e k hk => (both i j hi hj e).2 k hk, fun R B i j hR => ?_⟩, fun i hi => ?_, P1.rank, fun i hi h => (P3.rep i (isin i hi h)).2.1⟩
  · rw [e0, Option.bind_some, e1, Option.bind_some, k1, Option.bind_some]
    dsimp only
    rw [k2, Option.bind_some]
    dsimp only
    rw [k3]; rfl
  · obtain ⟨hi, hj⟩ := B.rng i j hR
    by_cases h1 : (i : Int) ∈ od
    · have h2 := hfin R B i j hR h1
      rw [oldc i hi h1, oldc j hj h2]; exact P1.coarse R B i j hR h1 h2
    · have h2 : (j : Int) ∉ od := fun h => h1 (hfin _ B.symm j i hR h)
      exact P3.coarse R B i j hR (isin i hi h1) (isin j hj h2)
  · by_cases h1 : (i : Int) ∈ od
    · obtain ⟨f1, s1⟩ := P1.rep i h1
      obtain ⟨a, b, d, e⟩ := fsod _ f1
      rw [oldc i hi h1]
      refine ⟨a, b, ?_⟩
      rw [oldc _ (by omega) (by rw [e]; exact d)]
      exact (P1.fst _ f1).2
    · obtain ⟨r1, r2, r3, r4⟩ := P3.rep i (isin i hi h1)
      have := rst_rng r1
      exact ⟨this.1, this.2.1, r3⟩
end Go.Proofs.YtmekcfdllhphlaaDoor

namespace Go.Proofs.YtmekcfdllhphlaaDoor
open Go Go.R
open Go.IntKind (i64 u64 u8 u32)
inductive Pre (κ : Int → Int) (A : Int → List Int) : List Int → List Int → List Int → Prop
  | nil (o : List Int) : Pre κ A [] o o
  | skip {v : Int} {st o o' : List Int} : κ v ∈ o.map κ → Pre κ A st o o' → Pre κ A (v :: st) o o'
  | push {v : Int} {st o o' : List Int} : κ v ∉ o.map κ → Pre κ A (A v ++ st) (o ++ [v]) o' → Pre κ A (v :: st) o o'
theorem Pre.det {κ : Int → Int} {A : Int → List Int} {st o o1 o2 : List Int} (h : Pre κ A st o o1) (k : Pre κ A st o o2) : o1 = o2 := by
  induction h with
  | nil o => cases k; rfl
  | skip hm _ ih =>
    cases k with
    | skip _ k => exact ih k
    | push hn _ => exact absurd hm hn
  | push hn _ ih =>
    cases k with
    | skip hm _ => exact absurd hm hn
    | push _ k => exact ih k
theorem Pre.facts {κ : Int → Int} {A : Int → List Int} {n : Nat} {st o o' : List Int} (h : Pre κ A st o o') (hA : ∀ v : Int, 0 ≤ v → v < n → ∀ a ∈ A v, 0 ≤ a ∧ a < n) (hst : ∀ v ∈ st, 0 ≤ v ∧ v < n) (ho : ∀ v ∈ o, 0 ≤ v ∧ v < n) (hnd : (o.map κ).Nodup) :
    (∃ t, o' = o ++ t) ∧ (∀ v ∈ o', 0 ≤ v ∧ v < n) ∧ (o'.map κ).Nodup ∧ (∀ v ∈ st, κ v ∈ o'.map κ) ∧ ((∀ v ∈ o, ∀ a ∈ A v, κ a ∈ o.map κ ∨ a ∈ st) → ∀ v ∈ o', ∀ a ∈ A v, κ a ∈ o'.map κ) := by
  induction h with
  | nil o =>
    refine ⟨⟨[], by simp⟩, ho, hnd, ?_, ?_⟩
    · intro v hv; cases hv
    · intro h v hv a ha; exact (h v hv a ha).resolve_right (by simp)
  | @skip v st o o' hm _ ih =>
    obtain ⟨⟨t, rfl⟩, a, b, c, d⟩ := ih (fun x hx => hst x (by simp [hx])) ho hnd
    refine ⟨⟨t, rfl⟩, a, b, fun x hx => ?_, fun h => d fun x hx y hy => ?_⟩
    · rcases List.mem_cons.1 hx with rfl | hx
      · rw [List.map_append]; exact List.mem_append_left _ hm
      · exact c x hx
    · rcases h x hx y hy with h | h
      · exact .inl h
      · rcases List.mem_cons.1 h with rfl | h
        · exact .inl hm
        · exact .inr h
  | @push v st o o' hn _ ih =>
    have hv := hst v (by simp)
    have h1 : ∀ x ∈ A v ++ st, 0 ≤ x ∧ x < n := fun x hx => by
      rcases List.mem_append.1 hx with hx | hx
      · exact hA v hv.1 hv.2 x hx
      · exact hst x (by simp [hx])
    have h2 : ∀ x ∈ o ++ [v], 0 ≤ x ∧ x < n := fun x hx => by
      rcases List.mem_append.1 hx with hx | hx
      · exact ho x hx
      · rw [List.mem_singleton] at hx; subst hx; exact hv
    have h3 : ((o ++ [v]).map κ).Nodup := by
      rw [List.map_append, List.nodup_append]
      refine ⟨hnd, by simp, fun a ha b hb => ?_⟩
      simp only [List.map_cons, List.map_nil, List.mem_singleton] at hb
      subst hb; intro e; subst e; exact hn ha
    obtain ⟨⟨t, rfl⟩, a, b, c, d⟩ := ih h1 h2 h3
    refine ⟨⟨[v] ++ t, by simp⟩, a, b, fun x hx => ?_, fun h => d fun x hx y hy => ?_⟩
    · rcases List.mem_cons.1 hx with rfl | hx
      · simp
      · exact c x (by simp [hx])
    · rcases List.mem_append.1 hx with hx | hx
      · rcases h x hx y hy with h | h
        · exact .inl (by rw [List.map_append]; exact List.mem_append_left _ h)
        · rcases List.mem_cons.1 h with rfl | h
          · exact .inl (by simp)
          · exact .inr (by simp [h])
      · rw [List.mem_singleton] at hx; subst hx
        exact .inr (List.mem_append_left _ hy)
theorem Pre.from {A : Int → List Int} {root : Int} {st o o' : List Int} (h : Pre id A st o o') (hst : ∀ v ∈ st, v = root ∨ ∃ q, q < o.length ∧ v ∈ A (gt o q)) (ho : ∀ i, i < o.length → gt o i = root ∨ ∃ q, q < i ∧ gt o i ∈ A (gt o q)) :
    ∀ i, i < o'.length → gt o' i = root ∨ ∃ q, q < i ∧ gt o' i ∈ A (gt o' q) := by
  induction h with
  | nil o => exact ho
  | skip hm _ ih => exact ih (fun x hx => hst x (by simp [hx])) ho
  | @push v st o o' hn _ ih =>
    have gl : ∀ q, q < o.length → gt (o ++ [v]) q = gt o q := fun q hq => gt_append hq
    have gv : gt (o ++ [v]) o.length = v := by unfold gt; rw [List.getD_eq_getElem?_getD, List.getElem?_append_right (Nat.le_refl _), Nat.sub_self]; rfl
    refine ih (fun x hx => ?_) (fun i hi => ?_)
    · rcases List.mem_append.1 hx with hx | hx
      · exact .inr ⟨o.length, by simp, by rw [gv]; exact hx⟩
      · rcases hst x (by simp [hx]) with h | ⟨q, q1, q2⟩
        · exact .inl h
        · exact .inr ⟨q, by simp; omega, by rw [gl q q1]; exact q2⟩
    · by_cases h : i < o.length
      · rw [gl i h]
        rcases ho i h with h1 | ⟨q, q1, q2⟩
        · exact .inl h1
        · exact .inr ⟨q, q1, by rw [gl q (by omega)]; exact q2⟩
      · have e : i = o.length := by simp at hi; omega
        subst e
        rw [gv]
        rcases hst v (by simp) with h | ⟨q, q1, q2⟩
        · exact .inl h
        · exact .inr ⟨q, q1, by rw [gl q q1]; exact q2⟩
theorem dfs_succ (cls : List Int) (l : List VNode) (k : Nat) (i : Int) (o : List Int) : dfs cls l (k + 1) i o = if cla cls i ∈ o.map (cla cls) then o else (nd l i).args.foldl (fun o a => dfs cls l k a o) (o ++ [i]) := rfl
theorem dfs_vs {cls : List Int} {l : List VNode} (ok : Okl l) : ∀ (k : Nat) (i : Int) (o : List Int), 0 ≤ i → i < l.length → Vs cls l.length o → Vs cls l.length (dfs cls l k i o) ∧ o.length ≤ (dfs cls l k i o).length
  | 0, i, o, _, _, v => ⟨v, Nat.le_refl _⟩
  | k + 1, i, o, h0, h1, v => by
    rw [dfs_succ]
    split
    · exact ⟨v, Nat.le_refl _⟩
    · rename_i h
      have v1 : Vs cls l.length (o ++ [i]) := by
        refine ⟨?_, fun x hx => ?_⟩
        · rw [List.map_append, List.nodup_append]
          refine ⟨v.nod, by simp, fun a ha b hb => ?_⟩
          simp only [List.map_cons, List.map_nil, List.mem_singleton] at hb
          subst hb; intro e; subst e; exact h ha
        · rcases List.mem_append.1 hx with hx | hx
          · exact v.rng x hx
          · simp only [List.mem_singleton] at hx; subst hx; exact ⟨h0, h1⟩
      have fold : ∀ (zs : List Int) (o : List Int), (∀ a ∈ zs, 0 ≤ a ∧ a < l.length) → Vs cls l.length o → Vs cls l.length (zs.foldl (fun o a => dfs cls l k a o) o) ∧ o.length ≤ (zs.foldl (fun o a => dfs cls l k a o) o).length := by
        intro zs
        induction zs with
        | nil => intro o _ v; exact ⟨v, Nat.le_refl _⟩
        | cons a zs ih =>
          intro o ha v
          have hr := ha a (by simp)
          obtain ⟨v2, l2⟩ := dfs_vs ok k a o hr.1 hr.2 v
          obtain ⟨v3, l3⟩ := ih (dfs cls l k a o) (fun x hx => ha x (by simp [hx])) v2
          exact ⟨v3, Nat.le_trans l2 l3⟩
      obtain ⟨v2, l2⟩ := fold (nd l i).args (o ++ [i]) (ok.2 _ (nd_mem h0 h1)).2 v1
      exact ⟨v2, by simp at l2; omega⟩
theorem pre_dfs {cls : List Int} {l : List VNode} (ok : Okl l) : ∀ (k : Nat) (i : Int) (o st o' : List Int), 0 ≤ i → i < l.length → Vs cls l.length o → l.length < k + o.length →
    Pre (cla cls) (fun v => (nd l v).args) st (dfs cls l k i o) o' → Pre (cla cls) (fun v => (nd l v).args) (i :: st) o o'
  | 0, i, o, st, o', _, _, v, hk, _ => absurd v.few (by omega)
  | k + 1, i, o, st, o', h0, h1, v, hk, h => by
    rw [dfs_succ] at h
    by_cases hm : cla cls i ∈ o.map (cla cls)
    · rw [if_pos hm] at h
      exact .skip hm h
    · rw [if_neg hm] at h
      refine .push hm ?_
      have v1 : Vs cls l.length (o ++ [i]) := by
        refine ⟨?_, fun x hx => ?_⟩
        · rw [List.map_append, List.nodup_append]
          refine ⟨v.nod, by simp, fun a ha b hb => ?_⟩
          simp only [List.map_cons, List.map_nil, List.mem_singleton] at hb
          subst hb; intro e; subst e; exact hm ha
        · rcases List.mem_append.1 hx with hx | hx
          · exact v.rng x hx
          · simp only [List.mem_singleton] at hx; subst hx; exact ⟨h0, h1⟩
      have fold : ∀ (zs : List Int) (o : List Int), (∀ a ∈ zs, 0 ≤ a ∧ a < l.length) → Vs cls l.length o → l.length < k + o.length → Pre (cla cls) (fun v => (nd l v).args) st (zs.foldl (fun o a => dfs cls l k a o) o) o' → Pre (cla cls) (fun v => (nd l v).args) (zs ++ st) o o' := by
        intro zs
        induction zs with
        | nil => intro o _ _ _ h; exact h
        | cons a zs ih =>
          intro o ha v hk h
          have hr := ha a (by simp)
          obtain ⟨v2, l2⟩ := dfs_vs ok k a o hr.1 hr.2 v
          exact pre_dfs ok k a o (zs ++ st) o' hr.1 hr.2 v hk (ih _ (fun x hx => ha x (by simp [hx])) v2 (by omega) h)
      exact fold (nd l i).args (o ++ [i]) (ok.2 _ (nd_mem h0 h1)).2 v1 (by simp; omega) h
theorem sub_few2 {od : List Int} {n : Nat} (h : od.Nodup) (hr : ∀ x ∈ od, 0 ≤ x ∧ x < n) : od.length ≤ n := by
  have := h.length_le_of_subset (l₂ := ints n) (fun x hx => mem_ints.2 (hr x hx))
  rwa [ints_length] at this
theorem rch_l1 {m : Nat} {l : List VNode} (ok : Okl l) {v : Int} (h0 : 0 ≤ v) (h1 : v < l.length) : ∀ (f i : Nat) (st : List Int), i < f → i ≤ (nd l v).args.length → st.length + i ≤ 1000000 →
    ∃ x, ref01_Reached.l1 m l v f st ((i : Int) - 1) = some (st ++ ((nd l v).args.take i).reverse, x)
  | 0, i, st, hf, _, _ => absurd hf (by omega)
  | f + 1, 0, st, hf, hi, hs => by
    unfold ref01_Reached.l1
    rw [if_neg (by simp)]
    exact ⟨_, by simp; rfl⟩
  | f + 1, i + 1, st, hf, hi, hs => by
    have h8 := (ok.2 _ (nd_mem h0 h1)).1
    have ei : ((i + 1 : Nat) : Int) - 1 = (i : Int) := by omega
    have ew : i64.wrap ((i : Int) - 1) = (i : Int) - 1 := i64_id (by omega) (by omega)
    have hap : app 8 st [gt (nd l v).args i] = some (st ++ [gt (nd l v).args i]) := by unfold app; rw [if_pos (by simp; omega)]
    obtain ⟨x, ih⟩ := rch_l1 (m := m) ok h0 h1 f i (st ++ [gt (nd l v).args i]) (by omega) (by omega) (by simp; omega)
    refine ⟨x, ?_⟩
    unfold ref01_Reached.l1
    rw [ei, if_pos (by simp), ix_nd h0 h1, Option.bind_some, ix_gt (by omega), Option.bind_some, hap, Option.bind_some, ew, ih]
    rw [List.take_add_one, gt_some (by omega)]
    simp
theorem rch_l0 {m : Nat} (hm : 2 ^ 30 ≤ m) {l : List VNode} (ok : Okl l) : ∀ (f : Nat) (met : List Bool) (o st : List Int), st.length + 9 * (l.length - o.length) < f → st.length + 9 * (l.length - o.length) ≤ 100000 → met.length = l.length → (∀ i, i < l.length → (gb met i = true ↔ (i : Int) ∈ o)) → o.Nodup → (∀ v ∈ o, 0 ≤ v ∧ v < l.length) → (∀ v ∈ st, 0 ≤ v ∧ v < l.length) →
    ∃ met' o' , ref01_Reached.l0 m l f met o st.reverse = some (met', o', []) ∧ Pre id (fun v => (nd l v).args) st o o'
  | 0, met, o, st, hf, _, _, _, _, _, _ => absurd hf (by omega)
  | f + 1, met, o, [], hf, hb, hml, hmt, hon, hor, hsr => by
    unfold ref01_Reached.l0
    rw [if_neg (by simp)]
    exact ⟨met, o, rfl, .nil o⟩
  | f + 1, met, o, v :: st, hf, hb, hml, hmt, hon, hor, hsr => by
    have p30 : (2 : Nat) ^ 30 = 1073741824 := by decide
    have hfew := sub_few2 hon hor
    obtain ⟨v0, v1⟩ := hsr v (by simp)
    have h8 := (ok.2 _ (nd_mem v0 v1)).1
    have hvn : ((v.toNat : Nat) : Int) = v := by omega
    simp only [List.length_cons] at hf hb
    have hl8 := ok.1
    unfold ref01_Reached.l0
    have hlen : ((v :: st).reverse.length : Int) = (st.length : Int) + 1 := by simp
    have ew : i64.wrap ((st.length : Int) + 1 - 1) = (st.length : Int) := by rw [i64_id (by omega) (by omega)]; omega
    have e1 : ix (v :: st).reverse (st.length : Int) = some v := by
      unfold ix
      rw [if_pos (by omega), Int.toNat_natCast, List.reverse_cons, List.getElem?_append_right (by simp)]
      simp
    have e2 : slc (v :: st).reverse 0 (st.length : Int) = some st.reverse := by
      unfold slc
      rw [if_pos ⟨by omega, by omega, by simp; omega⟩, List.reverse_cons]
      simp only [Int.toNat_natCast, List.drop_zero, Int.toNat_zero, Nat.sub_zero]
      rw [List.take_left' (by simp)]
    have e3 : ix met v = some (gb met v.toNat) := ix_gb v0 (by omega)
    rw [if_pos (by rw [hlen]; simp only [gt_iff_lt, decide_eq_true_eq]; omega), hlen, ew, e1, Option.bind_some, e2, Option.bind_some, e3, Option.bind_some]
    cases hg : gb met v.toNat with
    | true =>
      have hmem : v ∈ o := by have := (hmt v.toNat (by omega)).1 hg; rwa [hvn] at this
      obtain ⟨met', o', k1, k2⟩ := rch_l0 hm ok f met o st (by omega) (by omega) hml hmt hon hor (fun x hx => hsr x (by simp [hx]))
      rw [if_pos rfl]
      exact ⟨met', o', k1, .skip (by simpa using hmem) k2⟩
    | false =>
      have hnm : v ∉ o := fun h => by
        have := (hmt v.toNat (by omega)).2 (by rw [hvn]; exact h)
        rw [hg] at this; cases this
      have on1 : (o ++ [v]).Nodup := by
        rw [List.nodup_append]
        refine ⟨hon, by simp, fun a ha b hb => ?_⟩
        rw [List.mem_singleton] at hb
        subst hb; intro e; subst e; exact hnm ha
      have or1 : ∀ x ∈ o ++ [v], 0 ≤ x ∧ x < l.length := fun x hx => by
        rcases List.mem_append.1 hx with hx | hx
        · exact hor x hx
        · rw [List.mem_singleton] at hx; subst hx; exact ⟨v0, v1⟩
      have hfew1 := sub_few2 on1 or1
      simp only [List.length_append, List.length_cons, List.length_nil] at hfew1
      have hap : app 8 o [v] = some (o ++ [v]) := by unfold app; rw [if_pos (by simp; omega)]
      have ewn : i64.wrap (((nd l v).args.length : Int) - 1) = ((nd l v).args.length : Int) - 1 := i64_id (by omega) (by omega)
      obtain ⟨x, q1⟩ := rch_l1 (m := m) ok v0 v1 m (nd l v).args.length st.reverse (by omega) (Nat.le_refl _) (by simp; omega)
      rw [List.take_length] at q1
      have hrev : st.reverse ++ (nd l v).args.reverse = ((nd l v).args ++ st).reverse := by simp
      rw [hrev] at q1
      rw [if_neg (by simp), Option.bind_some, hap, Option.bind_some, ix_nd v0 v1, Option.bind_some, ewn, q1, Option.bind_some]
      dsimp only
      obtain ⟨met', o', k1, k2⟩ := rch_l0 hm ok f (met.set v.toNat true) (o ++ [v]) ((nd l v).args ++ st) (by simp; omega) (by simp; omega) (by simpa using hml) (fun i hi => by
        rw [gb_set (by omega), List.mem_append, List.mem_singleton]
        by_cases e : i = v.toNat
        · subst e; simp [hvn]
        · rw [if_neg e, hmt i hi]
          constructor
          · exact fun h => .inl h
          · rintro (h | h)
            · exact h
            · omega) on1 or1 (fun x hx => by
        rcases List.mem_append.1 hx with hx | hx
        · exact (ok.2 _ (nd_mem v0 v1)).2 x hx
        · exact hsr x (by simp [hx]))
      exact ⟨met', o', k1, .push (by simpa using hnm) k2⟩
theorem gb_rep' {n k : Nat} : gb (List.replicate n false) k = false := by
  unfold gb; rw [List.getD_eq_getElem?_getD, List.getElem?_replicate]; split <;> rfl
theorem reached_spec {m : Nat} (hm : 2 ^ 30 ≤ m) {l : List VNode} (ok : Okl l) {root : Int} (h0 : 0 ≤ root) (h1 : root < l.length) : ∃ o, ref01_Reached.f m l root = some o ∧ Pre id (fun v => (nd l v).args) [root] [] o := by
  have p30 : (2 : Nat) ^ 30 = 1073741824 := by decide
  have hl8 := ok.1
  unfold ref01_Reached.f
  have e1 : mkl 1 (l.length : Int) false = some (List.replicate l.length false) := by unfold mkl; rw [if_pos ⟨by omega, by rw [Int.toNat_natCast]; omega⟩, Int.toNat_natCast]
  have hap : app 8 ([] : List Int) [root] = some [root] := by unfold app; rw [if_pos (by simp), List.nil_append]
  obtain ⟨met', o', k1, k2⟩ := rch_l0 hm ok m (List.replicate l.length false) [] [root] (by simp; omega) (by simp; omega) (by simp) (fun i hi => by rw [gb_rep']; simp) (by simp) (fun v hv => by cases hv) (fun v hv => by rw [List.mem_singleton] at hv; subst hv; exact ⟨h0, h1⟩)
  have k1 : ref01_Reached.l0 m l m (List.replicate l.length false) [] [root] = _ := k1
  rw [e1, Option.bind_some, hap, Option.bind_some, k1, Option.bind_some]
  exact ⟨o', rfl, k2⟩
end Go.Proofs.YtmekcfdllhphlaaDoor

namespace Go.Proofs.YtmekcfdllhphlaaDoor
open Go Go.R
open Go.IntKind (i64 u64 u8 u32)
def pm (pl : List Int) (n : VNode) : VNode := ⟨n.kind, n.int, n.label, n.args.map fun a => gt pl a.toNat⟩
theorem nd_some {l : List VNode} {i : Nat} (h : i < l.length) : l[i]? = some (nd l i) := by
  have := ix_nd (l := l) (i := (i : Int)) (by omega) (by omega)
  unfold ix at this
  rwa [if_pos (by omega), Int.toNat_natCast] at this
theorem nd_set {l : List VNode} {i q : Nat} {x : VNode} (hi : i < l.length) : nd (l.set i x) q = if q = i then x else nd l q := by
  unfold nd
  simp only [Int.toNat_natCast, List.getD_eq_getElem?_getD, List.getElem?_set]
  by_cases h : i = q
  · subst h; simp [hi]
  · rw [if_neg h, if_neg (by omega)]
theorem nd_map {f : VNode → VNode} {l : List VNode} {i : Nat} (h : i < l.length) : nd (l.map f) i = f (nd l i) := by
  have h1 := nd_some (l := l.map f) (i := i) (by simpa using h)
  rw [List.getElem?_map, nd_some h] at h1
  exact (Option.some.inj h1).symm
theorem nd_mapI {f : Int → VNode} {l : List Int} {i : Nat} (h : i < l.length) : nd (l.map f) i = f (gt l i) := by
  have h1 := nd_some (l := l.map f) (i := i) (by simpa using h)
  rw [List.getElem?_map, gt_some h] at h1
  exact (Option.some.inj h1).symm
theorem nd_ext {l r : List VNode} (hl : l.length = r.length) (h : ∀ k, k < l.length → nd l k = nd r k) : l = r := by
  apply List.ext_getElem? fun k => ?_
  by_cases hk : k < l.length
  · rw [nd_some hk, nd_some (hl ▸ hk), h k hk]
  · rw [List.getElem?_eq_none (by omega), List.getElem?_eq_none (by omega)]
theorem place_l0 {m : Nat} {S : List Int} (hn : S.Nodup) (hSl : S.length ≤ 8000) : ∀ (f i : Nat) (pl : List Int), S.length - i < f → i ≤ S.length → (∀ s ∈ S, 0 ≤ s ∧ s < pl.length) → (∀ q, q < i → gt pl (gt S q).toNat = q) →
    ∃ pl' x, ref01_least.l0 m S f pl (i : Int) = some (pl', x) ∧ pl'.length = pl.length ∧ ∀ q, q < S.length → gt pl' (gt S q).toNat = q
  | 0, i, pl, hf, _, _, _ => absurd hf (by omega)
  | f + 1, i, pl, hf, hi, hS, hq => by
    unfold ref01_least.l0
    by_cases h : i < S.length
    · obtain ⟨s0, s1⟩ := hS _ (gt_mem h)
      have hx : ∃ z, ix pl (gt S i) = some z := ⟨_, ix_gt' (k := (gt S i).toNat) (by omega) (by omega)⟩
      obtain ⟨z, hx⟩ := hx
      obtain ⟨pl', x, k1, k2, k3⟩ := place_l0 (m := m) hn hSl f (i + 1) (pl.set (gt S i).toNat (i : Int)) (by omega) (by omega) (by simpa using hS) (fun q hqi => by
        rw [gt_set (by omega)]
        by_cases e : q = i
        · subst e; rw [if_pos rfl]
        · have hne : gt S q ≠ gt S i := fun e2 => e (gt_inj hn (by omega) h e2)
          have := hS _ (gt_mem (l := S) (k := q) (by omega))
          rw [if_neg (by omega)]; exact hq q (by omega))
      refine ⟨pl', x, ?_, by simpa using k2, k3⟩
      rw [if_pos (by simp only [decide_eq_true_eq]; omega), ix_gt h, Option.bind_some, hx, Option.bind_some, i64_id (by omega) (by omega), show (i : Int) + 1 = ((i + 1 : Nat) : Int) by omega]
      exact k1
    · exact ⟨pl, _, by rw [if_neg (by simp only [decide_eq_true_eq]; omega)], rfl, fun q h => hq q (by omega)⟩
theorem place_l5 {m : Nat} {S : List Int} (hn : S.Nodup) (hSl : S.length ≤ 8000) : ∀ (f i : Nat) (pl : List Int), S.length - i < f → i ≤ S.length → (∀ s ∈ S, 0 ≤ s ∧ s < pl.length) → (∀ q, q < i → gt pl (gt S q).toNat = q) →
    ∃ pl' x, ref01_least.l5 m S f pl (i : Int) = some (pl', x) ∧ pl'.length = pl.length ∧ ∀ q, q < S.length → gt pl' (gt S q).toNat = q
  | 0, i, pl, hf, _, _, _ => absurd hf (by omega)
  | f + 1, i, pl, hf, hi, hS, hq => by
    unfold ref01_least.l5
    by_cases h : i < S.length
    · obtain ⟨s0, s1⟩ := hS _ (gt_mem h)
      have hx : ∃ z, ix pl (gt S i) = some z := ⟨_, ix_gt' (k := (gt S i).toNat) (by omega) (by omega)⟩
      obtain ⟨z, hx⟩ := hx
      obtain ⟨pl', x, k1, k2, k3⟩ := place_l5 (m := m) hn hSl f (i + 1) (pl.set (gt S i).toNat (i : Int)) (by omega) (by omega) (by simpa using hS) (fun q hqi => by
        rw [gt_set (by omega)]
        by_cases e : q = i
        · subst e; rw [if_pos rfl]
        · have hne : gt S q ≠ gt S i := fun e2 => e (gt_inj hn (by omega) h e2)
          have := hS _ (gt_mem (l := S) (k := q) (by omega))
          rw [if_neg (by omega)]; exact hq q (by omega))
      refine ⟨pl', x, ?_, by simpa using k2, k3⟩
      rw [if_pos (by simp only [decide_eq_true_eq]; omega), ix_gt h, Option.bind_some, hx, Option.bind_some, i64_id (by omega) (by omega), show (i : Int) + 1 = ((i + 1 : Nat) : Int) by omega]
      exact k1
    · exact ⟨pl, _, by rw [if_neg (by simp only [decide_eq_true_eq]; omega)], rfl, fun q h => hq q (by omega)⟩
theorem args_l2 {m : Nat} {pl : List Int} {n : VNode} (h8 : n.args.length ≤ 8) (ha : ∀ a ∈ n.args, 0 ≤ a ∧ a < pl.length) : ∀ (f k : Nat), n.args.length - k < f → k ≤ n.args.length →
    ∃ x, ref01_least.l2 m pl n f ((n.args.take k).map fun a => gt pl a.toNat) (k : Int) = some (n.args.map fun a => gt pl a.toNat, x)
  | 0, k, hf, _ => absurd hf (by omega)
  | f + 1, k, hf, hk => by
    unfold ref01_least.l2
    by_cases h : k < n.args.length
    · obtain ⟨a0, a1⟩ := ha _ (gt_mem h)
      have hy : ix pl (gt n.args k) = some (gt pl (gt n.args k).toNat) := ix_gt' (by omega) (by omega)
      have hT : n.args.take (k + 1) = n.args.take k ++ [gt n.args k] := by rw [List.take_add_one, gt_some h]; rfl
      have hap : app 8 ((n.args.take k).map fun a => gt pl a.toNat) [gt pl (gt n.args k).toNat] = some ((n.args.take (k + 1)).map fun a => gt pl a.toNat) := by
        unfold app; rw [if_pos (by simp; omega), hT, List.map_append]; rfl
      obtain ⟨x, ih⟩ := args_l2 (m := m) h8 ha f (k + 1) (by omega) (by omega)
      rw [if_pos (by simp only [decide_eq_true_eq]; omega), ix_gt h, Option.bind_some, hy, Option.bind_some, hap, Option.bind_some, i64_id (by omega) (by omega), show (k : Int) + 1 = ((k + 1 : Nat) : Int) by omega]
      exact ⟨x, ih⟩
    · have e : k = n.args.length := by omega
      subst e
      exact ⟨_, by rw [if_neg (by simp), List.take_length]⟩
theorem args_l7 {m : Nat} {pl : List Int} {n : VNode} (h8 : n.args.length ≤ 8) (ha : ∀ a ∈ n.args, 0 ≤ a ∧ a < pl.length) : ∀ (f k : Nat), n.args.length - k < f → k ≤ n.args.length →
    ∃ x, ref01_least.l7 m pl n f ((n.args.take k).map fun a => gt pl a.toNat) (k : Int) = some (n.args.map fun a => gt pl a.toNat, x)
  | 0, k, hf, _ => absurd hf (by omega)
  | f + 1, k, hf, hk => by
    unfold ref01_least.l7
    by_cases h : k < n.args.length
    · obtain ⟨a0, a1⟩ := ha _ (gt_mem h)
      have hy : ix pl (gt n.args k) = some (gt pl (gt n.args k).toNat) := ix_gt' (by omega) (by omega)
      have hT : n.args.take (k + 1) = n.args.take k ++ [gt n.args k] := by rw [List.take_add_one, gt_some h]; rfl
      have hap : app 8 ((n.args.take k).map fun a => gt pl a.toNat) [gt pl (gt n.args k).toNat] = some ((n.args.take (k + 1)).map fun a => gt pl a.toNat) := by
        unfold app; rw [if_pos (by simp; omega), hT, List.map_append]; rfl
      obtain ⟨x, ih⟩ := args_l7 (m := m) h8 ha f (k + 1) (by omega) (by omega)
      rw [if_pos (by simp only [decide_eq_true_eq]; omega), ix_gt h, Option.bind_some, hy, Option.bind_some, hap, Option.bind_some, i64_id (by omega) (by omega), show (k : Int) + 1 = ((k + 1 : Nat) : Int) by omega]
      exact ⟨x, ih⟩
    · have e : k = n.args.length := by omega
      subst e
      exact ⟨_, by rw [if_neg (by simp), List.take_length]⟩
theorem part_l1 {m : Nat} (hm : 2 ^ 30 ≤ m) {l : List VNode} {S pl : List Int} (ok : Okl l) (hS : ∀ s ∈ S, 0 ≤ s ∧ s < l.length) (hSl : S.length ≤ 8000) (hpl : pl.length = l.length) : ∀ (f i : Nat), S.length - i < f → i ≤ S.length →
    ∃ x, ref01_least.l1 m l S pl f ((S.take i).map fun s => pm pl (nd l s)) (i : Int) = some (S.map fun s => pm pl (nd l s), x)
  | 0, i, hf, _ => absurd hf (by omega)
  | f + 1, i, hf, hi => by
    have p30 : (2 : Nat) ^ 30 = 1073741824 := by decide
    unfold ref01_least.l1
    by_cases h : i < S.length
    · obtain ⟨s0, s1⟩ := hS _ (gt_mem h)
      obtain ⟨n1, n2⟩ := ok.2 _ (nd_mem s0 s1)
      obtain ⟨x, q1⟩ := args_l2 (m := m) (pl := pl) (n := nd l (gt S i)) n1 (fun a ha => by have := n2 a ha; omega) m 0 (by omega) (by omega)
      have q1 : ref01_least.l2 m pl (nd l (gt S i)) m [] 0 = _ := q1
      have hT : S.take (i + 1) = S.take i ++ [gt S i] := by rw [List.take_add_one, gt_some h]; rfl
      have hap : app 56 ((S.take i).map fun s => pm pl (nd l s)) [VNode.mk (nd l (gt S i)).kind (nd l (gt S i)).int (nd l (gt S i)).label ((nd l (gt S i)).args.map fun a => gt pl a.toNat)] = some ((S.take (i + 1)).map fun s => pm pl (nd l s)) := by
        unfold app; rw [if_pos (by simp; omega), hT, List.map_append]; rfl
      obtain ⟨x, ih⟩ := part_l1 hm ok hS hSl hpl f (i + 1) (by omega) (by omega)
      rw [if_pos (by simp only [decide_eq_true_eq]; omega), ix_gt h, Option.bind_some, ix_nd s0 s1, Option.bind_some, q1, Option.bind_some]
      dsimp only
      rw [hap, Option.bind_some, i64_id (by omega) (by omega), show (i : Int) + 1 = ((i + 1 : Nat) : Int) by omega]
      exact ⟨x, ih⟩
    · have e : i = S.length := by omega
      subst e
      exact ⟨_, by rw [if_neg (by simp), List.take_length]⟩
theorem part_l4 {m : Nat} {P : List VNode} {c : List Int} (hc : c.length = P.length) {i : Nat} (hi : i < P.length) (h8 : (nd P i).args.length ≤ 8) (ha : ∀ a ∈ (nd P i).args, 0 ≤ a ∧ a < P.length) : ∀ (f k : Nat), (nd P i).args.length - k < f → k ≤ (nd P i).args.length →
    ∃ x, ref01_least.l4 m c (i : Int) f (P.set i ⟨(nd P i).kind, (nd P i).int, (nd P i).label, (((nd P i).args.take k).map fun a => gt c a.toNat) ++ (nd P i).args.drop k⟩) (k : Int) = some (P.set i (pm c (nd P i)), x)
  | 0, k, hf, _ => absurd hf (by omega)
  | f + 1, k, hf, hk => by
    unfold ref01_least.l4
    have hself : ∀ w, ix (P.set i w) (i : Int) = some w := fun w => by
      rw [ix_nd (by omega) (by simpa using hi), nd_set hi, if_pos rfl]
    have hlen : ((((nd P i).args.take k).map fun a => gt c a.toNat) ++ (nd P i).args.drop k).length = (nd P i).args.length := by simp; omega
    rw [hself, Option.bind_some]
    by_cases h : k < (nd P i).args.length
    · have hg : gt ((((nd P i).args.take k).map fun a => gt c a.toNat) ++ (nd P i).args.drop k) k = gt (nd P i).args k := by
        unfold gt
        rw [List.getD_eq_getElem?_getD, List.getD_eq_getElem?_getD, List.getElem?_append_right (by simp; omega)]
        simp only [List.length_map, List.length_take, List.getElem?_drop]
        congr 2; omega
      obtain ⟨a0, a1⟩ := ha _ (gt_mem h)
      have hx : ix ((((nd P i).args.take k).map fun a => gt c a.toNat) ++ (nd P i).args.drop k) (k : Int) = some (gt (nd P i).args k) := by rw [ix_gt (by omega), hg]
      have hy : ix c (gt (nd P i).args k) = some (gt c (gt (nd P i).args k).toNat) := ix_gt' (by omega) (by omega)
      have hset : ((((nd P i).args.take k).map fun a => gt c a.toNat) ++ (nd P i).args.drop k).set k (gt c (gt (nd P i).args k).toNat) = (((nd P i).args.take (k + 1)).map fun a => gt c a.toNat) ++ (nd P i).args.drop (k + 1) := by
        have hT : (nd P i).args.take (k + 1) = (nd P i).args.take k ++ [gt (nd P i).args k] := by rw [List.take_add_one, gt_some h]; rfl
        have hD : (nd P i).args.drop k = gt (nd P i).args k :: (nd P i).args.drop (k + 1) := by
          obtain ⟨h4, h5⟩ := List.getElem?_eq_some_iff.1 (gt_some h)
          rw [← h5]; exact List.drop_eq_getElem_cons h4
        have hl2 : (((nd P i).args.take k).map fun a => gt c a.toNat).length = k := by simp; omega
        rw [List.set_append_right _ _ (by omega), hl2, Nat.sub_self, hD, List.set_cons_zero, hT, List.map_append, List.append_assoc]
        rfl
      rw [if_pos (by simp only [decide_eq_true_eq]; omega), Option.bind_some, Option.bind_some]
      dsimp only
      rw [hx, Option.bind_some, hy, Option.bind_some, Option.bind_some, Int.toNat_natCast, Int.toNat_natCast, List.set_set, hset, i64_id (by omega) (by omega), show (k : Int) + 1 = ((k + 1 : Nat) : Int) by omega]
      exact part_l4 hc hi h8 ha f (k + 1) (by omega) (by omega)
    · have e : k = (nd P i).args.length := by omega
      subst e
      refine ⟨((nd P i).args.length : Int), ?_⟩
      rw [if_neg (by simp only [decide_eq_true_eq]; omega), List.take_length, List.drop_length, List.append_nil]
      rfl
theorem part_l3 {m : Nat} (hm : 2 ^ 30 ≤ m) {P : List VNode} {c : List Int} (ok : Okl P) (hc : c.length = P.length) : ∀ (f i : Nat) (Q : List VNode), P.length - i < f → i ≤ P.length → Q.length = P.length → (∀ q, q < P.length → nd Q q = if q < i then pm c (nd P q) else nd P q) →
    ∃ x, ref01_least.l3 m c f Q (i : Int) = some (P.map (pm c), x)
  | 0, i, Q, hf, _, _, _ => absurd hf (by omega)
  | f + 1, i, Q, hf, hi, hl, hq => by
    have p30 : (2 : Nat) ^ 30 = 1073741824 := by decide
    have h8 := ok.1
    unfold ref01_least.l3
    by_cases h : i < P.length
    · obtain ⟨n1, n2⟩ := nd_ok ok h
      have hQi : nd Q i = nd P i := by rw [hq i h, if_neg (by omega)]
      obtain ⟨x, q1⟩ := part_l4 (m := m) (P := Q) (c := c) (by omega) (i := i) (by omega) (by rw [hQi]; exact n1) (by rw [hQi, hl]; exact n2) m 0 (by rw [hQi]; omega) (by omega)
      have hself : Q.set i ⟨(nd Q i).kind, (nd Q i).int, (nd Q i).label, (((nd Q i).args.take 0).map fun a => gt c a.toNat) ++ (nd Q i).args.drop 0⟩ = Q := by
        refine nd_ext (by simp) fun k hk => ?_
        rw [nd_set (by omega)]
        by_cases e : k = i
        · subst e; rw [if_pos rfl]; simp
        · rw [if_neg e]
      rw [hself] at q1
      have q1 : ref01_least.l4 m c (i : Int) m Q 0 = _ := q1
      rw [if_pos (by simp only [decide_eq_true_eq]; omega), q1, Option.bind_some]
      dsimp only
      rw [i64_id (by omega) (by omega), show (i : Int) + 1 = ((i + 1 : Nat) : Int) by omega]
      refine part_l3 hm ok hc f (i + 1) _ (by omega) (by omega) (by simpa using hl) fun q hq2 => ?_
      rw [nd_set (by omega)]
      by_cases e : q = i
      · subst e; rw [if_pos rfl, if_pos (by omega), hQi]
      · rw [if_neg e, hq q hq2]
        by_cases hlt : q < i
        · rw [if_pos hlt, if_pos (by omega)]
        · rw [if_neg hlt, if_neg (by omega)]
    · have e : i = P.length := by omega
      subst e
      refine ⟨(P.length : Int), ?_⟩
      rw [if_neg (by simp only [decide_eq_true_eq]; omega)]
      have : Q = P.map (pm c) := nd_ext (by simpa using hl) fun k hk => by rw [hq k (by omega), if_pos (by omega), nd_map (by omega)]
      rw [this]
theorem out_l6 {m : Nat} (hm : 2 ^ 30 ≤ m) {P : List VNode} {T pl : List Int} (ok : Okl P) (hT : ∀ t ∈ T, 0 ≤ t ∧ t < P.length) (hTl : T.length ≤ 8000) (hpl : P.length ≤ pl.length) : ∀ (f i : Nat), T.length - i < f → i ≤ T.length →
    ∃ x, ref01_least.l6 m P T pl f (i : Int) ((T.take i).map fun t => pm pl (nd P t)) 0 = some (x, T.map fun t => pm pl (nd P t), 0)
  | 0, i, hf, _ => absurd hf (by omega)
  | f + 1, i, hf, hi => by
    have p30 : (2 : Nat) ^ 30 = 1073741824 := by decide
    unfold ref01_least.l6
    by_cases h : i < T.length
    · obtain ⟨s0, s1⟩ := hT _ (gt_mem h)
      obtain ⟨n1, n2⟩ := ok.2 _ (nd_mem s0 s1)
      obtain ⟨x, q1⟩ := args_l7 (m := m) (pl := pl) (n := nd P (gt T i)) n1 (fun a ha => by have := n2 a ha; omega) m 0 (by omega) (by omega)
      have q1 : ref01_least.l7 m pl (nd P (gt T i)) m [] 0 = _ := q1
      have hTk : T.take (i + 1) = T.take i ++ [gt T i] := by rw [List.take_add_one, gt_some h]; rfl
      have hap : app 56 ((T.take i).map fun t => pm pl (nd P t)) [VNode.mk (nd P (gt T i)).kind (nd P (gt T i)).int (nd P (gt T i)).label ((nd P (gt T i)).args.map fun a => gt pl a.toNat)] = some ((T.take (i + 1)).map fun t => pm pl (nd P t)) := by
        unfold app; rw [if_pos (by simp; omega), hTk, List.map_append]; rfl
      obtain ⟨x, ih⟩ := out_l6 hm ok hT hTl hpl f (i + 1) (by omega) (by omega)
      rw [if_pos (by simp only [decide_eq_true_eq]; omega), ix_gt h, Option.bind_some, ix_nd s0 s1, Option.bind_some, q1, Option.bind_some]
      dsimp only
      rw [hap, Option.bind_some, i64_id (by omega) (by omega), show (i : Int) + 1 = ((i + 1 : Nat) : Int) by omega]
      exact ⟨x, ih⟩
    · have e : i = T.length := by omega
      subst e
      exact ⟨_, by rw [if_neg (by simp), List.take_length]⟩
end Go.Proofs.YtmekcfdllhphlaaDoor

namespace Go.Proofs.YtmekcfdllhphlaaDoor
open Go Go.R
open Go.IntKind (i64 u64 u8 u32)
inductive Way (l : List VNode) : Nat → Nat → Prop
  | one {i k : Nat} : k < na l i → Way l i (ar l i k)
  | more {i j k : Nat} : Way l i j → k < na l j → Way l i (ar l j k)
theorem way_sim {l : List VNode} {c od : List Int} (ok : Okl l) (M : RMin l c od) {i j : Nat} (w : Way l i j) (hi : i < l.length) : j < l.length ∧ ∀ x : Nat, x < l.length → (x : Int) ∈ od → gt c x = gt c i → ∃ y : Nat, y < l.length ∧ gt c y = gt c j ∧ (y : Int) ∈ od ∧ od.idxOf (y : Int) < od.idxOf (x : Int) := by
  induction w with
  | @one k hk =>
    refine ⟨(ar_lt ok hi hk).1, fun x hx hxo e => ?_⟩
    have hA := M.min.top i x hi hx e.symm
    have hkx : k < na l x := by have := hA.len; unfold na at *; omega
    obtain ⟨r1, r2⟩ := M.rank x hxo k hkx
    exact ⟨ar l x k, (ar_lt ok hx hkx).1, (M.min.arg i x hi hx e.symm k hk).symm, r1, r2⟩
  | @more j k w hk ih =>
    obtain ⟨hj, ih⟩ := ih
    refine ⟨(ar_lt ok hj hk).1, fun x hx hxo e => ?_⟩
    obtain ⟨y, hy, ey, hyo, hlt⟩ := ih x hx hxo e
    have hA := M.min.top j y hj hy ey.symm
    have hky : k < na l y := by have := hA.len; unfold na at *; omega
    obtain ⟨r1, r2⟩ := M.rank y hyo k hky
    exact ⟨ar l y k, (ar_lt ok hy hky).1, (M.min.arg j y hj hy ey.symm k hk).symm, r1, by omega⟩
theorem root_class {l : List VNode} {c od : List Int} (ok : Okl l) (M : RMin l c od) (h0 : 0 < l.length) (hw : ∀ j, 0 < j → j < l.length → Way l 0 j) : gt c 0 = 0 := by
  obtain ⟨r1, r2, r3⟩ := M.rep 0 h0
  by_cases hod : ((0 : Nat) : Int) ∈ od
  · by_cases hz : gt c 0 = 0
    · exact hz
    · exfalso
      have w := hw (gt c 0).toNat (by omega) (by omega)
      have key : ∀ N x : Nat, od.idxOf (x : Int) < N → x < l.length → (x : Int) ∈ od → gt c x = gt c 0 → False := by
        intro N
        induction N with
        | zero => intro x h; omega
        | succ N ih =>
          intro x hN hx hxo e
          obtain ⟨y, hy, ey, hyo, hlt⟩ := (way_sim ok M w h0).2 x hx hxo e
          exact ih y (by omega) hy hyo (by rw [ey, r3])
      exact key _ 0 (Nat.lt_succ_self _) h0 hod rfl
  · have := M.big 0 h0 hod
    omega
theorem lock {l P5 : List VNode} {κ1 : Int → Int} {K2 : Int → Int} {Can : Int → Prop} (hinj : ∀ v w, Can v → Can w → K2 v = K2 w → v = w)
    (hargs : ∀ a v : Int, 0 ≤ a → a < l.length → Can v → κ1 a = K2 v → (nd l a).args.map κ1 = (nd P5 v).args.map K2) (hcan : ∀ v, Can v → ∀ a ∈ (nd P5 v).args, Can a) (ok : Okl l) {st2 o2 o2' : List Int}
    (h : Pre id (fun v => (nd P5 v).args) st2 o2 o2') : ∀ st1 o1 : List Int, st1.map κ1 = st2.map K2 → o1.map κ1 = o2.map K2 → (∀ b ∈ st2, Can b) → (∀ b ∈ o2, Can b) → (∀ a ∈ st1, 0 ≤ a ∧ a < l.length) →
    ∃ o1', Pre κ1 (fun v => (nd l v).args) st1 o1 o1' ∧ o1'.map κ1 = o2'.map K2 := by
  induction h with
  | nil o =>
    intro st1 o1 hs ho _ _ _
    have : st1 = [] := by simpa using hs
    subst this
    exact ⟨o1, .nil o1, ho⟩
  | @skip v st o o' hm _ ih =>
    intro st1 o1 hs ho c1 c2 hr
    cases st1 with
    | nil => simp at hs
    | cons a st1 =>
      simp only [List.map_cons, List.cons.injEq] at hs
      obtain ⟨o1', k1, k2⟩ := ih st1 o1 hs.2 ho (fun b hb => c1 b (by simp [hb])) c2 (fun x hx => hr x (by simp [hx]))
      refine ⟨o1', .skip ?_ k1, k2⟩
      rw [hs.1, ho]
      exact List.mem_map.2 ⟨v, by simpa using hm, rfl⟩
  | @push v st o o' hn _ ih =>
    intro st1 o1 hs ho c1 c2 hr
    cases st1 with
    | nil => simp at hs
    | cons a st1 =>
      simp only [List.map_cons, List.cons.injEq] at hs
      have hv := c1 v (by simp)
      have ha := hr a (by simp)
      have e := hargs a v ha.1 ha.2 hv hs.1
      obtain ⟨o1', k1, k2⟩ := ih ((nd l a).args ++ st1) (o1 ++ [a]) (by rw [List.map_append, List.map_append, e, hs.2]) (by rw [List.map_append, List.map_append, ho]; simp [hs.1]) (fun b hb => by
        rcases List.mem_append.1 hb with hb | hb
        · exact hcan v hv b hb
        · exact c1 b (by simp [hb])) (fun b hb => by
        rcases List.mem_append.1 hb with hb | hb
        · exact c2 b hb
        · rw [List.mem_singleton] at hb; subst hb; exact hv) (fun x hx => by
        rcases List.mem_append.1 hx with hx | hx
        · exact (ok.2 _ (nd_mem ha.1 ha.2)).2 x hx
        · exact hr x (by simp [hx]))
      refine ⟨o1', .push ?_ k1, k2⟩
      rw [hs.1, ho]
      intro hm
      obtain ⟨w, w1, w2⟩ := List.mem_map.1 hm
      have := hinj v w hv (c2 w w1) w2.symm
      subst this
      exact hn (by simpa using w1)
theorem least_eq {m : Nat} (hm : 2 ^ 41 ≤ m) {t : VTree} (h : validB t = true) : ∃ s, tree_least.f m t = some s ∧ ref01_least.f m t.nodes t.root = some s := by
  have p30 : (2 : Nat) ^ 30 = 1073741824 := by decide
  have p41 : (2 : Nat) ^ 41 = 2199023255552 := by decide
  have hm30 : 2 ^ 30 ≤ m := by omega
  obtain ⟨ok, h1, r0, r1, hT⟩ := validB_ok h
  obtain ⟨r, ns, e1, M, Q, _⟩ := prog_least hm h
  have h8 := ok.1
  generalize hl : t.nodes = l at *
  have pre1 : Pre (cla r) (fun v => (nd l v).args) [t.root] [] (dfs r l m t.root []) := pre_dfs ok m t.root [] [] _ r0 r1 ⟨by simp, fun x hx => by cases hx⟩ (by simp; omega) (.nil _)
  obtain ⟨S, s1, s2⟩ := reached_spec hm30 ok r0 r1
  have hA : ∀ v : Int, 0 ≤ v → v < l.length → ∀ a ∈ (nd l v).args, 0 ≤ a ∧ a < l.length := fun v a b => (ok.2 _ (nd_mem a b)).2
  obtain ⟨_, Sr, Sn, _, Sc⟩ := s2.facts hA (fun v hv => by rw [List.mem_singleton] at hv; subst hv; exact ⟨r0, r1⟩) (fun v hv => by cases hv) (by simp)
  rw [List.map_id] at Sn
  have Sc : ∀ v ∈ S, ∀ a ∈ (nd l v).args, a ∈ S := fun v hv a ha => by have := Sc (fun v hv => by cases hv) v hv a ha; simpa using this
  have S0 : ∃ T, S = t.root :: T := by
    cases s2 with
    | skip hm' _ => simp at hm'
    | push _ k =>
      obtain ⟨⟨T, e⟩, _⟩ := k.facts hA (fun v hv => by
        rcases List.mem_append.1 hv with hv | hv
        · exact hA _ r0 r1 v hv
        · cases hv) (fun v hv => by simp at hv; subst hv; exact ⟨r0, r1⟩) (by simp)
      exact ⟨T, by simpa using e⟩
  have Sl : S.length ≤ l.length := sub_few2 Sn Sr
  have Sp : 0 < S.length := by obtain ⟨T, rfl⟩ := S0; simp
  have Sroot : gt S 0 = t.root := by obtain ⟨T, rfl⟩ := S0; rfl
  have Sfrom := s2.from (root := t.root) (fun v hv => by rw [List.mem_singleton] at hv; exact .inl hv) (fun i hi => absurd hi (by simp))
  have e0 : mkl 8 (l.length : Int) (0 : Int) = some (List.replicate l.length 0) := by unfold mkl; rw [if_pos ⟨by omega, by rw [Int.toNat_natCast]; omega⟩, Int.toNat_natCast]
  obtain ⟨pl, x1, p1, p2, p3⟩ := place_l0 (m := m) Sn (by omega) m 0 (List.replicate l.length 0) (by omega) (by omega) (by simpa using Sr) (fun q hq => absurd hq (by omega))
  rw [List.length_replicate] at p2
  have p1 : ref01_least.l0 m S m (List.replicate l.length 0) 0 = _ := p1
  obtain ⟨x2, p4⟩ := part_l1 hm30 ok Sr (by omega) p2 m 0 (by omega) (by omega)
  have p4 : ref01_least.l1 m l S pl m [] 0 = _ := p4
  generalize hP1 : (S.map fun s => pm pl (nd l s)) = P1 at p4
  have P1l : P1.length = S.length := by rw [← hP1]; simp
  have P1n : ∀ i : Nat, i < S.length → nd P1 i = pm pl (nd l (gt S i)) := fun i hi => by rw [← hP1, nd_mapI hi]
  have inS : ∀ {x : Int}, x ∈ S → gt S (gt pl x.toNat).toNat = x ∧ 0 ≤ gt pl x.toNat ∧ gt pl x.toNat < S.length := fun hx => by
    obtain ⟨q, hq, e⟩ := gt_of_mem hx
    have := p3 q hq
    rw [e] at this
    rw [this, Int.toNat_natCast]; exact ⟨e, by omega, by omega⟩
  have argS : ∀ i : Nat, i < S.length → ∀ a ∈ (nd l (gt S i)).args, a ∈ S := fun i hi => Sc _ (gt_mem hi)
  have ok1 : Okl P1 := by
    refine ⟨by omega, fun n hn => ?_⟩
    rw [← hP1] at hn
    obtain ⟨s, hs, rfl⟩ := List.mem_map.1 hn
    have hr := Sr s hs
    refine ⟨by simpa [pm] using (ok.2 _ (nd_mem hr.1 hr.2)).1, fun a ha => ?_⟩
    obtain ⟨x, hx, rfl⟩ := List.mem_map.1 ha
    have := inS (Sc s hs x hx)
    rw [P1l]; exact this.2
  obtain ⟨c, od, c1, C⟩ := ref_classes hm30 ok1
  have cl : c.length = P1.length := C.min.len
  have na1 : ∀ i : Nat, i < S.length → na P1 i = na l (gt S i).toNat := fun i hi => by
    have := Sr _ (gt_mem hi)
    unfold na
    rw [P1n i hi]
    show ((nd l (gt S i)).args.map _).length = _
    rw [List.length_map, show (((gt S i).toNat : Nat) : Int) = gt S i by omega]
  have ar1 : ∀ i : Nat, i < S.length → ∀ k, k < na P1 i → gt S (ar P1 i k) = gt (nd l (gt S i)).args k := fun i hi k hk => by
    have hk2 : k < (nd l (gt S i)).args.length := by
      have := hk; unfold na at this; rw [P1n i hi] at this; simpa [pm] using this
    have hx := argS i hi _ (gt_mem hk2)
    have : gt (nd P1 i).args k = gt pl (gt (nd l (gt S i)).args k).toNat := by
      rw [P1n i hi]
      have h1 := gt_some (l := (pm pl (nd l (gt S i))).args) (k := k) (by simpa [pm] using hk2)
      have h2 : (pm pl (nd l (gt S i))).args[k]? = some (gt pl (gt (nd l (gt S i)).args k).toNat) := by
        show ((nd l (gt S i)).args.map _)[k]? = _
        rw [List.getElem?_map, gt_some hk2]; rfl
      rw [h2] at h1; exact (Option.some.inj h1).symm
    unfold ar
    rw [this]
    exact (inS hx).1
  have way : ∀ j, 0 < j → j < P1.length → Way P1 0 j := by
    have : ∀ N j, j < N → 0 < j → j < P1.length → Way P1 0 j := by
      intro N
      induction N with
      | zero => intro j h; omega
      | succ N ih =>
        intro j hN hj hjl
        rcases Sfrom j (by omega) with e | ⟨q, hq, hm'⟩
        · have := gt_inj Sn (by omega) Sp (e.trans Sroot.symm)
          omega
        · obtain ⟨k, hk, e⟩ := gt_of_mem hm'
          have hkn : k < na P1 q := by unfold na; rw [P1n q (by omega)]; simpa [pm] using hk
          have h2 := ar1 q (by omega) k hkn
          rw [e] at h2
          have h3 := (ar_lt ok1 (i := q) (by omega) hkn).1
          have e4 : ar P1 q k = j := gt_inj Sn (by omega) (by omega) h2
          rw [← e4]
          by_cases hq0 : q = 0
          · subst hq0; exact .one hkn
          · exact .more (ih q (by omega) (by omega) (by omega)) hkn
    exact fun j => this (j + 1) j (Nat.lt_succ_self _)
  have c00 : gt c 0 = 0 := root_class ok1 C (by omega) way
  have Srn : ∀ i : Nat, i < S.length → (((gt S i).toNat : Nat) : Int) = gt S i ∧ (gt S i).toNat < l.length := fun i hi => by have := Sr _ (gt_mem hi); omega
  have al1 : ∀ i j : Nat, i < S.length → j < S.length → (Alike (nd P1 i) (nd P1 j) ↔ Alike (nd l (gt S i)) (nd l (gt S j))) := fun i j hi hj => by
    rw [P1n i hi, P1n j hj]
    constructor
    · intro z; exact ⟨z.kind, z.int, z.label, by have := z.len; simpa [pm] using this⟩
    · intro z; exact ⟨z.kind, z.int, z.label, by have := z.len; simpa [pm] using this⟩
  have cr : ∀ i j : Nat, i < S.length → j < S.length → (gt c i = gt c j ↔ gt r (gt S i).toNat = gt r (gt S j).toNat) := fun i j hi hj => by
    constructor
    · intro e
      refine M.max (fun a b => ∃ i j : Nat, i < S.length ∧ j < S.length ∧ a = (gt S i).toNat ∧ b = (gt S j).toNat ∧ gt c i = gt c j) ⟨?_, ?_, ?_⟩ _ _ ⟨i, j, hi, hj, rfl, rfl, e⟩
      · rintro a b ⟨i, j, hi, hj, rfl, rfl, _⟩
        exact ⟨(Srn i hi).2, (Srn j hj).2⟩
      · rintro a b ⟨i, j, hi, hj, rfl, rfl, e⟩
        rw [(Srn i hi).1, (Srn j hj).1]
        exact (al1 i j hi hj).1 (C.min.top i j (by omega) (by omega) e)
      · rintro a b ⟨i, j, hi, hj, rfl, rfl, e⟩ k hk
        rw [(Srn i hi).1] at hk ⊢
        rw [(Srn j hj).1]
        have hki : k < na P1 i := by rw [na1 i hi]; unfold na; rw [(Srn i hi).1]; exact hk
        have hkj : k < na P1 j := by have := (C.min.top i j (by omega) (by omega) e).len; unfold na at *; omega
        have a1 := (ar_lt ok1 (i := i) (by omega) hki).1
        have a2 := (ar_lt ok1 (i := j) (by omega) hkj).1
        refine ⟨ar P1 i k, ar P1 j k, by omega, by omega, ?_, ?_, C.min.arg i j (by omega) (by omega) e k hki⟩
        · rw [ar1 i hi k hki]
        · rw [ar1 j hj k hkj]
    · intro e
      refine C.min.max (fun a b => a < S.length ∧ b < S.length ∧ gt r (gt S a).toNat = gt r (gt S b).toNat) ⟨?_, ?_, ?_⟩ i j ⟨hi, hj, e⟩
      · rintro a b ⟨h1, h2, _⟩; omega
      · rintro a b ⟨h1, h2, e⟩
        refine (al1 a b h1 h2).2 ?_
        have := M.top _ _ (Srn a h1).2 (Srn b h2).2 e
        rwa [(Srn a h1).1, (Srn b h2).1] at this
      · rintro a b ⟨h1, h2, e⟩ k hk
        have hA := M.top _ _ (Srn a h1).2 (Srn b h2).2 e
        have hka : k < na P1 a := hk
        have hkl : k < (nd l (((gt S a).toNat : Nat) : Int)).args.length := by have := na1 a h1; unfold na at this hka; omega
        have hkb : k < na P1 b := by rw [na1 b h2]; have := hA.len; unfold na; omega
        have g := M.arg _ _ (Srn a h1).2 (Srn b h2).2 e k hkl
        rw [(Srn a h1).1, (Srn b h2).1] at g
        have a1 := (ar_lt ok1 (i := a) (by omega) hka).1
        have a2 := (ar_lt ok1 (i := b) (by omega) hkb).1
        refine ⟨by show ar P1 a k < _; omega, by show ar P1 b k < _; omega, ?_⟩
        show gt r (gt S (ar P1 a k)).toNat = gt r (gt S (ar P1 b k)).toNat
        rw [ar1 a h1 k hka, ar1 b h2 k hkb]; exact g
  obtain ⟨x3, p5⟩ := part_l3 hm30 ok1 cl m 0 P1 (by omega) (by omega) rfl (fun q hq => by rw [if_neg (by omega)])
  have p5 : ref01_least.l3 m c m P1 0 = _ := p5
  have P5n : ∀ i : Nat, i < S.length → nd (P1.map (pm c)) i = pm c (nd P1 i) := fun i hi => nd_map (by omega)
  have crng : ∀ i : Nat, i < S.length → 0 ≤ gt c i ∧ gt c i < S.length ∧ gt c (gt c i).toNat = gt c i := fun i hi => by have := C.rep i (by omega); rw [P1l] at this; exact this
  have ok5 : Okl (P1.map (pm c)) := by
    refine ⟨by simp; omega, fun n hn => ?_⟩
    obtain ⟨n1, hn1, rfl⟩ := List.mem_map.1 hn
    obtain ⟨q1, q2⟩ := ok1.2 n1 hn1
    refine ⟨by simpa [pm] using q1, fun a ha => ?_⟩
    obtain ⟨x, hx, rfl⟩ := List.mem_map.1 ha
    have := q2 x hx
    have := crng x.toNat (by omega)
    rw [List.length_map, P1l]; omega
  obtain ⟨T, t1, t2⟩ := reached_spec hm30 ok5 (root := 0) (by omega) (by simp; omega)
  generalize hP5 : P1.map (pm c) = P5 at *
  have P5l : P5.length = S.length := by rw [← hP5]; simp [P1l]
  have hA5 : ∀ v : Int, 0 ≤ v → v < P5.length → ∀ a ∈ (nd P5 v).args, 0 ≤ a ∧ a < P5.length := fun v a b => (ok5.2 _ (nd_mem a b)).2
  obtain ⟨_, Tr, Tn, _, Tc⟩ := t2.facts hA5 (fun v hv => by rw [List.mem_singleton] at hv; subst hv; omega) (fun v hv => by cases hv) (by simp)
  rw [List.map_id] at Tn
  have Tc : ∀ v ∈ T, ∀ a ∈ (nd P5 v).args, a ∈ T := fun v hv a ha => by have := Tc (fun v hv => by cases hv) v hv a ha; simpa using this
  have Tl : T.length ≤ P5.length := sub_few2 Tn Tr
  obtain ⟨pl3, x4, p6, p7, p8⟩ := place_l5 (m := m) Tn (by omega) m 0 pl (by omega) (by omega) (fun s hs => by have := Tr s hs; omega) (fun q hq => absurd hq (by omega))
  have p6 : ref01_least.l5 m T m pl 0 = _ := p6
  obtain ⟨x5, p9⟩ := out_l6 (m := m) hm30 ok5 Tr (by omega) (pl := pl3) (by omega) m 0 (by omega) (by omega)
  have p9 : ref01_least.l6 m P5 T pl3 m 0 [] 0 = _ := p9
  let K2 : Int → Int := fun b => cla r (gt S b.toNat)
  let Can : Int → Prop := fun b => 0 ≤ b ∧ b < S.length ∧ gt c b.toNat = b
  have K2c : ∀ x : Int, x ∈ S → K2 (gt c (gt pl x.toNat).toNat) = cla r x := fun x hx => by
    obtain ⟨i1, i2, i3⟩ := inS hx
    obtain ⟨g1, g2, g3⟩ := crng (gt pl x.toNat).toNat (by omega)
    show cla r (gt S (gt c (gt pl x.toNat).toNat).toNat) = _
    have := (cr (gt c (gt pl x.toNat).toNat).toNat (gt pl x.toNat).toNat (by omega) (by omega)).1 g3
    unfold cla
    rw [this, i1]
  have args5 : ∀ v : Int, 0 ≤ v → v < S.length → (nd P5 v).args = (nd l (gt S v.toNat)).args.map fun x => gt c (gt pl x.toNat).toNat := fun v v0 v1 => by
    have := P5n v.toNat (by omega)
    rw [show ((v.toNat : Nat) : Int) = v by omega] at this
    rw [this]
    have h2 := P1n v.toNat (by omega)
    rw [show ((v.toNat : Nat) : Int) = v by omega] at h2
    rw [h2]
    show ((nd l (gt S v.toNat)).args.map _).map _ = _
    rw [List.map_map]; rfl
  have same : ∀ a b : Int, 0 ≤ a → a < l.length → 0 ≤ b → b < l.length → cla r a = cla r b → Alike (nd l a) (nd l b) ∧ (nd l a).args.map (cla r) = (nd l b).args.map (cla r) := fun a b a0 a1 b0 b1 e => by
    have ea : ((a.toNat : Nat) : Int) = a := by omega
    have eb : ((b.toNat : Nat) : Int) = b := by omega
    have e : gt r a.toNat = gt r b.toNat := e
    have hA := M.top a.toNat b.toNat (by omega) (by omega) e
    have hg := M.arg a.toNat b.toNat (by omega) (by omega) e
    rw [ea, eb] at hA hg
    refine ⟨hA, List.ext_getElem? fun k => ?_⟩
    simp only [List.getElem?_map]
    by_cases hk : k < (nd l a).args.length
    · rw [gt_some hk, gt_some (by have := hA.len; omega)]
      simp only [Option.map_some, Option.some.injEq]
      exact hg k hk
    · rw [List.getElem?_eq_none (by omega), List.getElem?_eq_none (by have := hA.len; omega)]
  obtain ⟨o1, q1, q2⟩ := lock (l := l) (P5 := P5) (κ1 := cla r) (K2 := K2) (Can := Can) (fun v w hv hw e => by
      have := (cr v.toNat w.toNat (by have := hv.1; have := hv.2.1; omega) (by have := hw.1; have := hw.2.1; omega)).2 e
      rw [hv.2.2, hw.2.2] at this; exact this) (fun a v a0 a1 hv e => by
      have hS := gt_mem (l := S) (k := v.toNat) (by have := hv.1; have := hv.2.1; omega)
      have hr := Sr _ hS
      rw [(same a _ a0 a1 hr.1 hr.2 e).2, args5 v hv.1 hv.2.1, List.map_map]
      refine List.map_congr_left fun x hx => ?_
      exact (K2c x (Sc _ hS x hx)).symm) (fun v hv a ha => by
      rw [args5 v hv.1 hv.2.1] at ha
      obtain ⟨x, hx, rfl⟩ := List.mem_map.1 ha
      have hS := gt_mem (l := S) (k := v.toNat) (by have := hv.1; have := hv.2.1; omega)
      have := inS (Sc _ hS x hx)
      exact crng (gt pl x.toNat).toNat (by omega)) ok t2 [t.root] [] (by
      show [cla r t.root] = [cla r (gt S 0)]; rw [Sroot]) rfl (fun b hb => by
      rw [List.mem_singleton] at hb; subst hb
      exact ⟨by omega, by omega, c00⟩) (fun b hb => by cases hb) (fun a ha => by rw [List.mem_singleton] at ha; subst ha; exact ⟨r0, r1⟩)
  have eo := q1.det pre1
  rw [eo] at q2
  generalize hO : dfs r l m t.root [] = O at *
  have OT : O.length = T.length := by have := congrArg List.length q2; simpa using this
  have OK : ∀ k, k < T.length → cla r (gt O k) = K2 (gt T k) := fun k hk => by
    have := congrArg (fun z => z[k]?) q2
    simp only [List.getElem?_map] at this
    rw [gt_some (by omega), gt_some hk] at this
    simpa using this
  have hns : ns = T.map fun v => pm pl3 (nd P5 v) := by
    have hlen := Q.len
    apply List.ext_getElem? fun k => ?_
    by_cases hk : k < T.length
    · rw [Q.new k (by simp) (by omega), List.getElem?_map, gt_some hk]
      simp only [Option.map_some, Option.some.injEq]
      have hOr := Q.vs.rng _ (gt_mem (l := O) (k := k) (by omega))
      have hTr := Tr _ (gt_mem hk)
      have hS := gt_mem (l := S) (k := (gt T k).toNat) (by omega)
      have hSr := Sr _ hS
      obtain ⟨hA, hM⟩ := same _ _ hOr.1 hOr.2 hSr.1 hSr.2 (OK k hk)
      have top5 : (nd P5 (gt T k)).kind = (nd l (gt S (gt T k).toNat)).kind ∧ (nd P5 (gt T k)).int = (nd l (gt S (gt T k).toNat)).int ∧ (nd P5 (gt T k)).label = (nd l (gt S (gt T k).toNat)).label := by
        have := P5n (gt T k).toNat (by omega)
        rw [show (((gt T k).toNat : Nat) : Int) = gt T k by omega] at this
        rw [this]
        have h2 := P1n (gt T k).toNat (by omega)
        rw [show (((gt T k).toNat : Nat) : Int) = gt T k by omega] at h2
        rw [h2]
        exact ⟨rfl, rfl, rfl⟩
      unfold finN pm
      rw [hA.kind, hA.int, hA.label, top5.1, top5.2.1, top5.2.2]
      congr 1
      rw [args5 _ hTr.1 (by omega), List.map_map]
      apply List.ext_getElem? fun j => ?_
      simp only [List.getElem?_map]
      by_cases hj : j < (nd l (gt O k)).args.length
      · have hj2 : j < (nd l (gt S (gt T k).toNat)).args.length := by have := hA.len; omega
        rw [gt_some hj, gt_some hj2]
        simp only [Option.map_some, Option.some.injEq, Function.comp]
        have ex : cla r (gt (nd l (gt O k)).args j) = cla r (gt (nd l (gt S (gt T k).toNat)).args j) := by
          have := congrArg (fun z => z[j]?) hM
          simp only [List.getElem?_map] at this
          rw [gt_some hj, gt_some hj2] at this
          simpa using this
        have hin : gt c (gt pl (gt (nd l (gt S (gt T k).toNat)).args j).toNat).toNat ∈ T := by
          refine Tc _ (gt_mem hk) _ ?_
          rw [args5 _ hTr.1 (by omega)]
          exact List.mem_map.2 ⟨_, gt_mem hj2, rfl⟩
        obtain ⟨q, hq, eq⟩ := gt_of_mem hin
        have hp8 := p8 q hq
        rw [eq] at hp8
        rw [hp8]
        unfold idx
        have hnd := Q.vs.nod
        have hget : (O.map (cla r))[q]? = some (cla r (gt (nd l (gt O k)).args j)) := by
          rw [List.getElem?_map, gt_some (by omega)]
          simp only [Option.map_some, Option.some.injEq]
          rw [OK q hq, eq, K2c _ (Sc _ hS _ (gt_mem hj2)), ex]
        obtain ⟨g1, g2⟩ := List.getElem?_eq_some_iff.1 hget
        rw [← g2, hnd.idxOf_getElem]
      · rw [List.getElem?_eq_none (by omega), List.getElem?_eq_none (by have := hA.len; omega)]
        rfl
    · rw [List.getElem?_eq_none (by omega), List.getElem?_eq_none (by simp; omega)]
  refine ⟨⟨ns, 0⟩, e1, ?_⟩
  unfold ref01_least.f
  rw [s1, Option.bind_some, e0, Option.bind_some, p1, Option.bind_some]
  dsimp only
  rw [p4, Option.bind_some]
  dsimp only
  rw [c1, Option.bind_some, p5, Option.bind_some]
  dsimp only
  rw [t1, Option.bind_some, p6, Option.bind_some]
  dsimp only
  rw [p9, Option.bind_some, hns]
end Go.Proofs.YtmekcfdllhphlaaDoor

