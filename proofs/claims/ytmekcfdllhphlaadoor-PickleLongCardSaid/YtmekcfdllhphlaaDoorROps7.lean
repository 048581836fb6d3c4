/- Conversions, operators, and the small operations. -/
import Derived.Test.YtmekcfdllhphlaaDoorROps6
import Derived.Laws.BytesArg
import Derived.Laws.IdiomStrings
set_option linter.unusedVariables false
set_option linter.unusedSimpArgs false
namespace Go.R
open Go

section
variable {P : Program} {L0 : Nat → Prop} {c0 : Cx} {n : Nat} {ds : List Nat} {o : Oper} {s : RS}

theorem isU8_spec {e : TypeId} (h : isU8 P e = true) : P.underlying e = some (.int .u8) ∧ szOf P e = some 1 := by
  unfold isU8 at h
  simp only [Bool.and_eq_true, beq_iff_eq] at h
  obtain ⟨h1, h2⟩ := h
  refine ⟨?_, h2⟩
  split at h1
  · assumption
  · cases h1

theorem u8s_VRs {c : Cx} {L : Nat → Prop} : ∀ {cs : List AV} {l : List UInt8} {vs : List Value}, u8s cs = some l → VRs c L cs vs → ∃ xs : List Int, vs = xs.map (Value.int .u8) ∧ l = xs.map fun n => UInt8.ofNat n.toNat
  | [], l, [], h, _ => by simp only [u8s, Option.some.injEq] at h; subst h; exact ⟨[], rfl, rfl⟩
  | x :: cs, l, v :: vs, h, hv => by
    unfold u8s at h
    split at h
    · rename_i heq; cases heq
    · rename_i n xs heq
      cases heq
      rw [Option.map_eq_some_iff] at h
      obtain ⟨l', h1, rfl⟩ := h
      obtain ⟨ys, rfl, rfl⟩ := u8s_VRs h1 hv.2
      have h2 := hv.1
      simp only [VR] at h2
      subst h2
      exact ⟨n :: ys, rfl, rfl⟩
    · cases h
  | [], _, _ :: _, _, h => h.elim
  | _ :: _, _, [], _, h => h.elim

theorem strOfNums_eq (xs : List Int) : strOfNums xs = ⟨(xs.map fun n => UInt8.ofNat n.toNat).toArray⟩ := rfl

theorem run_bytesOf {w : World} {src dst e : TypeId} {v : Value} {m : Nat} {xs : List Int} (hs : P.underlying src = some (.slice e)) (he : P.underlying e = some (.int .u8)) (hd : P.underlying dst = some .string)
    (hS : Src P 1 src v m (xs.map (Value.int .u8)) w) (hv : ∃ a cap, v = .slice a m cap) : (convert src dst v).run P w = .ok (.string (strOfNums xs)) w := by
  obtain ⟨a, cap, rfl⟩ := hv
  have hc := hS.cells
  have hl := hS.newsLen
  cases a with
  | none =>
    have : xs = [] := by
      simp [Builtin.firstCells] at hc
      cases xs with
      | nil => rfl
      | cons x xs => simp at hc
    subst this
    exact run_convert_bytes_nil w src e hs he m cap dst hd
  | some a =>
    rw [run_convert_bytes_string w src dst e (some a) m cap hs he hd]
    have h1 : (loadCells a m).run P w = .ok (xs.map (Value.int .u8)).toArray w := by simpa [Builtin.firstCells] using hc
    rw [run_bytesToString w a m cap xs h1, foldl_push_bytes]
    simp [strOfNums, ByteArray.empty, ByteArray.emptyWithCapacity]
    rfl

theorem cellsOf_slice {c : Cx} {Lo : Nat → Prop} {lam : Nat → Nat} {x : AV} {v : Value} {h : AHeap} {size m : Nat} {new : List AV} (hx : SR c L0 Lo lam s.bx x v) (hc : cellsOfA h size x = some (new, m)) (hne : ∀ st, x ≠ .str st) : ∃ a cap, v = .slice a m cap := by
  unfold cellsOfA at hc
  cases x <;> simp only at hc <;> try (cases hc; done)
  · exact absurd rfl (hne _)
  · cases hc
    simp only [SR, VR] at hx
    subst hx
    exact ⟨none, 0, rfl⟩
  · split at hc
    · cases hc
      simp only [SR, VR] at hx
      obtain ⟨a, cap, rfl, _⟩ := hx
      exact ⟨a, cap, rfl⟩
    · cases hc
  · rw [Option.bind_eq_some_iff] at hc
    obtain ⟨ob, _, hc⟩ := hc
    cases ob with
    | map es => cases hc
    | row t cs => cases hc
    | cells cs =>
      simp only at hc
      split at hc
      · cases hc
        simp only [SR, VR] at hx
        obtain ⟨_, a, cap, rfl, _⟩ := hx
        exact ⟨a, cap, rfl⟩
      · cases hc

theorem bytes_VRs {c : Cx} {L : Nat → Prop} : ∀ l : List UInt8, VRs c L (l.map fun b => AV.int .u8 b.toNat) (l.map fun b => Value.int .u8 b.toNat)
  | [] => trivial
  | b :: l => ⟨by simp [VR], bytes_VRs l⟩

theorem keeps_freeze {w : World} {b o k : Nat} {C : Array Value} {e : TypeId} {fr : Nat × Nat} (hb : w.heap[b]? = some (.cells C e fr)) (ho : C.size ≤ o) (hk : k ≠ 0) :
    (∀ b', Keeps w (w.freeze ⟨b, o, none⟩ k) b') ∧ (∀ b', b' ≠ b → (w.freeze ⟨b, o, none⟩ k).heap[b']? = w.heap[b']?) ∧ (w.freeze ⟨b, o, none⟩ k).heap.size = w.heap.size ∧ (w.freeze ⟨b, o, none⟩ k).os = w.os ∧ (w.freeze ⟨b, o, none⟩ k).tape = w.tape ∧ (w.freeze ⟨b, o, none⟩ k).output = w.output := by
  unfold World.freeze
  rw [if_neg hk]
  have hlt := (Array.getElem?_eq_some_iff.1 hb).1
  refine ⟨fun b' => ?_, fun b' hne => by simp [Array.getElem?_modify, Ne.symm hne], by simp, rfl, rfl, rfl⟩
  by_cases hne : b' = b
  · subst hne
    obtain ⟨lo, hi⟩ := fr
    refine .inr ⟨C, e, lo, hi, (if lo == hi then (o, o + k) else (min lo o, max hi (o + k))).1, (if lo == hi then (o, o + k) else (min lo o, max hi (o + k))).2, hb, ?_, ?_⟩
    · simp [Array.getElem?_modify, hb]
    · intro h
      by_cases hlh : lo = hi
      · subst hlh; right; simpa using ho
      · have : (lo == hi) = false := by simpa using hlh
        right
        simp only [this, Bool.false_eq_true, if_false]
        rcases h with h | h
        · exact absurd h hlh
        · exact Nat.le_min.2 ⟨h, ho⟩
  · exact .inl (by simp [Array.getElem?_modify, Ne.symm hne])

/-- conversions -/
theorem op_convert (hb0 : c0.base ≤ c0.w.heap.size) (hd : DstOK n ds o) {src dst : TypeId} {x : Operand} (ho : o.op = .convert src dst x) {y : AV} (h : convertA P s.h src dst (opnd s.ρ x) = some y) : OpOK P L0 c0 n ds o s (s.set o.dst y) := by
  have hex : ∀ (a : Act) (w w' : World) v, (convert src dst (a.eval x)).run P w = .ok v w' → (execOp a.eval o).run P w = .ok (.value v) w' := by
    intro a w w' v hr; simp [execOp, ho, hr]
  unfold convertA at h
  split at h
  · rename_i e hs hdd
    split at h
    rotate_left
    · cases h
    rename_i hu
    obtain ⟨he, hsz⟩ := isU8_spec hu
    rw [Option.bind_eq_some_iff] at h
    obtain ⟨⟨cs, m⟩, hcs, h⟩ := h
    rw [Option.map_eq_some_iff] at h
    obtain ⟨l, hl, rfl⟩ := h
    by_cases hst : ∃ st, opnd s.ρ x = .str st
    · -- a string that is no slice: nothing is promised
      obtain ⟨st, hst⟩ := hst
      refine op_val hd fun a c Lo lam f hn => ?_
      have hx := opnd_SR f x
      rw [hst] at hx hcs
      simp only [SR, VR] at hx
      simp only [cellsOfA, if_true, Option.some.injEq, Prod.mk.injEq] at hcs
      obtain ⟨rfl, rfl⟩ := hcs
      refine ⟨_, hex _ _ _ (.string st) ?_, ?_⟩
      · simp [convert, run_underlying hs, run_underlying hdd, hx]
      · have : ∀ (l0 l1 : List UInt8), u8s (l0.map fun b => AV.int .u8 b.toNat) = some l1 → l1 = l0 := by
          intro l0
          induction l0 with
          | nil => intro l1 h; simp [u8s] at h; exact h
          | cons b l0 ih =>
            intro l1 h
            simp only [List.map_cons, u8s, Option.map_eq_some_iff] at h
            obtain ⟨l2, h2, rfl⟩ := h
            rw [ih l2 h2]
            simp
        rw [this _ _ hl]
        simp [SR, VR]
    · refine op_val hd fun a c Lo lam f hn => ?_
      have hne : ∀ st, opnd s.ρ x ≠ .str st := fun st h => hst ⟨st, h⟩
      have hx := opnd_SR f x
      obtain ⟨news, hS, hv⟩ := src_cells f hx (.inl ⟨e, hs⟩) (fun st h => absurd h (hne st)) (fun _ => ⟨e, hs⟩) hcs
      obtain ⟨xs, rfl, rfl⟩ := u8s_VRs hl hv
      exact ⟨_, hex _ _ _ _ (run_bytesOf hs he hdd hS (cellsOf_slice hx hcs hne)), by simp [SR, VR, strOfNums_eq]⟩
  · rename_i e hs hdd
    cases hxx : opnd s.ρ x <;> rw [hxx] at h <;> simp only at h <;> try (cases h; done)
    rename_i st
    split at h
    rotate_left
    · cases h
    rename_i hu
    obtain ⟨he, hsz⟩ := isU8_spec hu
    cases h
    refine op_world hb0 hd (fun a c Lo lam f hn hbs => ?_) (by rintro k off h; cases h)
    have hx := opnd_SR f x
    rw [hxx] at hx
    simp only [SR, VR] at hx
    have hr := run_bytes_of_string c.w src dst e st hs hdd he
    rw [← hx] at hr
    refine ⟨_, _, hex _ _ _ _ hr, fun b hb => .inl (alloc_old c.w.drew _ (show b < c.w.heap.size from hb)), fun id hl => alloc_old c.w.drew _ (show (c.β id).1 < c.w.heap.size from f.rel.block hl), fun b hb => alloc_old c.w.drew _ (show b < c.w.heap.size by omega), by show c.w.heap.size ≤ (c.w.heap.push _).size; simp, rfl, rfl, rfl, fun e' => ?_⟩
    simp only [VR]
    refine ⟨_, _, rfl, grownCap_ge c.w, by simp, rfl, ?_⟩
    refine .inr ⟨c.w.heap.size, 0, rfl, RO_new f.rel rfl rfl, by simp, ?_⟩
    refine Cells.of_vals (bytes_VRs st.data.toList) (fun i hi => ?_) (fun v hv => by obtain ⟨b, _, rfl⟩ := List.mem_map.1 hv; rfl)
    have hi' : i < st.data.size := by simpa using hi
    have : (World.alloc c.w.drew (.cells (bytesRow st (grownCap c.w st.size 0 e)) e ((bytesRow st (grownCap c.w st.size 0 e)).size, (bytesRow st (grownCap c.w st.size 0 e)).size + 1))).heap[c.w.heap.size]? = some (.cells (bytesRow st (grownCap c.w st.size 0 e)) e ((bytesRow st (grownCap c.w st.size 0 e)).size, (bytesRow st (grownCap c.w st.size 0 e)).size + 1)) := alloc_new c.w.drew _
    rw [cell_of_block this]
    simp [bytesRow, Array.getElem?_append, hi']
    intro hge
    have : st.size = st.data.size := rfl
    omega
  · rename_i e0 e hs hdd
    cases hxx : opnd s.ρ x <;> rw [hxx] at h <;> try (cases h; done)
    rename_i cs m ex
    cases ex
    · cases h
    simp only at h
    split at h
    rotate_left
    · cases h
    rename_i hu
    simp only [Bool.and_eq_true, beq_iff_eq, decide_eq_true_eq] at hu
    obtain ⟨⟨hsd, hu⟩, hpos⟩ := hu
    subst hsd
    obtain ⟨he, hsz⟩ := isU8_spec hu
    cases h
    refine op_world hb0 hd (fun a c Lo lam f hn hbs => ?_) (by rintro k off h; cases h)
    have hx := opnd_SR f x
    rw [hxx] at hx
    have hx' := hx.vr (by rintro k off h; cases h)
    simp only [SR, VR] at hx
    obtain ⟨ad, cap, hxe, h1, h2, _, h3⟩ := hx
    rcases h3 with rfl | ⟨b, off, rfl, hro, hbb, hc⟩
    · simp at hpos
    have hlt : b < c.w.heap.size := by
      cases cs with
      | nil => simp at hpos
      | cons x cs => exact cells_size hc
    have hcell : ∃ C e' fr, c.w.heap[b]? = some (.cells C e' fr) := by
      cases cs with
      | nil => simp at hpos
      | cons x cs =>
        obtain ⟨⟨v, hv, _⟩, _⟩ := hc
        unfold World.cell? at hv
        split at hv
        · exact ⟨_, _, _, by assumption⟩
        · cases hv
    obtain ⟨C, e', fr, hb⟩ := hcell
    obtain ⟨k1, k2, k3, k4, k5, k6⟩ := keeps_freeze (k := 1) hb (Nat.le_refl C.size) (by decide)
    refine ⟨c.w.freeze ⟨b, C.size, none⟩ 1, a.eval x, hex _ _ _ _ ?_, fun b' _ => k1 b', fun id hl => k2 _ (hro.1 id hl), fun b' hb' => k2 b' (by have := hbb trivial; omega), by rw [k3]; exact Nat.le_refl _, k4, k5, k6, fun e'' => VR.ext e'' _ _ hx'⟩
    rw [hxe]
    have hsh : c.w.shape? b = some (e', C.size) := by simp [World.shape?, hb]
    simp [convert, run_underlying hdd, run_underlying he, markStringish, hsh]
  · rw [Option.bind_eq_some_iff] at h
    obtain ⟨v, hv, h⟩ := h
    rw [Option.bind_eq_some_iff] at h
    obtain ⟨r, hr, h⟩ := h
    refine op_val hd fun a c Lo lam f hn => ?_
    have hx := conc1_VR hv ((opnd_SR f x).vr (conc1_ne hv))
    exact ⟨r, hex _ _ _ _ (by rw [hx]; exact pureRun_run _ hr), SR.of (ofV1_VR h)⟩

/-! ### Operators -/
theorem run_eqGuard_conc {op : BinOp} {t : TypeId} {x y : Operand} {u v : Value} (h : (∀ a b, u ≠ .agg a ∨ v ≠ .agg b) ∧ u ≠ .nilIface) (w : World) : (eqGuard op t x y u v).run P w = .ok () w := by
  obtain ⟨h1, h2⟩ := h
  unfold eqGuard
  cases op <;> first | rfl | skip
  all_goals
    simp only [Bool.not_true, Bool.false_eq_true, if_false]
    split
    · exact absurd rfl h2
    · rename_i a b; rcases h1 a b with h3 | h3 <;> exact absurd rfl h3
    · rfl

theorem conc1_flat {x : AV} {u : Value} (h : x.conc1 = some u) : (∀ a, u ≠ .agg a) ∧ u ≠ .nilIface := by
  unfold AV.conc1 at h
  split at h <;> first | (cases h; done) | (cases h; exact ⟨fun _ => (by simp), (by simp)⟩)

theorem run_strOp {op : BinOp} {a b : ByteArray} {y : AV} (h : strOpA op a b = some y) (w : World) : ∃ r, (Op.stringOp op a b).run P w = .ok r w ∧ ∀ (c : Cx) (L : Nat → Prop), VR c L y r := by
  have hl : ∀ z : ByteArray, z.toList = z.data.toList := fun z => ByteArray.toList_eq z
  unfold strOpA at h
  unfold Op.stringOp
  simp only [hl]
  cases op <;> simp only at h <;> try (cases h; done)
  · split at h
    rotate_left
    · cases h
    rename_i hsz
    cases h
    refine ⟨.string (a ++ b), ?_, fun c L => by simp only [VR]⟩
    have h1 : ¬ (((a.size + b.size : Nat) : Int) > IntKind.i64.max) := by
      have : IntKind.i64.max = 9223372036854775807 := by decide
      rw [this]; omega
    simp only [h1, if_false]
    rfl
  all_goals (cases h; exact ⟨_, rfl, fun c L => by simp only [VR]⟩)

theorem eqOp_spec {op : BinOp} {pol : Bool} (h : eqOp op = some pol) : (op = .eql ∧ pol = true) ∨ (op = .neq ∧ pol = false) := by
  unfold eqOp at h
  split at h <;> cases h
  · exact .inl ⟨rfl, rfl⟩
  · exact .inr ⟨rfl, rfl⟩

theorem run_ptrNil {t : TypeId} (ht : ∃ q, P.underlying t = some (.pointer q)) {a : Addr} {op : BinOp} {pol : Bool} (h : eqOp op = some pol) (w : World) :
    (binOp op t (.pointer (some a)) (.pointer none)).run P w = .ok (.bool (!pol)) w ∧ (binOp op t (.pointer none) (.pointer (some a))).run P w = .ok (.bool (!pol)) w := by
  obtain ⟨q, hq⟩ := ht
  have e1 : (Op.equal t (.pointer (some a)) (.pointer none)).run P w = .ok false w := by
    unfold Op.equal Op.maxDepth
    unfold Op.equalIn
    simp [run_und hq]
  have e2 : (Op.equal t (.pointer none) (.pointer (some a))).run P w = .ok false w := by
    unfold Op.equal Op.maxDepth
    unfold Op.equalIn
    simp [run_und hq]
  rcases eqOp_spec h with ⟨rfl, rfl⟩ | ⟨rfl, rfl⟩
  · constructor
    · show ((do pure (.bool (← Op.equal t (.pointer (some a)) (.pointer none)))) : Sem Value).run P w = _
      simp [e1]
    · show ((do pure (.bool (← Op.equal t (.pointer none) (.pointer (some a))))) : Sem Value).run P w = _
      simp [e2]
  · constructor
    · show ((do pure (.bool (!(← Op.equal t (.pointer (some a)) (.pointer none))))) : Sem Value).run P w = _
      simp [e1]
    · show ((do pure (.bool (!(← Op.equal t (.pointer none) (.pointer (some a)))))) : Sem Value).run P w = _
      simp [e2]

theorem run_sliceNil {t : TypeId} (ht : ∃ q, P.underlying t = some (.slice q)) {ad : Option Addr} (hs : ad.isSome = true) {m cap : Nat} {op : BinOp} {pol : Bool} (h : eqOp op = some pol) (w : World) :
    (binOp op t (.slice ad m cap) (.slice none 0 0)).run P w = .ok (.bool (!pol)) w := by
  obtain ⟨q, hq⟩ := ht
  obtain ⟨a, rfl⟩ := Option.isSome_iff_exists.1 hs
  have e1 : (Op.equal t (.slice (some a) m cap) (.slice none 0 0)).run P w = .ok false w := by
    unfold Op.equal Op.maxDepth
    unfold Op.equalIn
    simp [run_und hq]
  rcases eqOp_spec h with ⟨rfl, rfl⟩ | ⟨rfl, rfl⟩
  · show ((do pure (.bool (← Op.equal t (.slice (some a) m cap) (.slice none 0 0)))) : Sem Value).run P w = _
    simp [e1]
  · show ((do pure (.bool (!(← Op.equal t (.slice (some a) m cap) (.slice none 0 0))))) : Sem Value).run P w = _
    simp [e1]

theorem op_binOp (hd : DstOK n ds o) {op : BinOp} {t t2 : TypeId} {x y : Operand} (ho : o.op = .binOp op t x y t2) {z : AV} (h : binOpA P op t (opnd s.ρ x) (opnd s.ρ y) = some z) : OpOK P L0 c0 n ds o s (s.set o.dst z) := by
  refine op_val hd fun a c Lo lam f hn => ?_
  have hx := opnd_SR f x
  have hy := opnd_SR f y
  have hex : ∀ v, (eqGuard op t x y (a.eval x) (a.eval y)).run P c.w = .ok () c.w → (binOp op t (a.eval x) (a.eval y)).run P c.w = .ok v c.w → (execOp a.eval o).run P c.w = .ok (.value v) c.w := by
    intro v h1 h2; simp [execOp, ho, h1, h2]
  unfold binOpA at h
  split at h
  · rename_i p q hp hq
    rw [hp] at hx; rw [hq] at hy
    simp only [SR, VR] at hx hy
    obtain ⟨r, hr, hv⟩ := run_strOp (P := P) h c.w
    refine ⟨r, hex _ (run_eqGuard_conc ⟨fun _ _ => .inl (by rw [hx]; simp), by rw [hx]; simp⟩ _) ?_, SR.of (hv _ _)⟩
    rw [hx, hy]
    unfold binOp
    simpa using hr
  · rename_i p q hp hq
    rw [hp] at hx; rw [hq] at hy
    simp only [SR, VR] at hx hy
    obtain ⟨_, ad, hxe, _⟩ := hx
    rw [Option.bind_eq_some_iff] at h
    obtain ⟨pol, hpol, h⟩ := h
    split at h
    rotate_left
    · cases h
    rename_i ht
    cases h
    refine ⟨.bool (!pol), hex _ (run_eqGuard_conc ⟨fun _ _ => .inl (by rw [hxe]; simp), by rw [hxe]; simp⟩ _) ?_, SR.of (by simp [VR])⟩
    rw [hxe, hy]
    exact (run_ptrNil ⟨_, ht⟩ hpol _).1
  · rename_i p q hp hq
    rw [hp] at hx; rw [hq] at hy
    simp only [SR, VR] at hx hy
    obtain ⟨_, ad, hye, _⟩ := hy
    rw [Option.bind_eq_some_iff] at h
    obtain ⟨pol, hpol, h⟩ := h
    split at h
    rotate_left
    · cases h
    rename_i ht
    cases h
    refine ⟨.bool (!pol), hex _ (run_eqGuard_conc ⟨fun _ _ => .inl (by rw [hx]; simp), by rw [hx]; simp⟩ _) ?_, SR.of (by simp [VR])⟩
    rw [hx, hye]
    exact (run_ptrNil ⟨_, ht⟩ hpol _).2
  · rename_i p q hp hq
    rw [hp] at hx; rw [hq] at hy
    simp only [SR, VR] at hx hy
    obtain ⟨b, off, hxe, _⟩ := hx
    rw [Option.bind_eq_some_iff] at h
    obtain ⟨pol, hpol, h⟩ := h
    split at h
    rotate_left
    · cases h
    rename_i ht
    cases h
    refine ⟨.bool (!pol), hex _ (run_eqGuard_conc ⟨fun _ _ => .inl (by rw [hxe]; simp), by rw [hxe]; simp⟩ _) ?_, SR.of (by simp [VR])⟩
    rw [hxe, hy]
    exact (run_ptrNil ⟨_, ht⟩ hpol _).1
  · rename_i hp hq
    rw [hp] at hx; rw [hq] at hy
    simp only [SR, VR] at hx hy
    obtain ⟨ad, cap, hxe, _, _, hs, _⟩ := hx
    rw [Option.bind_eq_some_iff] at h
    obtain ⟨pol, hpol, h⟩ := h
    split at h
    rotate_left
    · cases h
    rename_i ht
    cases h
    refine ⟨.bool (!pol), hex _ (run_eqGuard_conc ⟨fun _ _ => .inl (by rw [hxe]; simp), by rw [hxe]; simp⟩ _) ?_, SR.of (by simp [VR])⟩
    rw [hxe, hy]
    exact run_sliceNil ⟨_, ht⟩ hs hpol _
  · rename_i hp hq
    rw [hp] at hx; rw [hq] at hy
    simp only [SR, VR] at hx hy
    obtain ⟨_, ad, cap, hxe, _, hs, _⟩ := hx
    rw [Option.bind_eq_some_iff] at h
    obtain ⟨pol, hpol, h⟩ := h
    split at h
    rotate_left
    · cases h
    rename_i ht
    cases h
    refine ⟨.bool (!pol), hex _ (run_eqGuard_conc ⟨fun _ _ => .inl (by rw [hxe]; simp), by rw [hxe]; simp⟩ _) ?_, SR.of (by simp [VR])⟩
    rw [hxe, hy]
    exact run_sliceNil ⟨_, ht⟩ hs hpol _
  · rename_i p q hp hq
    rw [hp, hq] at h
    rw [hp] at hx; rw [hq] at hy
    have hx' := hx.vr (by rintro k off h; cases h)
    have hy' := hy.vr (by rintro k off h; cases h)
    rw [Option.bind_eq_some_iff] at h
    obtain ⟨pol, hpol, h⟩ := h
    split at h
    rotate_left
    · cases h
    rename_i hcond
    simp only [Bool.and_eq_true, Bool.not_eq_true'] at hcond
    obtain ⟨⟨⟨h1, h2⟩, h3⟩, h4⟩ := hcond
    cases h
    have hk := run_keyEq (P := P) 9998 h1 h3 hx' hy' c.w
    simp only [VR] at hx' hy'
    obtain ⟨vx, hxe, _⟩ := hx'
    obtain ⟨vy, hye, _⟩ := hy'
    refine ⟨.bool (keyEq (.agg p) (.agg q) == pol), hex _ ?_ ?_, SR.of (by simp only [VR])⟩
    · rw [hxe, hye]
      rcases eqOp_spec hpol with ⟨rfl, rfl⟩ | ⟨rfl, rfl⟩ <;> simp [eqGuard, h4, program, Sem.run]
    · rw [hxe, hye] at hk ⊢
      rcases eqOp_spec hpol with ⟨rfl, rfl⟩ | ⟨rfl, rfl⟩
      · show ((do pure (.bool (← Op.equal t (.agg vx) (.agg vy)))) : Sem Value).run P c.w = _
        have hk' : (Op.equal t (.agg vx) (.agg vy)).run P c.w = _ := hk
        simp [hk']
      · show ((do pure (.bool (!(← Op.equal t (.agg vx) (.agg vy))))) : Sem Value).run P c.w = _
        have hk' : (Op.equal t (.agg vx) (.agg vy)).run P c.w = _ := hk
        simp [hk']
  · rw [Option.bind_eq_some_iff] at h
    obtain ⟨u, hu, h⟩ := h
    rw [Option.bind_eq_some_iff] at h
    obtain ⟨v, hv, h⟩ := h
    rw [Option.bind_eq_some_iff] at h
    obtain ⟨r, hr, h⟩ := h
    have h1 := conc1_VR hu (hx.vr (conc1_ne hu))
    have h2 := conc1_VR hv (hy.vr (conc1_ne hv))
    have h3 := conc1_flat hu
    exact ⟨r, hex _ (run_eqGuard_conc ⟨fun p _ => .inl (by rw [h1]; exact h3.1 p), by rw [h1]; exact h3.2⟩ _) (by rw [h1, h2]; exact pureRun_run _ hr), SR.of (ofV1_VR h)⟩

theorem op_unOp (hd : DstOK n ds o) {op : UnOp} {t : TypeId} {x : Operand} (ho : o.op = .unOp op t x) {z : AV} (h : ((opnd s.ρ x).conc1.bind fun a => (pureRun P (Op.unary op a)).bind ofV1) = some z) : OpOK P L0 c0 n ds o s (s.set o.dst z) := by
  refine op_val hd fun a c Lo lam f hn => ?_
  rw [Option.bind_eq_some_iff] at h
  obtain ⟨u, hu, h⟩ := h
  rw [Option.bind_eq_some_iff] at h
  obtain ⟨r, hr, h⟩ := h
  have h1 := conc1_VR hu ((opnd_SR f x).vr (conc1_ne hu))
  refine ⟨r, ?_, SR.of (ofV1_VR h)⟩
  have := pureRun_run (P := P) c.w hr
  rw [← h1] at this
  simp [execOp, ho, this]

theorem op_move (hd : DstOK n ds o) {x : Operand} (ho : o.op = .move x ∨ o.op = .assign x) : OpOK P L0 c0 n ds o s (s.set o.dst (opnd s.ρ x)) :=
  op_val hd fun a c Lo lam f hn => ⟨a.eval x, by rcases ho with ho | ho <;> simp [execOp, ho], opnd_SR f x⟩

theorem op_pick (hd : DstOK n ds o) {k x y : Operand} (ho : o.op = .pick k x y) {t : Bool} (h : boolA (opnd s.ρ k) = some t) : OpOK P L0 c0 n ds o s (s.set o.dst (if t then opnd s.ρ x else opnd s.ρ y)) := by
  refine op_val hd fun a c Lo lam f hn => ?_
  have hk := opnd_SR f k
  unfold boolA at h
  split at h
  · rename_i b hb
    cases h
    rw [hb] at hk
    simp only [SR, VR] at hk
    refine ⟨if t then a.eval x else a.eval y, by simp [execOp, ho, hk, asBool], ?_⟩
    cases t
    · exact opnd_SR f y
    · exact opnd_SR f x
  · cases h

theorem op_nilCheck (hd : DstOK n ds o) {x : Operand} (ho : o.op = .nilCheck x) {z : AV} (h : nilCheckA (opnd s.ρ x) = some z) : OpOK P L0 c0 n ds o s (s.set o.dst z) := by
  refine op_val hd fun a c Lo lam f hn => ?_
  have hx := opnd_SR f x
  have hp : (∃ ad, a.eval x = .pointer (some ad)) ∧ z = opnd s.ρ x := by
    unfold nilCheckA at h
    split at h
    · rename_i id off heq
      cases h
      rw [heq] at hx
      simp only [SR, VR] at hx
      obtain ⟨_, ad, h1, _⟩ := hx
      exact ⟨⟨ad, h1⟩, heq.symm⟩
    · rename_i k off heq
      cases h
      rw [heq] at hx
      simp only [SR] at hx
      exact ⟨⟨_, hx.1⟩, heq.symm⟩
    · rename_i cs off heq
      cases h
      rw [heq] at hx
      simp only [SR, VR] at hx
      obtain ⟨b, o', h1, _⟩ := hx
      exact ⟨⟨_, h1⟩, heq.symm⟩
    · cases h
  obtain ⟨⟨ad, hp⟩, rfl⟩ := hp
  exact ⟨a.eval x, by simp [execOp, ho, hp], hx⟩

theorem opnds_VRs {c : Cx} {Lo : Nat → Prop} {lam : Nat → Nat} {a : Act} (f : Fr L0 c Lo lam ds s a) : ∀ xs : List Operand, (∀ x ∈ xs, ∀ k off, opnd s.ρ x ≠ .lp k off) → VRs c (un L0 Lo) (xs.map (opnd s.ρ)) (xs.map a.eval)
  | [], _ => trivial
  | x :: xs, h => ⟨(opnd_SR f x).vr (h x (by simp)), opnds_VRs f xs fun y hy => h y (by simp [hy])⟩

theorem cellOK_ne {x : AV} (h : x.cellOK = true) : ∀ k off, x ≠ .lp k off := by rintro k off rfl; simp [AV.cellOK] at h

theorem op_makeFunc (hd : DstOK n ds o) {fid : FuncId} {first cap : Array Operand} (ho : o.op = .makeFunc (.func fid) first cap) (hf : first.isEmpty = true) (hc : (cap.toList.map (opnd s.ρ)).all AV.cellOK = true) : OpOK P L0 c0 n ds o s (s.set o.dst (.fn fid (cap.toList.map (opnd s.ρ)))) := by
  refine op_val hd fun a c Lo lam f hn => ?_
  have hf' : first = #[] := by simpa using hf
  subst hf'
  refine ⟨.func (.func fid) #[] (cap.map a.eval), by simp [execOp, ho, Instr.makeFunc], SR.of ?_⟩
  simp only [VR]
  refine ⟨_, rfl, ?_⟩
  rw [Array.toList_map]
  refine opnds_VRs f _ fun x hx => cellOK_ne ?_
  rw [List.all_eq_true] at hc
  exact hc _ (List.mem_map.2 ⟨x, hx, rfl⟩)

theorem op_extract (hd : DstOK n ds o) {x : Operand} {i : Nat} (ho : o.op = .extract x i) {z : AV} (h : extractA (opnd s.ρ x) i = some z) : OpOK P L0 c0 n ds o s (s.set o.dst z) := by
  refine op_val hd fun a c Lo lam f hn => ?_
  have hx := opnd_SR f x
  cases heq : opnd s.ρ x <;> rw [heq] at h hx <;> simp only [extractA] at h <;> try (cases h; done)
  rename_i vs
  simp only [SR, VR] at hx
  obtain ⟨us, hxe, hvs⟩ := hx
  obtain ⟨v, hv, hr⟩ := hvs.get i z h
  have hv' : us[i]? = some v := by simpa using hv
  exact ⟨v, by simp [execOp, ho, hxe, Instr.extract, hv'], SR.of hr⟩

theorem run_foldMin {op : Value → Value → Sem Value} : ∀ (vs : List Value) (v r : Value) (w : World), foldMin P op v vs = some r → (vs.foldlM op v).run P w = .ok r w
  | [], v, r, w, h => by simp only [foldMin, Option.some.injEq] at h; subst h; rfl
  | x :: xs, v, r, w, h => by
    simp only [foldMin, Option.bind_eq_some_iff] at h
    obtain ⟨u, h1, h2⟩ := h
    simp only [List.foldlM_cons, Sem.run_bind, pureRun_run w h1, Result.andThen_ok]
    exact run_foldMin xs u r w h2

theorem op_minmax (hd : DstOK n ds o) {b : Builtin} {ats : Array TypeId} {args : Array Operand} (ho : o.op = .call { callee := .builtin b, args := args, argTypes := ats }) {op : Value → Value → Sem Value} (hb : (b = .min ∧ op = Builtin.min2) ∨ (b = .max ∧ op = Builtin.max2))
    {x : AV} {xs : List AV} (he : args.toList.map (opnd s.ρ) = x :: xs) {v u : Value} {vs : List Value} (hx : x.conc1 = some v) (hxs : conc1s xs = some vs) (hf : foldMin P op v vs = some u) {z : AV} (hz : ofV1 u = some z) : OpOK P L0 c0 n ds o s (s.set o.dst z) := by
  refine op_val hd fun a c Lo lam f hn => ?_
  refine ⟨u, ?_, SR.of (ofV1_VR hz)⟩
  have hne : ∀ q : Operand, ∀ k off, opnd s.ρ q = .lp k off → q ∉ args.toList := by
    intro q k off hq hm
    have hm' : AV.lp k off ∈ x :: xs := by rw [← he, ← hq]; exact List.mem_map.2 ⟨q, hm, rfl⟩
    rcases List.mem_cons.1 hm' with h1 | h1
    · exact conc1_ne hx k off h1.symm
    · have : ∀ (ys : List AV) (us : List Value), conc1s ys = some us → AV.lp k off ∉ ys := by
        intro ys
        induction ys with
        | nil => intro us _ h; cases h
        | cons y ys ih =>
          intro us hu hm
          simp only [conc1s, Option.bind_eq_some_iff] at hu
          obtain ⟨u1, h2, us1, h3, _⟩ := hu
          rcases List.mem_cons.1 hm with h4 | h4
          · exact conc1_ne h2 k off h4.symm
          · exact ih _ h3 h4
      exact this _ _ hxs h1
  have hvr := opnds_VRs f args.toList (fun q hq k off h => hne q k off h hq)
  rw [he] at hvr
  have hall : args.toList.map a.eval = v :: vs := conc1s_VR (xs := x :: xs) (us := v :: vs) (by simp [conc1s, hx, hxs]) hvr
  have hr := run_foldMin vs v u c.w hf
  have hargs : args.map a.eval = (v :: vs).toArray := by rw [← hall]; apply Array.ext'; simp
  rcases hb with ⟨rfl, rfl⟩ | ⟨rfl, rfl⟩
  · simp [execOp, ho, resolve, invoke, builtin, Builtin.min_, hargs, hr]
  · simp [execOp, ho, resolve, invoke, builtin, Builtin.max_, hargs, hr]
end
end Go.R
