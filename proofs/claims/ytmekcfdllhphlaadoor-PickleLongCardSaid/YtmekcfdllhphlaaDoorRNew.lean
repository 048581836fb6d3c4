/- New memory: alloc, box, make, literals. -/
import Derived.Test.YtmekcfdllhphlaaDoorROps4
import Derived.Deep.AppendSrc
import Derived.IntWalk
set_option linter.unusedVariables false
set_option linter.unusedSimpArgs false
namespace Go.R
open Go

theorem alloc_new (w : World) (o : Obj) : (w.alloc o).heap[w.heap.size]? = some o := by
  show (w.heap.push o)[w.heap.size]? = some o
  simp
theorem alloc_old (w : World) (o : Obj) {b : Nat} (h : b < w.heap.size) : (w.alloc o).heap[b]? = w.heap[b]? := by
  show (w.heap.push o)[b]? = w.heap[b]?
  simp [Array.getElem?_push, show b ≠ w.heap.size by omega]

theorem RS.set_set (s : RS) (d : Option Nat) (x y : AV) : (s.set d x).set d y = s.set d y := by
  cases d with
  | none => rfl
  | some d =>
    simp only [RS.set]
    congr 1
    funext t
    cases Nat.beq t d <;> rfl
theorem put_put (a : Act) (d : Option Nat) (x y : Value) : (a.put d x).put d y = a.put d y := by
  cases d with
  | none => rfl
  | some d =>
    simp only [Act.put]
    congr 1
    apply Array.ext_getElem?
    intro i
    simp only [Array.getElem?_setIfInBounds, Array.size_setIfInBounds]
    by_cases h : d = i <;> by_cases h2 : d < a.tmps.size <;> simp [h, h2]

section
variable {P : Program} {L0 : Nat → Prop} {c0 : Cx} {n : Nat} {ds : List Nat} {o : Oper} {s : RS}

theorem noLp_spec {k : Nat} {ρ : Nat → AV} : ∀ {l : List Nat}, noLp k ρ l = true → ∀ t ∈ l, ∀ off, ρ t ≠ .lp k off
  | [], _, t, ht => by simp at ht
  | x :: xs, h, t, ht => by
    simp only [noLp, Bool.and_eq_true] at h
    intro off he
    rcases List.mem_cons.1 ht with rfl | ht
    · rw [he] at h; simp at h
    · exact noLp_spec h.2 t ht off he

/-- A fresh block of cells as an object of the heap; another object may be gone. -/
theorem Fr.freshK {c : Cx} {Lo : Nat → Prop} {lam : Nat → Nat} {a : Act} (f : Fr L0 c Lo lam ds s a) (hbs : c.base ≤ c.w.heap.size) (w1 : World) (hw1 : w1.heap = c.w.heap ∧ w1.os = c.w.os ∧ w1.tape = c.w.tape ∧ w1.output = c.w.output) (ob : AObj) (obj : Obj)
    (h' : AHeap) (hg : h'.get c.h.next = some ob) (hst : Steady c.h h') (hn : c.h.next < h'.next) (ho : ∀ id, id ≠ c.h.next → h'.get id = none ∨ h'.get id = c.h.get id)
    (hob : ∀ (c' : Cx) (e : Ext c Lo c' Lo), c'.w = w1.alloc obj → ObjR c' (un L0 Lo) c.w.heap.size 0 ob) :
    ∃ β', Ext c Lo ⟨β', h', w1.alloc obj, c.base⟩ Lo ∧ Fr L0 ⟨β', h', w1.alloc obj, c.base⟩ Lo lam ds { s with h := h' } a ∧ β' c.h.next = (c.w.heap.size, 0) ∧ Live h' c.h.next := by
  obtain ⟨q0, q1, q2, q3⟩ := hw1
  have hsz : w1.heap.size = c.w.heap.size := by rw [q0]
  refine ⟨fun i => if i = c.h.next then (c.w.heap.size, 0) else c.β i, ?_⟩
  have := f.upd (w' := w1.alloc obj) (β' := fun i => if i = c.h.next then (c.w.heap.size, 0) else c.β i) (h' := h') c.h.next ob
    hst hn hg (fun id hne => (ho id hne).imp (fun x => x) fun h => ⟨h, by simp [hne]⟩)
    (fun h => absurd h (Nat.lt_irrefl _)) (.inl (by simp)) (fun h => by simp at h)
    (fun b hb _ => by rw [alloc_old _ _ (by omega), q0]) (fun b hb _ => by rw [alloc_old _ _ (by omega), q0]) (by simp [hsz]) hbs q1 q2 q3
    (fun e => by simpa using hob _ e rfl)
  exact ⟨this.1, this.2, by simp, ⟨hn, by rw [hg]; rfl⟩⟩

theorem Fr.fresh {c : Cx} {Lo : Nat → Prop} {lam : Nat → Nat} {a : Act} (f : Fr L0 c Lo lam ds s a) (hbs : c.base ≤ c.w.heap.size) (w1 : World) (hw1 : w1.heap = c.w.heap ∧ w1.os = c.w.os ∧ w1.tape = c.w.tape ∧ w1.output = c.w.output) (ob : AObj) (obj : Obj)
    (hob : ∀ (c' : Cx) (e : Ext c Lo c' Lo), c'.w = w1.alloc obj → ObjR c' (un L0 Lo) c.w.heap.size 0 ob) :
    ∃ β', Ext c Lo ⟨β', c.h.alloc ob, w1.alloc obj, c.base⟩ Lo ∧ Fr L0 ⟨β', c.h.alloc ob, w1.alloc obj, c.base⟩ Lo lam ds { s with h := c.h.alloc ob } a ∧ β' c.h.next = (c.w.heap.size, 0) ∧ Live (c.h.alloc ob) c.h.next :=
  f.freshK hbs w1 hw1 ob obj (c.h.alloc ob) (by simp [AHeap.alloc, AHeap.put, beq_nat]) (Steady.put _ _ _) (Nat.lt_succ_self _) (fun id hne => .inr (by simp [AHeap.alloc, AHeap.put, beq_nat, hne])) hob

theorem plainS_new {c' : Cx} {w1 : World} {C : Array Value} {e : TypeId} (hw : c'.w = w1.alloc (.cells C e)) : PlainS c' w1.heap.size C.size :=
  ⟨C, e, by rw [hw]; exact alloc_new _ _, rfl⟩
theorem plain_new {c' : Cx} {w1 : World} {C : Array Value} {e : TypeId} (hw : c'.w = w1.alloc (.cells C e)) : Plain c' w1.heap.size C.size :=
  ⟨C, e, 0, 0, by rw [hw]; exact alloc_new _ _, .inl rfl, rfl⟩
theorem cells_new {c' : Cx} {L : Nat → Prop} {w1 : World} {C : Array Value} {e : TypeId} {xs : List AV} {vs : List Value} (hw : c'.w = w1.alloc (.cells C e)) (hv : VRs c' L xs vs) (hp : ∀ i, i < vs.length → C[i]? = vs[i]?) (h1 : ∀ v ∈ vs, v.oneCell' = true) : Cells c' L xs w1.heap.size 0 :=
  Cells.of_vals hv (fun i hi => by rw [hw, cell_of_block (alloc_new _ _), Nat.zero_add]; exact hp i hi) h1

/-- 'alloc' and 'box': a new variable. -/
theorem op_newBox (hb0 : c0.base ≤ c0.w.heap.size) (hd : DstOK n ds o) {locs : List Nat} {cs : List AV} {s' : RS} (t : TypeId) (h : newBox s locs ds o cs = some s')
    (hx : ∀ a c Lo lam, Fr L0 c Lo lam ds s a → a.tmps.size = n → ∃ v : Value, (execOp a.eval o).run P c.w = .ok (.value (.pointer (some ⟨c.w.heap.size, 0, none⟩))) (c.w.alloc (.cells v.cells t)) ∧ VRs c (un L0 Lo) cs v.cells.toList ∧ ∀ u ∈ v.cells.toList, u.oneCell' = true) :
    OpOK P L0 c0 n ds o s s' := by
  unfold newBox at h
  split at h
  rotate_left
  · cases h
  rename_i hok
  cases hdo : o.dst with
  | none => rw [hdo] at h; cases h
  | some d =>
  obtain ⟨hdn, hdd⟩ := hd d hdo
  rw [hdo] at h
  simp only at h
  rintro a w K Q ⟨hn, c, Lo, lam, rfl, f, e⟩ hK
  have hbs := base_le e hb0
  obtain ⟨v, hr, hv, h1⟩ := hx a c Lo lam f hn
  unfold Oper.wp
  rw [hr, Oper.upon_value, hdo]
  split at h
  · split at h
    rotate_left
    · cases h
    rename_i hno
    cases h
    have f1 := f.set (d := some d) (x := .any) (v := undef) (SR.of (by simp [VR])) (fun t ht => by cases ht; exact ⟨hn ▸ hdn, hdd⟩)
    have hnone : ∀ t off, (s.set (some d) .any).ρ t ≠ .lp d off := by
      intro t off he
      rw [set_ρ] at he
      by_cases htd : t = d
      · rw [if_pos htd] at he; cases he
      · rw [if_neg htd] at he
        by_cases hm : t ∈ ds
        · exact noLp_spec hno t (by simp [hm, beq_nat, htd]) off he
        · exact htd (f.tidy t d off hm he).symm
    obtain ⟨Lo', lam', e', f', hlam⟩ := f1.updBox (w' := c.w.alloc (.cells v.cells t)) d cs c.w.heap.size (.inl (Nat.le_refl _)) (fun t off he => absurd he (hnone t off))
      (fun b hb _ => alloc_old _ _ hb) (fun b hb _ => alloc_old _ _ (by omega)) (by simp) (by simp) hbs rfl rfl rfl
      (by have := plain_new (c' := { c with w := c.w.alloc (.cells v.cells t) }) (w1 := c.w) (C := v.cells) (e := t) rfl
          rwa [show v.cells.size = cs.length by rw [← Array.length_toList, hv.length]] at this)
      (fun e' => cells_new (w1 := c.w) (C := v.cells) (e := t) rfl (VRs.ext e' _ _ hv) (fun i _ => by simp) h1)
    have f2 := f'.set (d := some d) (x := .lp d 0) (v := .pointer (some ⟨c.w.heap.size, 0, none⟩)) (by simp only [SR, hlam, RS.box, beq_nat]; simp) (fun t ht => by cases ht; rw [put_size]; exact ⟨hn ▸ hdn, hdd⟩)
    rw [put_put] at f2
    have hs : (((s.set (some d) .any).box d cs).set (some d) (.lp d 0)) = (s.box d cs).set (some d) (.lp d 0) := by
      rw [← RS.set_set (s.box d cs) (some d) .any]
      rfl
    rw [hs] at f2
    exact hK _ _ ⟨(put_size _ _ _).trans hn, _, Lo', lam', rfl, f2, e.trans e'⟩
  · cases h
    obtain ⟨β', e', f', hβ, hl⟩ := f.fresh hbs c.w ⟨rfl, rfl, rfl, rfl⟩ (.cells cs) (.cells v.cells t) (fun c' e' hw => ⟨_, plainS_new hw, by rw [Nat.zero_add, hv.length]; simp,
      cells_new (w1 := c.w) hw (VRs.ext e' _ _ hv) (fun i _ => by simp) h1⟩)
    rw [f.h] at f' e' hβ hl
    have f2 := f'.set (d := some d) (x := .ptr s.h.next 0) (v := .pointer (some ⟨c.w.heap.size, 0, none⟩)) (by
      simp only [SR, VR]
      exact ⟨hl.1, _, rfl, fun _ => by rw [hβ]⟩) (fun t ht => by cases ht; exact ⟨hn ▸ hdn, hdd⟩)
    exact hK _ _ ⟨(put_size _ _ _).trans hn, _, Lo, lam, rfl, f2, e.trans e'⟩

theorem run_alloc {c : Cx} {t : TypeId} {z : AV} (hz : zeroA P t = some z) (hok : z.cells.all AV.cellOK = true) (L : Nat → Prop) : ∃ v : Value, (Instr.alloc t true (.tuple #[])).run P c.w = .ok (.pointer (some ⟨c.w.heap.size, 0, none⟩)) (c.w.alloc (.cells v.cells t)) ∧ VRs c L z.cells v.cells.toList ∧ ∀ u ∈ v.cells.toList, u.oneCell' = true := by
  obtain ⟨v, hr, hv⟩ := run_zeroA hz c.w
  obtain ⟨h1, h2⟩ := cells_VR hok (ofV_VR (c := c) (L := L) hv)
  exact ⟨v, by simp [Instr.alloc, hr, newVar, newRow], h1, h2⟩

theorem replA_length (z : List AV) : ∀ k, (replA z k).length = k * z.length
  | 0 => by simp [replA]
  | k + 1 => by simp [replA, replA_length z k, Nat.add_mul, Nat.add_comm]
theorem replA_get (z : List AV) : ∀ (k i : Nat), i < k * z.length → (replA z k)[i]? = z[i % z.length]?
  | 0, i, h => by simp at h
  | k + 1, i, h => by
    rw [Nat.add_mul, Nat.one_mul] at h
    rw [replA]
    by_cases h1 : i < z.length
    · rw [List.getElem?_append_left h1, Nat.mod_eq_of_lt h1]
    · rw [List.getElem?_append_right (by omega), replA_get z k _ (by omega), ← Nat.mod_eq_sub_mod (show z.length ≤ i by omega)]

/-- A row of zeros. -/
theorem VRs_zeros {c : Cx} {L : Nat → Prop} {z : List AV} {zv : Array Value} (hz : VRs c L z zv.toList) (k m : Nat) (hm : k * z.length ≤ m) (hzl : z.length ≠ 0) :
    VRs c L (replA z k) (((Array.range m).map (zv[· % zv.size]!)).toList.take (k * z.length)) := by
  have hl := hz.length
  have key : ∀ (xs : List AV) (vs : List Value), xs.length = vs.length → (∀ (i : Nat) x v, xs[i]? = some x → vs[i]? = some v → VR c L x v) → VRs c L xs vs := by
    intro xs
    induction xs with
    | nil => intro vs h _; cases vs with | nil => trivial | cons _ _ => simp at h
    | cons x xs ih =>
      intro vs h hall
      cases vs with
      | nil => simp at h
      | cons v vs =>
        refine ⟨hall 0 x v rfl rfl, ih vs (by simpa using h) fun i y u hy hu => hall (i + 1) y u (by simpa using hy) (by simpa using hu)⟩
  refine key _ _ (by rw [replA_length]; simp; omega) fun i x v hx hv => ?_
  have hi : i < k * z.length := by
    have := (List.getElem?_eq_some_iff.1 hx).1
    rwa [replA_length] at this
  rw [replA_get z k i hi] at hx
  obtain ⟨u, hu, hr⟩ := hz.get _ x hx
  rw [List.getElem?_take, if_pos hi] at hv
  have hi2 : i < m := by omega
  have hmod : i % zv.size < zv.size := Nat.mod_lt _ (by rw [← Array.length_toList, ← hl]; omega)
  have : v = zv[i % zv.size]! := by
    simp [hi2] at hv
    exact hv.symm
  rw [show zv.toList.length = zv.size by simp] at hl
  rw [hl, Array.getElem?_toList, Array.getElem?_eq_getElem hmod] at hu
  rw [this, getElem!_pos zv _ hmod]
  cases hu
  exact hr

theorem op_fresh_val (hb0 : c0.base ≤ c0.w.heap.size) (hd : DstOK n ds o) {ob : AObj} {x : AV}
    (h : ∀ a c Lo lam, Fr L0 c Lo lam ds s a → a.tmps.size = n → ∃ (obj : Obj) (v : Value), (execOp a.eval o).run P c.w = .ok (.value v) (c.w.alloc obj) ∧
      (∀ (c' : Cx) (e : Ext c Lo c' Lo), c'.w = c.w.alloc obj → ObjR c' (un L0 Lo) c.w.heap.size 0 ob) ∧
      (∀ (c' : Cx), c'.h = s.h.alloc ob → c'.w = c.w.alloc obj → c'.β s.h.next = (c.w.heap.size, 0) → VR c' (un L0 Lo) x v)) (hx : ∀ k off, x ≠ .lp k off) :
    OpOK P L0 c0 n ds o s ({ s with h := s.h.alloc ob }.set o.dst x) := by
  rintro a w K Q ⟨hn, c, Lo, lam, rfl, f, e⟩ hK
  have hbs := base_le e hb0
  obtain ⟨obj, v, hr, hob, hv⟩ := h a c Lo lam f hn
  unfold Oper.wp
  rw [hr, Oper.upon_value]
  obtain ⟨β', e', f', hβ, hl⟩ := f.fresh hbs c.w ⟨rfl, rfl, rfl, rfl⟩ ob obj hob
  rw [f.h] at f' e' hβ hl
  have f2 := f'.set (d := o.dst) (x := x) (v := v) (SR.of (hv _ rfl rfl hβ)) (fun t ht => by rw [hn]; exact hd t ht)
  exact hK _ _ ⟨(put_size _ _ _).trans hn, _, Lo, lam, rfl, f2, e.trans e'⟩

theorem op_makeMap (hb0 : c0.base ≤ c0.w.heap.size) (hd : DstOK n ds o) {t : TypeId} (ho : o.op = .makeMap t none) : OpOK P L0 c0 n ds o s ({ s with h := s.h.alloc (.map []) }.set o.dst (.mp s.h.next)) := by
  refine op_fresh_val hb0 hd (fun a c Lo lam f hn => ⟨.map #[] 0, .map (some c.w.heap.size), by simp [execOp, ho, Instr.makeMap], fun c' e hw => ⟨#[], 0, by rw [hw]; exact alloc_new _ _, trivial⟩, fun c' hh hw hβ => ?_⟩) (by rintro k off hh; cases hh)
  simp only [VR]
  exact ⟨by rw [hh]; exact Nat.lt_succ_self _, _, rfl, fun _ => by rw [hβ]⟩

theorem wrap64_id {i : Int} (h0 : 0 ≤ i) (h1 : i ≤ 1099511627776) : IntKind.i64.wrap i = i := IntWalk.i64_in _ (by omega)

theorem op_makeSlice (hb0 : c0.base ≤ c0.w.heap.size) (hd : DstOK n ds o) {t : TypeId} {lx cx : Operand} (ho : o.op = .makeSlice t lx cx) {s' : RS}
    (h : ((makeSliceA P s.h t (opnd s.ρ lx) (opnd s.ρ cx)).map fun (x, h) => { s with h }.set o.dst x) = some s') : OpOK P L0 c0 n ds o s s' := by
  rw [Option.map_eq_some_iff] at h
  obtain ⟨⟨x, h'⟩, hm, rfl⟩ := h
  unfold makeSliceA at hm
  split at hm <;> try (cases hm; done)
  rename_i l cc hl hc
  rw [Option.bind_eq_some_iff] at hm
  obtain ⟨d, hud, hm⟩ := hm
  cases d <;> simp only at hm <;> try (cases hm; done)
  rename_i e
  simp only [Option.bind_eq_some_iff] at hm
  obtain ⟨i, hi, z, hz, hm⟩ := hm
  split at hm
  rotate_left
  · cases hm
  rename_i hcond
  obtain ⟨h0, h1, h2, h3, h4, h5, h6⟩ := hcond
  simp only [Option.some.injEq, Prod.mk.injEq] at hm
  obtain ⟨rfl, rfl⟩ := hm
  refine op_fresh_val hb0 hd (fun a c Lo lam f hn => ?_) (by rintro k off hh; cases hh)
  have hlv := (opnd_SR f lx)
  have hcv := (opnd_SR f cx)
  rw [hl] at hlv
  rw [hc] at hcv
  simp only [SR, VR] at hlv hcv
  obtain ⟨zv, hzr, hzo⟩ := run_zeroA hz c.w
  have hzs : (typeInfo e).run P c.w = .ok i c.w := by simp [typeInfo, hi]
  have hsz : (sizeOf e).run P c.w = .ok i.size c.w := run_szOf (by simp [szOf, hi]) c.w
  obtain ⟨hzv, hz1⟩ := cells_VR h6 (ofV_VR (c := c) (L := un L0 Lo) hzo)
  have hzl := hzv.length
  have hl0 : IntKind.i64.wrap l = l := wrap64_id h0 (by omega)
  have hc0 : IntKind.i64.wrap cc = cc := wrap64_id (by omega) h5
  have hroom : ¬ ((i.bytes : Int) * cc > 2 ^ 48) := by
    rw [Int.mul_comm]; simp only [roomA] at h2; omega
  have hn0 : cc.toNat * i.size = 0 ∨ cc.toNat * i.size ≠ 0 := by omega
  have hrun : (Instr.makeSlice t (.int .i64 l) (.int .i64 cc)).run P c.w = .ok (.slice (some ⟨c.w.heap.size, 0, none⟩) l.toNat cc.toNat)
      (c.w.alloc (.cells ((Array.range (cc.toNat * i.size)).map (zv.cells[· % zv.cells.size]!)) e)) := by
    unfold Instr.makeSlice
    simp only [Sem.run_bind, run_und hud, Result.andThen_ok, asInt, asIntOf, Sem.run_pure, hzs, hl0, hc0, hsz]
    rw [if_neg (by simp only [Bool.or_eq_true, decide_eq_true_eq, not_or]; exact ⟨⟨⟨by omega, hroom⟩, by omega⟩, by omega⟩)]
    simp only [Sem.run_bind, run_askRoom, Result.andThen_ok, hsz, Sem.run_pure]
    by_cases hz0 : cc.toNat * i.size = 0
    · have hr0 : ∀ f : Nat → Value, Array.map f (Array.range 0) = #[] := fun f => by simp
      simp only [hz0, if_true, Sem.run_pure, Sem.run_bind, Result.andThen_ok, newRow, run_newObj, World.alloc_eq, hr0]
    · simp only [hz0, if_false, Sem.run_bind, hzr, Result.andThen_ok, Sem.run_pure, newRow, run_newObj, World.alloc_eq]
  have hle : l.toNat * z.cells.length ≤ cc.toNat * i.size := by rw [h3]; exact Nat.mul_le_mul_right _ (by omega)
  have hrow : ∀ (c' : Cx) (e' : Ext c Lo c' Lo), c'.w = c.w.alloc (.cells ((Array.range (cc.toNat * i.size)).map (zv.cells[· % zv.cells.size]!)) e) →
      ObjR c' (un L0 Lo) c.w.heap.size 0 (.cells (replA z.cells l.toNat)) := by
    intro c' e' hw
    refine ⟨_, plainS_new hw, by rw [replA_length]; simp; omega, ?_⟩
    have hv := VRs_zeros hzv l.toNat (cc.toNat * i.size) hle (by omega)
    refine cells_new (w1 := c.w) hw (VRs.ext e' _ _ hv) (fun j hj => ?_) (fun u hu => ?_)
    · rw [List.getElem?_take, if_pos (by simp at hj; omega), Array.getElem?_toList]
    · have hu2 := List.mem_of_mem_take hu
      simp only [Array.toList_map, List.mem_map] at hu2
      obtain ⟨j, hj, rfl⟩ := hu2
      have hmod : j % zv.cells.size < zv.cells.size := Nat.mod_lt _ (by rw [← Array.length_toList, ← hzl]; omega)
      rw [getElem!_pos zv.cells _ hmod]
      exact hz1 _ (by simp)
  have hex : (execOp a.eval o).run P c.w = .ok (.value (.slice (some ⟨c.w.heap.size, 0, none⟩) l.toNat cc.toNat)) (c.w.alloc (.cells ((Array.range (cc.toNat * i.size)).map (zv.cells[· % zv.cells.size]!)) e)) := by
    simp only [execOp, ho, hlv, hcv, Sem.run_bind, hrun, Result.andThen_ok, Sem.run_pure]
  refine ⟨_, _, hex, hrow, fun c' hh hw hβ => ?_⟩
  simp only [VR]
  refine ⟨by rw [hh]; exact Nat.lt_succ_self _, _, _, rfl, by omega, rfl, fun _ => .inl ?_⟩
  rw [hβ]
  refine ⟨rfl, ?_⟩
  simp only [Cx.len, World.shape?, hw, alloc_new]
  simp
end
end Go.R
