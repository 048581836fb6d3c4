/- A bytes.Buffer's writing, as the interpreter is served it. -/
import Derived.Test.YtmekcfdllhphlaaDoorRBuf3
import Derived.Test.YtmekcfdllhphlaaDoorRStep
set_option linter.unusedVariables false
set_option linter.unusedSimpArgs false
namespace Go.R
open Go Go.Proofs Go.Shelf Go.RowKit

/-- The three cells of a buffer, turned. -/
def bufCells (cs : List AV) (off : Nat) (x : AV) : List AV := (cs.set off x).set (off + 2) (.int .i8 0)

/-- Bytes behind those of a buffer that holds some. -/
def bufRow (e : TypeId) (news : List AV) (id off : Nat) (h : AHeap) : Option AHeap :=
  (h.get id).bind fun
  | .cells cs =>
    match cs[off]?, cs[off + 1]?, cs[off + 2]? with
    | some (.rs i o n z), some (.int .i64 x), some (.int .i8 _) =>
      (h.get i).bind fun
      | .row e' bs => if e' = e ∧ o = 0 ∧ z = 1 ∧ x = 0 ∧ bs.length = n ∧ n ≠ 0 ∧ n + news.length ≤ 140737488355328 then
          some (((h.kill i).put h.next (.row e (bs ++ news))).put id (.cells (bufCells cs off (.rs h.next 0 (n + news.length) 1)))) else none
      | _ => none
    | _, _, _ => none
  | _ => none

/-- The first bytes of a buffer. -/
def bufNil (e : TypeId) (news : List AV) (id off : Nat) (h : AHeap) : Option AHeap :=
  (h.get id).bind fun
  | .cells cs =>
    match cs[off]?, cs[off + 1]?, cs[off + 2]? with
    | some .nils, some (.int .i64 x), some (.int .i8 _) => if x = 0 then
          some ((h.put h.next (.row e news)).put id (.cells (bufCells cs off (.rs h.next 0 news.length 1)))) else none
    | _, _, _ => none
  | _ => none

theorem Fr.none {c : Cx} {L0 : Nat → Prop} (hrel : HRel c L0) : Fr L0 c none0 (fun _ => 0) [] ⟨fun _ => .any, fun _ => none, c.h⟩ ⟨#[], []⟩ :=
  ⟨rfl, by rw [show un L0 none0 = L0 from by funext b; simp [un, none0]]; exact hrel, fun t => by simp [SR, VR], fun k cs h => (by cases h), fun k k' h => (by cases h), fun t k off _ h => (by cases h), rfl, fun b h => h.elim⟩

section
variable {c : Cx} {L0 : Nat → Prop}

theorem buf_upd (hrel : HRel c L0) (hbs : c.base ≤ c.w.heap.size) {e T : TypeId} {id off m cap' g' : Nat} {cs xs : List AV} {vals : List Value} {C cur' : Array Value} {h1 : AHeap} {w' : World}
    (hid : c.h.get id = some (.cells cs)) (hC : c.w.heap[(c.β id).1]? = some (.cells C T (0, 0))) (hcl : Cells c L0 cs (c.β id).1 (c.β id).2) (hoff : off + 2 < cs.length) (hcC : (c.β id).2 + cs.length ≤ C.size)
    (hx1 : cs[off + 1]? = some (.int .i64 0))
    (hB : BRow T (fun i => C[i]?) e (c.β id).1 ((c.β id).2 + off) 0 g' m cap' cur' w') (htk : cur'.toList.take m = vals) (hxs : VRs c L0 xs vals) (hone : ∀ v ∈ vals, v.oneCell' = true) (hm : xs.length = m)
    (hbut : But (fun k => k = (c.β id).1 ∨ k = g') c.w w')
    (hst : Steady c.h h1) (hnx : c.h.next < h1.next) (hget : h1.get c.h.next = some (.row e xs))
    (hoth : ∀ j, j ≠ c.h.next → h1.get j = none ∨ h1.get j = c.h.get j) (hidk : h1.get id = c.h.get id)
    (hg : c.w.heap.size ≤ g' ∨ ∃ i, Live c.h i ∧ (c.β i).1 = g' ∧ h1.get i = none ∧ cur'.size = c.len g') :
    ∃ c', c'.w = w' ∧ c'.h = h1.put id (.cells (bufCells cs off (.rs c.h.next 0 m 1))) ∧ HRel c' L0 ∧ Ext c none0 c' none0 := by
  have hun : un L0 none0 = L0 := by funext b; simp [un, none0]
  have f := Fr.none hrel
  generalize hbb : (c.β id).1 = b at *
  have hidlt : id < c.h.next := hrel.lt _ _ hid
  have hidne : id ≠ c.h.next := by omega
  have hlive : Live c.h id := ⟨hidlt, by rw [hid]; rfl⟩
  have hblt : b < c.w.heap.size := (Array.getElem?_eq_some_iff.1 hC).1
  have hblt' : b < w'.heap.size := Nat.lt_of_lt_of_le hblt hbut.size
  let wm : World := { w' with heap := w'.heap.setIfInBounds b (.cells C T (0, 0)) }
  have hwm : ∀ k, k ≠ b → wm.heap[k]? = w'.heap[k]? := fun k hk => by
    show (w'.heap.setIfInBounds b _)[k]? = _
    rw [Array.getElem?_setIfInBounds_ne (Ne.symm hk)]
  have hwb : wm.heap[b]? = some (.cells C T (0, 0)) := by
    show (w'.heap.setIfInBounds b _)[b]? = _
    rw [Array.getElem?_setIfInBounds_self_of_lt hblt']
  have hws : wm.heap.size = w'.heap.size := by show (w'.heap.setIfInBounds b _).size = _; simp
  have hrow : wm.heap[g']? = some (.cells cur' e (0, 0)) := (hwm _ hB.ne).trans hB.row
  have hkeep : ∀ k, k < c.w.heap.size → k ≠ g' → wm.heap[k]? = c.w.heap[k]? := fun k hk hne => by
    by_cases hkb : k = b
    · rw [hkb, hwb, hC]
    · rw [hwm k hkb]; exact hbut.block k hk fun h => h.elim hkb hne
  have hmle : m ≤ cur'.size := by rw [hB.size]; exact hB.le
  obtain ⟨e1, f1⟩ := f.upd (w' := wm) (β' := fun k => if k = c.h.next then (g', 0) else c.β k) (h' := h1) c.h.next (.row e xs) hst hnx hget
    (fun j hj => (hoth j hj).imp (fun h => h) fun h => ⟨h, by simp [hj]⟩) (fun h => absurd h (Nat.lt_irrefl _))
    (by
      rcases hg with h | ⟨i, h2, h3, h4, _⟩
      · exact .inl (by simpa using h)
      · exact .inr ⟨i, h2, by simpa using h3, .inr h4⟩)
    (fun h => by
      simp only [if_true] at h ⊢
      rcases hg with h' | ⟨i, h2, h3, h4, h5⟩
      · omega
      · simp [World.shape?, hrow, h5])
    (fun k hk hne => hkeep k hk (by simpa using hne)) (fun k hk hne => hkeep k (by omega) (by simpa using hne)) (by rw [hws]; exact hbut.size) hbs hbut.os hbut.tape hbut.output
    (fun ee => by
      simp only [if_true]
      refine ⟨rfl, cur', hrow, by omega, by rw [hB.size]; exact hB.most, ?_⟩
      have hv := VRs.ext (L0 := L0) ee xs vals (by rw [hun]; exact hxs)
      refine Cells.of_vals hv (fun i hi => ?_) hone
      show wm.cell? _ = _
      rw [cell_of_block hrow, Nat.zero_add, ← htk, List.getElem?_take, if_pos (by rw [← hm, hxs.length]; exact hi), Array.getElem?_toList])
  have hid1 : h1.get id = some (.cells cs) := hidk.trans hid
  have hlive1 : Live h1 id := ⟨by omega, by rw [hid1]; rfl⟩
  have hβid : (if id = c.h.next then (g', 0) else c.β id) = c.β id := by simp [hidne]
  have hβn : (if c.h.next = c.h.next then (g', 0) else c.β c.h.next) = (g', 0) := by simp
  obtain ⟨cs2, hb2, p0, p1, p2, pr⟩ := hB.three
  have hsz2 : cs2.size = C.size := by
    have hge : (c.β id).2 + off + 2 < cs2.size := by
      rcases Nat.lt_or_ge ((c.β id).2 + off + 2) cs2.size with h | h
      · exact h
      · rw [Array.getElem?_eq_none h] at p2; cases p2
    have ht : ∀ i, (c.β id).2 + off + 3 ≤ i → (cs2.size ≤ i ↔ C.size ≤ i) := fun i hi => by
      rw [← Array.getElem?_eq_none_iff, ← Array.getElem?_eq_none_iff, pr i (.inr hi)]
    have h1 := (ht cs2.size (by omega)).1 (Nat.le_refl _)
    have h2 := (ht C.size (by omega)).2 (Nat.le_refl _)
    omega
  obtain ⟨e2, f2⟩ := f1.upd (w' := w') (β' := fun k => if k = c.h.next then (g', 0) else c.β k) (h' := h1.put id (.cells (bufCells cs off (.rs c.h.next 0 m 1)))) id (.cells (bufCells cs off (.rs c.h.next 0 m 1))) (Steady.put _ _ _) (Nat.lt_succ_of_lt hlive1.1) (by simp [AHeap.put, beq_nat])
    (fun j hj => .inr ⟨by simp [AHeap.put, beq_nat, hj], rfl⟩) (fun _ => ⟨hlive1, rfl⟩) (.inr ⟨id, hlive1, rfl, .inl rfl⟩)
    (fun _ => by
      simp only [hβid, hbb]
      simp only [Cx.len, World.shape?, hb2, hwb, Option.map_some, Option.getD_some, hsz2])
    (fun k hk hne => by
      simp only [hβid, hbb] at hne
      exact (hwm k hne).symm)
    (fun k hk hne => by
      simp only [hβid, hbb] at hne
      exact (hwm k hne).symm) (by show wm.heap.size ≤ _; rw [hws]; exact Nat.le_refl _) (by show c.base ≤ wm.heap.size; rw [hws]; exact Nat.le_trans hbs hbut.size) rfl rfl rfl
    (fun ee => by
      simp only [hβid, hbb]
      refine ⟨C.size, ⟨cs2, T, hb2, hsz2⟩, by unfold bufCells; simpa using hcC, ?_⟩
      rw [Cells.iff]
      intro i x hx
      unfold bufCells at hx
      show ∃ v, w'.cell? _ = some v ∧ _
      rw [cell_of_block hb2]
      by_cases i2 : i = off + 2
      · subst i2
        rw [List.getElem?_set_self (by simpa using hoff)] at hx
        cases hx
        exact ⟨_, by rw [← Nat.add_assoc]; exact p2, rfl, by simp [VR]⟩
      · rw [List.getElem?_set_ne (Ne.symm i2)] at hx
        by_cases i0 : i = off
        · subst i0
          rw [List.getElem?_set_self (by omega)] at hx
          cases hx
          refine ⟨_, p0, rfl, ?_⟩
          simp only [VR]
          refine ⟨by show _ < h1.next + 1; omega, _, _, rfl, hB.le, rfl, fun _ => .inl ⟨by simp, ?_⟩⟩
          simp only [if_true, Cx.len, World.shape?, hB.row, Option.map_some, Option.getD_some, hB.size]
          omega
        · rw [List.getElem?_set_ne (Ne.symm i0)] at hx
          by_cases i1 : i = off + 1
          · subst i1
            rw [hx1] at hx
            cases hx
            exact ⟨_, by rw [← Nat.add_assoc]; exact p1, rfl, by simp [VR]⟩
          · obtain ⟨v, v1, v2, v3⟩ := hcl.get' i x hx
            refine ⟨v, ?_, v2, ?_⟩
            · rw [pr _ (by omega)]
              show C[(c.β id).2 + i]? = some v
              rw [← cell_of_block hC]
              exact v1
            · have := VR.ext (L0 := L0) (e1.trans ee) x v (by rw [hun]; exact v3)
              exact this)
  refine ⟨_, rfl, rfl, ?_, e1.trans e2⟩
  have := f2.rel
  rwa [hun] at this
end

section
variable {P : Program} {ρ : Ren}

theorem kill_put_get (h : AHeap) (i j : Nat) (o : AObj) : ((h.kill i).put h.next o).get j = if j = h.next then some o else if j = i then none else h.get j := by
  simp only [AHeap.put, AHeap.kill, beq_nat]
  by_cases h1 : j = h.next <;> by_cases h2 : j = i <;> simp [h1, h2]
theorem put_get (h : AHeap) (i j : Nat) (o : AObj) : (h.put i o).get j = if j = i then some o else h.get j := by
  simp only [AHeap.put, beq_nat]
  by_cases h1 : j = i <;> simp [h1]

/-- What is known of a buffer's block. -/
theorem buf_three {c : Cx} {L0 : Nat → Prop} (hrel : HRel c L0) {id off : Nat} {cs : List AV} (hid : c.h.get id = some (.cells cs)) {x y : AV} {lr : Int} (h0 : cs[off]? = some x) (h1 : cs[off + 1]? = some (.int .i64 0)) (h2 : cs[off + 2]? = some (.int .i8 lr)) :
    ∃ C T v, c.w.heap[(c.β id).1]? = some (.cells C T (0, 0)) ∧ Cells c L0 cs (c.β id).1 (c.β id).2 ∧ off + 2 < cs.length ∧ (c.β id).2 + cs.length ≤ C.size ∧ VR c L0 x v ∧
      LibA.Three c.w (c.β id).1 ((c.β id).2 + off) T (fun i => C[i]?) v (.int .i64 0) (.int .i8 lr) := by
  obtain ⟨n, ⟨C, T, hC, hn⟩, hle, hcl⟩ := hrel.obj _ _ hid
  obtain ⟨v, a1, _, a3⟩ := hcl.get' _ _ h0
  obtain ⟨v1, b1, _, b3⟩ := hcl.get' _ _ h1
  obtain ⟨v2, d1, _, d3⟩ := hcl.get' _ _ h2
  simp only [VR] at b3 d3
  subst b3 d3
  rw [cell_of_block hC] at a1 b1 d1
  refine ⟨C, T, v, hC, hcl, (List.getElem?_eq_some_iff.1 h2).1, by omega, a3, C, hC, a1, by rw [Nat.add_assoc]; exact b1, by rw [Nat.add_assoc]; exact d1, fun i _ => rfl⟩

theorem bufRow_spec {e : TypeId} {news : List AV} {id off : Nat} {h h' : AHeap} (hr : bufRow e news id off h = some h') : ∃ cs i n bs lr, h.get id = some (.cells cs) ∧ cs[off]? = some (.rs i 0 n 1) ∧ cs[off + 1]? = some (.int .i64 0) ∧ cs[off + 2]? = some (.int .i8 lr) ∧
    h.get i = some (.row e bs) ∧ bs.length = n ∧ n ≠ 0 ∧ n + news.length ≤ 140737488355328 ∧ h' = ((h.kill i).put h.next (.row e (bs ++ news))).put id (.cells (bufCells cs off (.rs h.next 0 (n + news.length) 1))) := by
  unfold bufRow at hr
  rw [Option.bind_eq_some_iff] at hr
  obtain ⟨ob, hob, hr⟩ := hr
  cases ob with
  | map es => cases hr
  | row t cs => cases hr
  | cells cs =>
    simp only at hr
    split at hr
    · rename_i i o n z x lr q0 q1 q2
      rw [Option.bind_eq_some_iff] at hr
      obtain ⟨ob2, hob2, hr⟩ := hr
      cases ob2 with
      | map es => cases hr
      | cells cs => cases hr
      | row e' bs =>
        simp only at hr
        split at hr
        · rename_i hh
          obtain ⟨rfl, rfl, rfl, rfl, h5, h6, h7⟩ := hh
          cases hr
          exact ⟨cs, i, n, bs, lr, hob, q0, q1, q2, hob2, h5, h6, h7, rfl⟩
        · cases hr
    · cases hr

theorem bufNil_spec {e : TypeId} {news : List AV} {id off : Nat} {h h' : AHeap} (hr : bufNil e news id off h = some h') : ∃ cs lr, h.get id = some (.cells cs) ∧ cs[off]? = some .nils ∧ cs[off + 1]? = some (.int .i64 0) ∧ cs[off + 2]? = some (.int .i8 lr) ∧
    h' = (h.put h.next (.row e news)).put id (.cells (bufCells cs off (.rs h.next 0 news.length 1))) := by
  unfold bufNil at hr
  rw [Option.bind_eq_some_iff] at hr
  obtain ⟨ob, hob, hr⟩ := hr
  cases ob with
  | map es => cases hr
  | row t cs => cases hr
  | cells cs =>
    simp only at hr
    split at hr
    · rename_i x lr q0 q1 q2
      split at hr
      · rename_i hh
        subst hh
        cases hr
        exact ⟨cs, lr, hob, q0, q1, q2, rfl⟩
      · cases hr
    · cases hr

/-- A buffer that holds something: its row in the world. -/
theorem buf_row {c : Cx} {L0 : Nat → Prop} (hrel : HRel c L0) {e T : TypeId} {id off i n : Nat} {cs bs : List AV} {C : Array Value} {v : Value} {lr : Int} (hid : c.h.get id = some (.cells cs)) (hi : c.h.get i = some (.row e bs)) (hbs : bs.length = n) (hn0 : n ≠ 0)
    (hv : VR c L0 (.rs i 0 n 1) v) (h3 : LibA.Three c.w (c.β id).1 ((c.β id).2 + off) T (fun i => C[i]?) v (.int .i64 0) (.int .i8 lr)) :
    ∃ cap cur, BRow T (fun i => C[i]?) e (c.β id).1 ((c.β id).2 + off) lr (c.β i).1 n cap cur c.w ∧ VRs c L0 bs (cur.toList.take n) ∧ (∀ v ∈ cur.toList.take n, v.oneCell' = true) ∧ Live c.h i ∧ cur.size = c.len (c.β i).1 := by
  have hli : Live c.h i := ⟨hrel.lt _ _ hi, by rw [hi]; rfl⟩
  have hlid : Live c.h id := ⟨hrel.lt _ _ hid, by rw [hid]; rfl⟩
  obtain ⟨hb0, cur, hcur, hle, hmax, hcl⟩ := hrel.obj _ _ hi
  simp only [VR] at hv
  obtain ⟨_, a, cap, rfl, hnc, _, hlive⟩ := hv
  have hlen : c.len (c.β i).1 = cur.size := by simp [Cx.len, World.shape?, hcur]
  rcases hlive hli with ⟨rfl, hcap⟩ | h0
  rotate_left
  · omega
  rw [hlen, hb0] at hcap
  rw [hb0] at h3
  obtain ⟨vs, w1, w2, w3⟩ := hcl.vals
  have hvl : vs.length = n := by rw [← w1.length, hbs]
  have hts : cur.toList.take n = vs := by
    apply List.ext_getElem?
    intro j
    rw [List.getElem?_take]
    by_cases hj : j < n
    · rw [if_pos hj, Array.getElem?_toList, ← w2 j (by omega), cell_of_block hcur, Nat.zero_add]
    · rw [if_neg hj, List.getElem?_eq_none (by omega)]
  refine ⟨cap, cur, ⟨h3, hcur, hnc, by omega, by omega, fun he => ?_⟩, by rw [hts]; exact w1, by rw [hts]; exact w3, hli, hlen.symm⟩
  have hne : i ≠ id := by
    rintro rfl
    rw [hid] at hi; cases hi
  exact hne (hrel.inj i id hli hlid he)

/-- WriteByte, as it is served. -/
def wbA (e : TypeId) (args : List AV) (h : AHeap) : Option (AV × AHeap) :=
  match args with
  | [.ptr id off, .int .u8 c] => match bufRow e [.int .u8 c] id off h with
    | some h' => some (.any, h')
    | none => (bufNil e [.int .u8 c] id off h).map fun h' => (.any, h')
  | _ => none

theorem put_steady2 (h : AHeap) (i j : Nat) (o p : AObj) : Steady h ((h.put i o).put j p) := (Steady.put _ _ _).trans (Steady.put _ _ _)
theorem buf_steady {e : TypeId} {news : List AV} {id off : Nat} {h h' : AHeap} : (bufRow e news id off h = some h' → Steady h h') ∧ (bufNil e news id off h = some h' → Steady h h') := by
  refine ⟨fun hr => ?_, fun hr => ?_⟩
  · obtain ⟨cs, i, n, bs, lr, _, _, _, _, _, _, _, _, rfl⟩ := bufRow_spec hr
    exact ((Steady.kill _ _).trans (Steady.put _ _ _)).trans (Steady.put _ _ _)
  · obtain ⟨cs, lr, _, _, _, _, rfl⟩ := bufNil_spec hr
    exact put_steady2 _ _ _ _ _

theorem wb_ok (L : LaysM.n179 P ρ) (henter : ∀ (vs : Array Value) (w : World), (callFunc (ρ.f 179) vs).run P w = .ok (.enter (ρ.f 179) vs) w) :
    CallOK P fun f' args h => if f' = ρ.f 179 then wbA (ρ.t 5) args h else none := by
  intro f args h r h' hc
  dsimp only at hc
  split at hc
  rotate_left
  · cases hc
  rename_i hf
  subst hf
  refine ⟨henter, fun L0 c vs hh hb0 hrel hargs => ?_⟩
  subst hh
  unfold wbA at hc
  split at hc
  rotate_left
  · cases hc
  rename_i id off x
  match vs, hargs with
  | [v1, v2], ⟨q1, q2, _⟩ =>
  simp only [VR] at q1 q2
  subst q2
  obtain ⟨_, ad, rfl, had⟩ := q1
  have hnew : VRs c L0 [.int .u8 x] [Value.int .u8 x] := by simp [VRs, VR]
  have hfin : ∀ (h1 : AHeap) (w' : World) (e : Ending), e = .returned .nilIface → (∃ c' : Cx, c'.w = w' ∧ c'.h = h1 ∧ HRel c' L0 ∧ Ext c none0 c' none0) → ∃ c' v, e = .returned v ∧ c'.w = w' ∧ c'.h = h1 ∧ VR c' L0 .any v ∧ HRel c' L0 ∧ Ext c none0 c' none0 := by
    rintro h1 w' e rfl ⟨c', a1, a2, a3, a4⟩
    exact ⟨c', _, rfl, a1, a2, trivial, a3, a4⟩
  split at hc
  · rename_i h1 hr
    cases hc
    obtain ⟨cs, i, n, bs, lr, g0, g1, g2, g3, g4, g5, g6, g7, rfl⟩ := bufRow_spec hr
    obtain ⟨C, T, v, k1, k2, k3, k4, k5, k6⟩ := buf_three hrel g0 (y := .any) g1 g2 g3
    obtain ⟨cap, cur, m1, m2, m3, m4, m5⟩ := buf_row hrel g0 g4 g5 g6 k5 k6
    have hlid : Live c.h id := ⟨hrel.lt _ _ g0, by rw [g0]; rfl⟩
    rw [had hlid]
    have hne : i ≠ id := by
      rintro rfl
      rw [g0] at g4; cases g4
    refine (writeByte_row L T _ _ _ _ n cap x lr cur c.w m1 m3 g6 (by simpa using g7)).mono ?_
    rintro e w' ⟨he, g', cap', cur', r1, r2, r3, r4⟩
    refine hfin _ _ _ he (buf_upd hrel hb0 g0 k1 k2 k3 k4 g2 r1 r2 (VRs.append m2 hnew) ?_ (by simp [g5]) r4 ((Steady.kill _ i).trans (Steady.put _ _ _)) (by show _ < c.h.next + 1 + 1; omega) (by rw [kill_put_get]; simp) (fun j hj => ?_) ?_ ?_)
    · intro u hu
      rcases List.mem_append.1 hu with hu | hu
      · exact m3 u hu
      · cases List.mem_singleton.1 hu; rfl
    · rw [kill_put_get, if_neg hj]
      by_cases hji : j = i
      · exact .inl (by rw [if_pos hji])
      · exact .inr (by rw [if_neg hji])
    · rw [kill_put_get, if_neg (by have := hlid.1; omega), if_neg (Ne.symm hne)]
    · refine r3.imp (fun h => h) fun ⟨h1, h2⟩ => ⟨i, m4, h1.symm, ?_, by rw [h2, m5, h1]⟩
      rw [kill_put_get, if_neg (by have := m4.1; omega), if_pos rfl]
  · obtain ⟨h1, hr, he⟩ := Option.map_some' hc
    simp only [Prod.mk.injEq] at he
    obtain ⟨rfl, rfl⟩ := he
    obtain ⟨cs, lr, g0, g1, g2, g3, rfl⟩ := bufNil_spec hr
    obtain ⟨C, T, v, k1, k2, k3, k4, k5, k6⟩ := buf_three hrel g0 (y := .any) g1 g2 g3
    simp only [VR] at k5
    subst k5
    have hlid : Live c.h id := ⟨hrel.lt _ _ g0, by rw [g0]; rfl⟩
    rw [had hlid]
    refine (writeByte_nil L T _ _ _ x lr c.w k6).mono ?_
    rintro e w' ⟨he, g', cap', cur', r1, r2, r3, r4⟩
    refine hfin _ _ _ he (buf_upd hrel hb0 g0 k1 k2 k3 k4 g2 r1 r2 hnew ?_ rfl (r4.mono fun _ _ h => .inl h) (Steady.put _ _ _) (by show _ < c.h.next + 1; omega) (by rw [put_get]; simp) (fun j hj => .inr (by rw [put_get, if_neg hj])) (by rw [put_get, if_neg (by have := hlid.1; omega)]) (.inl r3))
    intro u hu
    cases List.mem_singleton.1 hu; rfl
end
end Go.R
