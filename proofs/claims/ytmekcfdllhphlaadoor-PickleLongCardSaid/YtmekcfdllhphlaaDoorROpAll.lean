/- Every operation that the interpreter serves. -/
import Derived.Test.YtmekcfdllhphlaaDoorROps7
set_option linter.unusedVariables false
set_option linter.unusedSimpArgs false
namespace Go.R
open Go

/-- What a call must show. -/
def CallOK (P : Program) (cf : CallF) : Prop :=
  ∀ f args h r h', cf f args h = some (r, h') →
    (∀ (vs : Array Value) (w : World), (callFunc f vs).run P w = .ok (.enter f vs) w) ∧
    ∀ (L0 : Nat → Prop) (c : Cx) (vs : List Value), c.h = h → c.base ≤ c.w.heap.size → HRel c L0 → VRs c L0 args vs →
      Calls P f vs.toArray c.w fun e w' => ∃ c' v, e = .returned v ∧ c'.w = w' ∧ c'.h = h' ∧ VR c' L0 r v ∧ HRel c' L0 ∧ Ext c none0 c' none0

section
variable {P : Program} {L0 : Nat → Prop} {c0 : Cx} {n : Nat} {ds : List Nat} {o : Oper} {s : RS}

theorem un_none {L0 Lo : Nat → Prop} (b : Nat) : un (un L0 Lo) none0 b ↔ un L0 Lo b := by simp [un, none0]

theorem VRs.anti' {c : Cx} {L L' : Nat → Prop} (h : ∀ b, L' b → L b) {xs : List AV} {vs : List Value} (k : VRs c L xs vs) : VRs c L' xs vs := VRs.anti h xs vs k

/-- A call keeps what the caller owns. -/
theorem Fr.call {c c' : Cx} {Lo : Nat → Prop} {lam : Nat → Nat} {a : Act} (f : Fr L0 c Lo lam ds s a) (hr : HRel c' (un L0 Lo)) (e : Ext c none0 c' none0) :
    Ext c Lo c' Lo ∧ Fr L0 c' Lo lam ds { s with h := c'.h } a := by
  have hlo : ∀ b, Lo b → b < c.w.heap.size := fun b hb => f.rel.bd b (.inr hb)
  have e' : Ext c Lo c' Lo :=
    ⟨e.next, e.live, e.size, fun b h1 _ h3 => e.keep b h1 (fun h => h.elim) h3, e.exact, e.base, e.img, fun _ h => h, fun _ h => .inl h, e.os, e.tape, e.output⟩
  refine ⟨e', rfl, hr, fun t => (f.slot t).ext e' (fun _ _ _ => ⟨rfl, fun h => h⟩), fun k cs hb => ?_, f.inj, f.tidy, f.defers, fun b hb => by rw [e.base]; exact f.lob b hb⟩
  have ob := f.box k cs hb
  exact ob.ext e' (e.keep _ ob.plain.lt (fun h => h.elim) fun id hl he => f.rel.out id hl (he ▸ .inr ob.own))

theorem op_call {cf : CallF} (hcf : CallOK P cf) (hb0 : c0.base ≤ c0.w.heap.size) (hd : DstOK n ds o) {fx : Operand} {args : Array Operand} {ats : Array TypeId} (ho : o.op = .call { callee := .value fx, args := args, argTypes := ats }) {fid : FuncId} {cap : List AV}
    (hf : opnd s.ρ fx = .fn fid cap) (ha : (args.toList.map (opnd s.ρ)).all AV.argOK = true) {r : AV} {h' : AHeap} (h : cf fid (args.toList.map (opnd s.ρ) ++ cap) s.h = some (r, h')) :
    OpOK P L0 c0 n ds o s ({ s with h := h' }.set o.dst r) := by
  rintro a w K Q ⟨hn, c, Lo, lam, rfl, f, e0⟩ hK
  obtain ⟨hin, hcall⟩ := hcf _ _ _ _ _ h
  have hfx := opnd_SR f fx
  rw [hf] at hfx
  simp only [SR, VR] at hfx
  obtain ⟨cv, hfe, hcv⟩ := hfx
  have hargs : VRs c (un L0 Lo) (args.toList.map (opnd s.ρ)) (args.toList.map a.eval) := by
    refine opnds_VRs f _ fun x hx => argOK_ne ?_
    rw [List.all_eq_true] at ha
    exact ha _ (List.mem_map.2 ⟨x, hx, rfl⟩)
  have hall := VRs.append hargs hcv
  unfold Oper.wp
  have : (execOp a.eval o).run P c.w = .ok (.enter fid (args.map a.eval ++ cv)) c.w := by
    simp [execOp, ho, resolve, hfe, Deferred.ofValue, invoke, hin]
  rw [this, Oper.upon_enter]
  have hc := hcall (un L0 Lo) c _ f.h (base_le e0 hb0) f.rel hall
  have he : (args.toList.map a.eval ++ cv.toList).toArray = args.map a.eval ++ cv := by
    apply Array.ext'; simp
  rw [he] at hc
  refine Calls.mono hc ?_
  rintro e w' ⟨c', v, rfl, rfl, hh, hv, hrel, hext⟩
  obtain ⟨e', f'⟩ := f.call hrel hext
  rw [hh] at f'
  exact hK _ _ ⟨(put_size _ _ _).trans hn, c', Lo, lam, rfl, f'.set (SR.of hv) (fun t ht => by rw [hn]; exact hd t ht), e0.trans e'⟩

theorem Option.map_some' {α β : Type} {x : Option α} {g : α → β} {y : β} (h : x.map g = some y) : ∃ z, x = some z ∧ g z = y := Option.map_eq_some_iff.1 h

theorem newBox_ok {locs : List Nat} {cs : List AV} {s' : RS} (h : newBox s locs ds o cs = some s') : cs.all AV.cellOK = true := by
  unfold newBox at h
  split at h
  · assumption
  · cases h

theorem opA_ok {cf : CallF} (hcf : CallOK P cf) (hb0 : c0.base ≤ c0.w.heap.size) (hd : DstOK n ds o) {locs : List Nat} {s' : RS} (h : opA P cf locs ds s o = some s') : OpOK P L0 c0 n ds o s s' := by
  have hval : ∀ {x : Option AV}, (x.map fun x => s.set o.dst x) = some s' → (∀ z, x = some z → OpOK P L0 c0 n ds o s (s.set o.dst z)) → OpOK P L0 c0 n ds o s s' := by
    intro x hx hz
    obtain ⟨z, rfl, rfl⟩ := Option.map_some' hx
    exact hz z rfl
  unfold opA opE at h
  dsimp only at h
  split at h
  · rename_i x ho; cases h; exact op_move hd (.inl ho)
  · rename_i x ho; cases h; exact op_move hd (.inr ho)
  · rename_i k x y ho
    obtain ⟨t, ht, rfl⟩ := Option.map_some' h
    exact op_pick hd ho ht
  · -- alloc
    rename_i t ho
    rw [Option.bind_eq_some_iff] at h
    obtain ⟨z, hz, h⟩ := h
    refine op_newBox hb0 hd t h fun a c Lo lam f hn => ?_
    have hok := newBox_ok h
    obtain ⟨v, h1, h2, h3⟩ := run_alloc (P := P) (c := c) hz hok (un L0 Lo)
    exact ⟨v, by simp [execOp, ho, h1], h2, h3⟩
  · -- box
    rename_i t x ho
    refine op_newBox hb0 hd t h fun a c Lo lam f hn => ?_
    have hok : (opnd s.ρ x).cells.all AV.cellOK = true := newBox_ok h
    obtain ⟨h1, h2⟩ := cells_VR hok ((opnd_SR f x).cellsVR hok)
    exact ⟨a.eval x, by simp [execOp, ho, Instr.box, newVar, newRow], h1, h2⟩
  · rename_i t ps ho
    refine hval h fun z hz => op_val hd fun a c Lo lam f hn => ?_
    obtain ⟨v, hr, hv⟩ := run_build (P := P) (parts_SR f ps.toList) hz
    refine ⟨v, ?_, SR.of hv⟩
    have he : ps.map (fun (i, x) => (i, a.eval x)) = (ps.toList.map fun (i, x) => (i, a.eval x)).toArray := by
      apply Array.ext'; simp
    simp only [execOp, ho, Sem.run_bind]
    rw [he, hr]
    rfl
  · rename_i t k ps ho
    exact hval h fun z hz => op_buildSlice hb0 hd ho hz
  · -- load
    rename_i t x ho
    refine hval h fun z hz => op_val hd fun a c Lo lam f hn => ?_
    obtain ⟨r, hr, hv⟩ := run_loadAt (P := P) f (t := t) (opnd_SR f x) hz
    exact ⟨r, by simp [execOp, ho, hr], SR.of hv⟩
  · -- store
    rename_i t x y ho
    split at h
    · cases h
    rename_i hdst
    exact op_store hb0 hd ho (by simpa using hdst) h
  · rename_i ho; exact hval h fun z hz => op_nilCheck hd ho hz
  · rename_i ho; exact hval h fun z hz => op_binOp hd ho hz
  · rename_i ho; exact hval h fun z hz => op_unOp hd ho hz
  · rename_i ho; exact hval h fun z hz => op_convert hb0 hd ho hz
  · rename_i fid first cap ho
    split at h
    · rename_i hh
      refine hval h fun z hz => ?_
      cases hz
      exact op_makeFunc hd ho hh.1 hh.2
    · cases h
  · rename_i ho; cases h; exact op_makeMap hb0 hd ho
  · rename_i ho; exact op_makeSlice hb0 hd ho h
  · -- slice
    rename_i t x lo hi mx ho
    refine hval h fun z hz => op_val hd fun a c Lo lam f hn => ?_
    have hs : ∀ (q : Option Operand) (y : AV), q.map (opnd s.ρ) = some y → ∃ v, q.map a.eval = some v ∧ SR c L0 Lo lam s.bx y v := by
      intro q y hq
      obtain ⟨u, rfl, rfl⟩ := Option.map_some' hq
      exact ⟨_, rfl, opnd_SR f u⟩
    have hs' : ∀ (q : Option Operand), q.map (opnd s.ρ) = none → q.map a.eval = none := by
      intro q hq
      simpa using hq
    obtain ⟨r, hr, hv⟩ := run_sliceA (P := P) (opnd_SR f x) (hs lo) (hs' lo) (hs hi) (hs' hi) (hs mx) (hs' mx) hz
    exact ⟨r, by simp [execOp, ho, hr], SR.of hv⟩
  · rename_i t x i ho
    refine hval h fun z hz => op_val hd fun a c Lo lam f hn => ?_
    obtain ⟨r, hr, hv⟩ := run_fieldAt (P := P) (opnd_SR f x) hz
    exact ⟨r, by simp [execOp, ho, hr], hv⟩
  · rename_i t x i ho
    refine hval h fun z hz => op_val hd fun a c Lo lam f hn => ?_
    obtain ⟨r, hr, hv⟩ := run_fieldA (P := P) (opnd_SR f x) hz
    exact ⟨r, by simp [execOp, ho, hr], SR.of hv⟩
  · rename_i t x i ho
    refine hval h fun z hz => op_val hd fun a c Lo lam f hn => ?_
    obtain ⟨r, hr, hv⟩ := run_indexAt (P := P) (opnd_SR f x) (opnd_SR f i) hz
    exact ⟨r, by simp [execOp, ho, hr], hv⟩
  · rename_i t x i ho
    refine hval h fun z hz => op_val hd fun a c Lo lam f hn => ?_
    obtain ⟨r, hr, hv⟩ := run_indexA (P := P) (opnd_SR f x) (opnd_SR f i) hz
    exact ⟨r, by simp [execOp, ho, hr], SR.of hv⟩
  · rename_i t m k ok ho
    refine hval h fun z hz => op_val hd fun a c Lo lam f hn => ?_
    obtain ⟨r, hr, hv⟩ := run_lookupA (P := P) f (opnd_SR f m) (opnd_SR f k) hz
    exact ⟨r, by simp [execOp, ho, hr], SR.of hv⟩
  · rename_i t m k x ho
    split at h
    · cases h
    rename_i hdst
    obtain ⟨h', hh, rfl⟩ := Option.map_some' h
    exact op_mapUpdate hb0 (.inl ho) (by simpa using hdst) hh
  · rename_i t m k x ho
    split at h
    · cases h
    rename_i hdst
    obtain ⟨h', hh, rfl⟩ := Option.map_some' h
    exact op_mapUpdate hb0 (.inr ho) (by simpa using hdst) hh
  · rename_i ho; exact hval h fun z hz => op_extract hd ho hz
  · -- a builtin
    rename_i b args ats ho
    unfold callBuiltin at h
    split at h
    · rename_i t x hts hargs
      have hats : ats = #[t] := by apply Array.ext'; simpa using hts
      obtain ⟨q, hq, rfl⟩ : ∃ q, args = #[q] ∧ opnd s.ρ q = x := by
        cases args with | mk l =>
        rcases l with _ | ⟨q, _ | ⟨q2, l⟩⟩ <;> simp at hargs
        exact ⟨q, rfl, hargs⟩
      subst hats hq
      refine hval h fun z hz => op_val hd fun a c Lo lam f hn => ?_
      obtain ⟨r, hr, hv⟩ := run_lenA (P := P) f #[t] rfl (opnd_SR f q) hz o.type
      exact ⟨r, by simp [execOp, ho, resolve, invoke, builtin, hr], SR.of hv⟩
    · rename_i t t2 x y hts hargs
      have hats : ats = #[t, t2] := by apply Array.ext'; simpa using hts
      obtain ⟨q, q2, hq, rfl, rfl⟩ : ∃ q q2, args = #[q, q2] ∧ opnd s.ρ q = x ∧ opnd s.ρ q2 = y := by
        cases args with | mk l =>
        rcases l with _ | ⟨q, _ | ⟨q2, _ | ⟨q3, l⟩⟩⟩ <;> simp at hargs
        exact ⟨q, q2, rfl, hargs.1, hargs.2⟩
      subst hats hq
      exact op_append hb0 hd ho h
    · rename_i t t2 x y hts hargs
      have hats : ats = #[t, t2] := by apply Array.ext'; simpa using hts
      obtain ⟨q, q2, hq, rfl, rfl⟩ : ∃ q q2, args = #[q, q2] ∧ opnd s.ρ q = x ∧ opnd s.ρ q2 = y := by
        cases args with | mk l =>
        rcases l with _ | ⟨q, _ | ⟨q2, _ | ⟨q3, l⟩⟩⟩ <;> simp at hargs
        exact ⟨q, q2, rfl, hargs.1, hargs.2⟩
      subst hats hq
      obtain ⟨⟨z, h'⟩, hh, rfl⟩ := Option.map_some' h
      exact op_copy hb0 hd ho hh
    · rename_i t x hts hargs
      have hats : ats = #[t] := by apply Array.ext'; simpa using hts
      obtain ⟨q, hq, rfl⟩ : ∃ q, args = #[q] ∧ opnd s.ρ q = x := by
        cases args with | mk l =>
        rcases l with _ | ⟨q, _ | ⟨q2, l⟩⟩ <;> simp at hargs
        exact ⟨q, rfl, hargs⟩
      subst hats hq
      obtain ⟨h', hh, rfl⟩ := Option.map_some' h
      exact op_clear hb0 hd ho hh
    · rename_i x xs hargs
      rw [Option.bind_eq_some_iff] at h
      obtain ⟨v, hv, h⟩ := h
      rw [Option.bind_eq_some_iff] at h
      obtain ⟨vs, hvs, h⟩ := h
      rw [Option.bind_eq_some_iff] at h
      obtain ⟨u, hu, h⟩ := h
      exact hval h fun z hz => op_minmax hd ho (.inl ⟨rfl, rfl⟩) hargs hv hvs hu hz
    · rename_i x xs hargs
      rw [Option.bind_eq_some_iff] at h
      obtain ⟨v, hv, h⟩ := h
      rw [Option.bind_eq_some_iff] at h
      obtain ⟨vs, hvs, h⟩ := h
      rw [Option.bind_eq_some_iff] at h
      obtain ⟨u, hu, h⟩ := h
      exact hval h fun z hz => op_minmax hd ho (.inr ⟨rfl, rfl⟩) hargs hv hvs hu hz
    · cases h
  · -- a call
    rename_i fx args ats ho
    split at h
    · rename_i fid cap heq
      split at h
      · rename_i ha
        obtain ⟨⟨r, h'⟩, hh, rfl⟩ := Option.map_some' h
        exact op_call hcf hb0 hd ho heq ha hh
      · cases h
    · cases h
  · cases h
end
end Go.R
