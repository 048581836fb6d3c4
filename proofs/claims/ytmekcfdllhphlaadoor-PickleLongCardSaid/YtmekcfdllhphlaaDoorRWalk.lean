/- Walking over loops: invariants; names for parts of a function's code. -/
import Derived.Test.YtmekcfdllhphlaaDoorRStep
set_option linter.unusedVariables false
set_option linter.unusedSimpArgs false
namespace Go.R
open Go

/-- A part of a code. -/
def sub : List Nat → Code → Code
  | [], c => c
  | 0 :: p, .seq a _ => sub p a
  | _ :: p, .seq _ b => sub p b
  | 0 :: p, .cond _ a _ => sub p a
  | _ :: p, .cond _ _ b => sub p b
  | _ :: p, .block _ a => sub p a
  | _ :: p, .loop a => sub p a
  | _, c => c
def codeOf (f : Func) : Code := f.body.getD .skip

theorem iter_inv {f : St → Option (Ex × St)} {Inv : Nat → St → Prop} {Q : Ex → St → Prop} {N : Nat}
    (hstep : ∀ i s, i < N → Inv i s → ∃ s', f s = some (.norm, s') ∧ Inv (i + 1) s')
    (hend : ∀ s, Inv N s → ∃ e s', f s = some (e, s') ∧ e ≠ .norm ∧ Q e s') :
    ∀ (n i : Nat) (s : St), i ≤ N → N < n + i → Inv i s → ∃ e s', iterA f n s = some (e, s') ∧ Q e s'
  | 0, i, s, hi, hn, _ => by omega
  | n + 1, i, s, hi, hn, h => by
    by_cases hN : i = N
    · subst hN
      obtain ⟨e, s', h1, h2, h3⟩ := hend s h
      refine ⟨e, s', ?_, h3⟩
      rw [iterA_succ, h1]
      cases e with
      | norm => exact absurd rfl h2
      | exit _ => rfl
      | ret => rfl
    · obtain ⟨s', h1, h2⟩ := hstep i s (by omega) h
      obtain ⟨e, s'', h3, h4⟩ := iter_inv hstep hend n (i + 1) s' (by omega) (by omega) h2
      refine ⟨e, s'', ?_, h4⟩
      rw [iterA_succ, h1]
      exact h3

section
variable {P : Program} {cf : CallF} {A : Ann} {m : Nat}
/-- A loop that is left by its end. -/
theorem loop_inv {x : Nat} {L : Code} {Inv : Nat → St → Prop} {Q : St → Prop} {N : Nat} {s : St} (hs : Inv 0 s)
    (hstep : ∀ i s, i < N → Inv i s → ∃ s', execA P cf A m L s = some (.norm, s') ∧ Inv (i + 1) s')
    (hend : ∀ s, Inv N s → ∃ s', execA P cf A m L s = some (.exit x, s') ∧ Q s') (hm : N < m) :
    ∃ s', execA P cf A m (.block x (.loop L)) s = some (.norm, s') ∧ Q s' := by
  obtain ⟨e, s', h1, h2, h3⟩ := iter_inv (Q := fun e s' => e = .exit x ∧ Q s') hstep (fun s h => by
    obtain ⟨s', h1, h2⟩ := hend s h
    exact ⟨_, s', h1, (by intro h; cases h), rfl, h2⟩) m 0 s (Nat.zero_le _) (by omega) hs
  subst h2
  refine ⟨s', ?_, h3⟩
  rw [execA_block, execA_loop, h1]
  simp

theorem seq_norm {a b : Code} {s s' : St} (h : execA P cf A m a s = some (.norm, s')) : execA P cf A m (.seq a b) s = execA P cf A m b s' := by
  rw [execA_seq, h]; rfl
theorem seq_ex {a b : Code} {s s' : St} {e : Ex} (h : execA P cf A m a s = some (e, s')) (he : e ≠ .norm) : execA P cf A m (.seq a b) s = some (e, s') := by
  rw [execA_seq, h]
  cases e with
  | norm => exact absurd rfl he
  | exit _ => rfl
  | ret => rfl
theorem block_norm {x : Nat} {a : Code} {s s' : St} (h : execA P cf A m a s = some (.norm, s')) : execA P cf A m (.block x a) s = some (.norm, s') := by
  rw [execA_block, h]; rfl
end

section
variable {P : Program} {cf : CallF} {ann : FuncId → Ann} {m : Nat} {f : FuncId} {fn : Func}
theorem body_ret (hf : P.funcs[f]? = some fn) (hb : fn.body = some (codeOf fn)) {args : List AV} {h : AHeap} {s' : St} {r : AV} (hn : args.length ≤ fn.ntmps)
    (he : execA P cf (ann f) m (codeOf fn) { vars := argsVars (ann f).keep args, bxs := (ann f).locs.map fun _ => none, h } = some (.ret, s'))
    (hr : resultA P (s'.open (ann f)) fn.results.toList = some r) : bodyA P ann cf m f args h = some (r, s'.h) := by
  unfold bodyA
  rw [hf, Option.bind_some, hb, Option.bind_some, if_pos hn, he, Option.bind_some]
  simp only [hr, Option.map_some]
end

/-! ### A region whose order is open, run in the text's order -/

/-- Is it of slices, or strings? -/
def rowT (P : Program) (ts : List TypeId) : Bool :=
  match ts with
  | [t] => match P.underlying t with | some (.slice _) | some .string => true | _ => false
  | _ => false
/-- May it touch memory? -/
def loudB (P : Program) (o : Oper) : Bool :=
  match o.op with
  | .move _ | .assign _ | .pick .. | .binOp .. | .unOp .. | .fieldAddr .. | .field .. | .indexAddr .. | .index .. | .slice .. | .build .. | .buildSlice .. | .extract .. | .nilCheck _ | .makeFunc .. => false
  | .call { callee := .builtin .len, args := _, argTypes } => !rowT P argTypes.toList
  | _ => true
/-- Does it at most read? -/
def readB (o : Oper) : Bool :=
  match o.op with
  | .load .. | .convert .. | .lookup .. => true
  | .call { callee := .builtin b, .. } => match b with | .len | .min | .max => true | _ => false
  | _ => false
def boxB (locs : List Nat) (o : Oper) : Bool :=
  match o.op with
  | .alloc _ | .box _ _ => match o.dst with | some d => locs.contains d | none => false
  | _ => false

theorem foot_quiet {P : Program} {cf : CallF} {locs ds : List Nat} {s s' : RS} {o : Oper} (h : loudB P o = false) (hr : opA P cf locs ds s o = some s') : (footE locs (opnd s.ρ) o).quiet = true := by
  unfold loudB at h
  split at h
  case h_16 args ats ho =>
    simp only [opA, opE, ho] at hr
    simp only [Bool.not_eq_false'] at h
    unfold rowT at h
    split at h
    · rename_i t ht
      rw [ht] at hr
      rcases hl : args.toList.map (opnd s.ρ) with _ | ⟨x, _ | ⟨y, l⟩⟩
      · rw [hl] at hr; cases hr
      · rw [hl] at hr
        have hr' : (lenA P s.h t x).map (fun v => s.set o.dst v) = some s' := hr
        obtain ⟨v, hv, _⟩ := Option.map_some' hr'
        simp only [footE, ho, hl]
        unfold lenA at hv
        rw [Option.bind_eq_some_iff] at hv
        obtain ⟨u, hu, hv⟩ := hv
        rw [hu] at h
        cases x <;> first | rfl | (cases u <;> simp at h hv)
      · rw [hl] at hr; cases hr
    · cases h
  all_goals first | (rename_i ho; simp only [footE, ho]; rfl) | cases h
theorem foot_read {locs : List Nat} {e : Operand → AV} {o : Oper} (h : readB o = true) : (footE locs e o).wb = none ∧ (footE locs e o).wh = false := by
  unfold readB at h
  split at h
  · rename_i ho; simp only [footE, ho]; split <;> simp
  · rename_i ho; simp only [footE, ho]; split <;> simp
  · rename_i ho; simp only [footE, ho]; split <;> simp
  · rename_i b args ats ho
    simp only [footE, ho]
    split at h <;> first | (split <;> simp_all) | cases h
  · cases h
theorem foot_al {locs : List Nat} {e : Operand → AV} {o : Oper} (h : boxB locs o = false) : (footE locs e o).al = false := by
  unfold boxB at h
  unfold footE
  split
  · rename_i ho; rw [ho] at h; simp only at h; split at h <;> simp_all
  · rename_i ho; rw [ho] at h; simp only at h; split at h <;> simp_all
  all_goals first | rfl | (split <;> rfl) | (split <;> split <;> rfl)

/-- In whatever order, as the text alone tells. -/
def staticB (P : Program) (locs : List Nat) (ops : Array Oper) : Bool :=
  let ms := masksA [] ops.toList
  stillText ops ms && ops.toList.all (fun o => !boxB locs o) && pairsAll (fun i x j y => !loudB P x || !loudB P y || (ms.getD j 0).testBit i || (readB x && readB y)) 0 ops.toList

section
variable {P : Program} {cf : CallF} {locs : List Nat}
theorem runD_of_runA {opsL : List Oper} : ∀ {l : List Oper} {s r : RS}, runA P cf locs opsL s l = some r → ∃ es, runD P cf locs opsL s l = some (es, r) ∧ es.map (·.o) = l ∧ ∀ x ∈ es, x.f = {} ∨ ∃ s s', x.f = footE locs (opnd s.ρ) x.o ∧ opA P cf locs (opsL.filterMap (·.dst)) s x.o = some s'
  | [], s, r, h => by cases h; exact ⟨[], rfl, rfl, fun x hx => by cases hx⟩
  | o :: os, s, r, h => by
    simp only [runA, stepA, Option.bind_eq_some_iff] at h
    obtain ⟨s1, ⟨w, h1, h2⟩, h3⟩ := h
    obtain ⟨es, g1, g2, g3⟩ := runD_of_runA h3
    refine ⟨{ o, f := if w then footE locs (opnd s.ρ) o else {}, s, s' := s1 } :: es, ?_, by simp [g2], fun x hx => ?_⟩
    · simp only [runD, h1, Option.bind_some, h2, g1, Option.map_some]
    · rcases List.mem_cons.1 hx with rfl | hx
      · cases w
        · exact .inl rfl
        · exact .inr ⟨_, _, rfl, by simpa using h2⟩
      · exact g3 x hx

theorem draws_runA {ops : Array Oper} {s r : RS} (hs : staticB P locs ops = true) (h : runA P cf locs ops.toList s ops.toList = some r) : drawsA P cf locs ops s = some r := by
  unfold staticB at hs
  simp only [Bool.and_eq_true] at hs
  obtain ⟨⟨h1, h2⟩, h3⟩ := hs
  obtain ⟨es, g1, g2, g3⟩ := runD_of_runA h
  unfold drawsA
  simp only [h1, if_true, g1, Option.bind_some]
  rw [if_pos]
  have hel : ∀ (x : Ent) (i : Nat), (x, i) ∈ es.zipIdx.filter (fun (x, _) => !x.f.quiet) → ops.toList[i]? = some x.o ∧ loudB P x.o = true ∧ x.f.al = false ∧ (readB x.o = true → x.f.wb = none ∧ x.f.wh = false) := by
    intro x i hm
    obtain ⟨hm, hq⟩ := List.mem_filter.1 hm
    replace hq : (!x.f.quiet) = true := hq
    have hi : es[i]? = some x := by simpa using List.mem_zipIdx_iff_getElem?.1 hm
    have hx : x ∈ es := List.mem_of_getElem? hi
    have ho : ops.toList[i]? = some x.o := by rw [← g2, List.getElem?_map, hi]; rfl
    have hb : boxB locs x.o = false := by simpa using (List.all_eq_true.1 h2) x.o (List.mem_of_getElem? ho)
    rcases g3 x hx with hf | ⟨sx, sx', hf, hop⟩
    · rw [hf] at hq; simp [Foot.quiet] at hq
    · refine ⟨ho, ?_, by rw [hf]; exact foot_al hb, fun hr => by rw [hf]; exact foot_read hr⟩
      cases hl : loudB P x.o with
      | true => rfl
      | false => rw [hf, foot_quiet hl hop] at hq; cases hq
  rw [List.all_eq_true]
  rintro ⟨x, i⟩ hx
  obtain ⟨ox, lx, ax, rx⟩ := hel x i hx
  simp only [Bool.and_eq_true]
  refine ⟨by unfold allocOK; rw [ax], ?_⟩
  rw [List.all_eq_true]
  rintro ⟨y, j⟩ hy
  obtain ⟨oy, ly, ay, ry⟩ := hel y j hy
  simp only [Bool.or_eq_true]
  by_cases hle : j ≤ i
  · exact .inl (.inl (by rw [Nat.ble_eq]; exact hle))
  · have := pairsAll_spec _ _ 0 h3 i j x.o y.o (by omega) ox oy
    simp only [lx, ly, Bool.not_true, Bool.false_or, Bool.or_eq_true, Bool.and_eq_true, Nat.zero_add] at this
    rcases this with h | ⟨h, k⟩
    · exact .inl (.inr h)
    · obtain ⟨a1, a2⟩ := rx h
      obtain ⟨b1, b2⟩ := ry k
      right
      simp [Ent.spares, a1, a2, b1, b2]
theorem execA_static {A : Ann} {m id : Nat} {ops : Array Oper} {st : St} {r : RS} (hs : staticB P A.locs ops = true) (h : runA P cf A.locs ops.toList (st.open A) ops.toList = some r) : execA P cf A m (.region id ops true) st = some (.norm, r.shut A) := by
  rw [execA_draws, draws_runA hs h]; rfl
theorem execA_undraw {A : Ann} {m id : Nat} {ops : Array Oper} {st : St} {x : Ex × St} (hs : staticB P A.locs ops = true) (h : execA P cf A m (.region id ops false) st = some x) : execA P cf A m (.region id ops true) st = some x := by
  rw [execA_region, Option.map_eq_some_iff] at h
  obtain ⟨r, h1, rfl⟩ := h
  exact execA_static hs h1
end
def opsOf : Code → Array Oper
  | .region _ ops _ => ops
  | _ => #[]
/-- The next state, if there is one. -/
noncomputable def nextOf (P : Program) (cf : CallF) (A : Ann) (m : Nat) (c : Code) (s : St) : St := ((execA P cf A m c s).map (·.2)).getD s

/-- Kept as it is. -/
def Kp (locs : List Nat) (x : AV) : Prop := ∀ t, keepV locs t x = x
theorem Kp.of {locs : List Nat} {x : AV} (h : ∀ k off, x ≠ .lp k off) : Kp locs x := fun t => by
  cases x <;> first | rfl | exact absurd rfl (h _ _)
end Go.R
