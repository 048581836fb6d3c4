/- Walking over loops: invariants; names for parts of a function's code. -/
import Derived.Test.YtmekcfdllhphlaaDoorRStep
set_option linter.unusedVariables false
set_option linter.unusedSimpArgs false
namespace Go.R
open Go

/-- A part of a code. -/
def sub : List Nat → Code → Code
  | [], c => c
  | 0 :: p, .seq a _ => sub p a
  | _ :: p, .seq _ b => sub p b
  | 0 :: p, .cond _ a _ => sub p a
  | _ :: p, .cond _ _ b => sub p b
  | _ :: p, .block _ a => sub p a
  | _ :: p, .loop a => sub p a
  | _, c => c
def codeOf (f : Func) : Code := f.body.getD .skip

theorem iter_inv {f : St → Option (Ex × St)} {Inv : Nat → St → Prop} {Q : Ex → St → Prop} {N : Nat}
    (hstep : ∀ i s, i < N → Inv i s → ∃ s', f s = some (.norm, s') ∧ Inv (i + 1) s')
    (hend : ∀ s, Inv N s → ∃ e s', f s = some (e, s') ∧ e ≠ .norm ∧ Q e s') :
    ∀ (n i : Nat) (s : St), i ≤ N → N < n + i → Inv i s → ∃ e s', iterA f n s = some (e, s') ∧ Q e s'
  | 0, i, s, hi, hn, _ => by omega
  | n + 1, i, s, hi, hn, h => by
    by_cases hN : i = N
    · subst hN
      obtain ⟨e, s', h1, h2, h3⟩ := hend s h
      refine ⟨e, s', ?_, h3⟩
      rw [iterA_succ, h1]
      cases e with
      | norm => exact absurd rfl h2
      | exit _ => rfl
      | ret => rfl
    · obtain ⟨s', h1, h2⟩ := hstep i s (by omega) h
      obtain ⟨e, s'', h3, h4⟩ := iter_inv hstep hend n (i + 1) s' (by omega) (by omega) h2
      refine ⟨e, s'', ?_, h4⟩
      rw [iterA_succ, h1]
      exact h3

section
variable {P : Program} {cf : CallF} {A : Ann} {m : Nat}
/-- A loop that is left by its end. -/
theorem loop_inv {x : Nat} {L : Code} {Inv : Nat → St → Prop} {Q : St → Prop} {N : Nat} {s : St} (hs : Inv 0 s)
    (hstep : ∀ i s, i < N → Inv i s → ∃ s', execA P cf A m L s = some (.norm, s') ∧ Inv (i + 1) s')
    (hend : ∀ s, Inv N s → ∃ s', execA P cf A m L s = some (.exit x, s') ∧ Q s') (hm : N < m) :
    ∃ s', execA P cf A m (.block x (.loop L)) s = some (.norm, s') ∧ Q s' := by
  obtain ⟨e, s', h1, h2, h3⟩ := iter_inv (Q := fun e s' => e = .exit x ∧ Q s') hstep (fun s h => by
    obtain ⟨s', h1, h2⟩ := hend s h
    exact ⟨_, s', h1, (by intro h; cases h), rfl, h2⟩) m 0 s (Nat.zero_le _) (by omega) hs
  subst h2
  refine ⟨s', ?_, h3⟩
  rw [execA_block, execA_loop, h1]
  simp

theorem seq_norm {a b : Code} {s s' : St} (h : execA P cf A m a s = some (.norm, s')) : execA P cf A m (.seq a b) s = execA P cf A m b s' := by
  rw [execA_seq, h]; rfl
theorem seq_ex {a b : Code} {s s' : St} {e : Ex} (h : execA P cf A m a s = some (e, s')) (he : e ≠ .norm) : execA P cf A m (.seq a b) s = some (e, s') := by
  rw [execA_seq, h]
  cases e with
  | norm => exact absurd rfl he
  | exit _ => rfl
  | ret => rfl
theorem block_norm {x : Nat} {a : Code} {s s' : St} (h : execA P cf A m a s = some (.norm, s')) : execA P cf A m (.block x a) s = some (.norm, s') := by
  rw [execA_block, h]; rfl
end

section
variable {P : Program} {cf : CallF} {ann : FuncId → Ann} {m : Nat} {f : FuncId} {fn : Func}
theorem body_ret (hf : P.funcs[f]? = some fn) (hb : fn.body = some (codeOf fn)) {args : List AV} {h : AHeap} {s' : St} {r : AV} (hn : args.length ≤ fn.ntmps)
    (he : execA P cf (ann f) m (codeOf fn) { vars := argsVars (ann f).keep args, bxs := (ann f).locs.map fun _ => none, h } = some (.ret, s'))
    (hr : resultA P (s'.open (ann f)) fn.results.toList = some r) : bodyA P ann cf m f args h = some (r, s'.h) := by
  unfold bodyA
  rw [hf, Option.bind_some, hb, Option.bind_some, if_pos hn, he, Option.bind_some]
  simp only [hr, Option.map_some]
end

/-- Kept as it is. -/
def Kp (locs : List Nat) (x : AV) : Prop := ∀ t, keepV locs t x = x
theorem Kp.of {locs : List Nat} {x : AV} (h : ∀ k off, x ≠ .lp k off) : Kp locs x := fun t => by
  cases x <;> first | rfl | exact absurd rfl (h _ _)
end Go.R
