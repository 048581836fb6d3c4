/- A part of the proof of StoreNone. -/
import Derived.Test.YtifafejidnjckaaGreatSn1
set_option linter.unusedVariables false
set_option linter.unusedSimpArgs false
namespace Go.Proofs.YtifafejidnjckaaGreat
open Go Go.R
set_option maxRecDepth 100000
set_option maxHeartbeats 2000000

/-- How long a list is. -/
def lenN : AV → Option Nat
  | .nils => some 0
  | .fz _ n _ => some n
  | _ => none

theorem lenN_spec {A : AV} {n : Nat} (h : lenN A = some n) : A = .nils ∧ n = 0 ∨ ∃ cs ex, A = .fz cs n ex := by
  cases A <;> simp only [lenN, Option.some.injEq] at h <;> try (cases h; done)
  · exact .inl ⟨rfl, h.symm⟩
  · subst h; exact .inr ⟨_, _, rfl⟩

noncomputable def greatA (args : List AV) (h : AHeap) : Option (AV × AHeap) :=
  match args with
  | [.fz [.int .i64 _, .int .i64 _, .int .i64 _, .str _, A, T, .int .i64 _] 1 true] => (lenN A).bind fun (nA : Nat) => (lenN T).map fun (nT : Nat) => (.bool (decide ((nT : Int) > 40) || decide ((nA : Int) > 40)), h)
  | _ => none

noncomputable def intr2 : FuncId → Option (List AV → AHeap → Option (AV × AHeap)) := fun f => if f = 8 then some greatA else intr1 f

theorem intr2_ok : IntrOK Tryz.prog intr2 := by
  refine intr_of (callA_ok fits (T := told1) intr1_ok 10000 100) (callA_steady (T := told1) intr1_ok 10000 100) ?_
  intro f g hg args hp x hx
  unfold intr2 at hg
  split at hg
  · rename_i hf
    subst hf
    cases hg
    unfold greatA at hx
    split at hx
    · rename_i k a b l A T r
      rw [Option.bind_eq_some_iff] at hx
      obtain ⟨nA, hA, hx⟩ := hx
      rw [Option.map_eq_some_iff] at hx
      obtain ⟨nT, hT, rfl⟩ := hx
      exact great_ok (callA Tryz.prog told1 10000 99) 9998 hp k a b r l A T nA nT (lenN_spec hA) (lenN_spec hT)
    · cases hx
  · have hf : f = 9 := by
      unfold intr1 at hg
      split at hg
      · assumption
      · cases hg
    subst hf
    exact (show callA Tryz.prog told1 10000 100 9 args hp = g args hp by
      have : (told1.intr 9) = some g := hg
      simp only [callA, this]) ▸ hx
noncomputable def told2 : Tells := { ann := annL, intr := intr2, pure := fun _ => none }

def sq1 : Code → Code | .seq a _ => a | c => c
def sq2 : Code → Code | .seq _ b => b | c => c
def thn : Code → Code | .cond _ a _ => a | c => c
noncomputable def body6 : Code := Tryz.f6.body.getD .skip
noncomputable def r0 : Code := sq1 body6
noncomputable def r1 : Code := sq1 (sq1 (sq2 body6))
noncomputable def c2 : Code := sq2 (sq1 (sq2 body6))
noncomputable def rest : Code := sq2 (sq2 body6)
theorem body6_eq : Tryz.f6.body = some (.seq r0 (.seq (.seq r1 c2) rest)) := by kernel_rfl

noncomputable def cf99 : CallF := callA Tryz.prog told2 10000 99
def X (k a b r : Int) (l : ByteArray) (A T : AV) : List AV := [.int .i64 k, .int .i64 a, .int .i64 b, .str l, A, T, .int .i64 r]
noncomputable def s0 (x : List AV) : St := { vars := argsVars (annL 6).keep [.agg x], bxs := (annL 6).locs.map fun _ => none, h := heap0 }
noncomputable def nextOf (c : Code) (s : St) : St := ((execA Tryz.prog cf99 (annL 6) 10000 c s).map (·.2)).getD s
noncomputable def s1 (x : List AV) : St := nextOf r0 (s0 x)
noncomputable def s2 (x : List AV) : St := nextOf r1 (s1 x)
noncomputable def fin (o : Option (Ex × St)) : Option AV := o.bind fun
  | (.norm, s) | (.ret, s) => resultA Tryz.prog (s.open (annL 6)) Tryz.f6.results.toList
  | _ => none

noncomputable def G (nA nT : Nat) : Bool := decide ((nT : Int) > 40) || decide ((nA : Int) > 40)
noncomputable abbrev ex (c : Code) (s : St) : Option (Ex × St) := execA Tryz.prog cf99 (annL 6) 10000 c s
end Go.Proofs.YtifafejidnjckaaGreat
