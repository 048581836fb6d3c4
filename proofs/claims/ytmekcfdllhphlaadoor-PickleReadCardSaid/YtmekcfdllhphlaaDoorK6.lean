/- Part of the proof: Q118, Q106, Q77, Q107, Q78, Q79, Q80, Q62, Q52, Q34, Q51, Q32. -/
import Derived.Test.YtmekcfdllhphlaaDoorK5
set_option linter.unusedVariables false
set_option linter.unusedSimpArgs false
set_option maxRecDepth 100000
namespace Go.Proofs.YtmekcfdllhphlaaDoor
open Go Go.R
open Go.IntKind (i64 u64 u8 u32)
def ann118 : Ann := { keep := [0, 2], locs := [], dead := [(0, [2]), (1, [0])], frz := [], frz2 := [] }
noncomputable def g118R0 := sub [0] (codeOf Tryd.f118)
noncomputable def g118R1 := sub [1, 0] (codeOf Tryd.f118)
theorem g118_eq : codeOf Tryd.f118 = (.seq g118R0 (.seq g118R1 .ret)) := by kernel_rfl
def tree_letter.f (m : Nat) (c0 : Int) : Option (Bool) := if (decide (c0 ≥ (97 : Int))) = true then (if (decide (c0 ≤ (122 : Int))) = true then (some true) else (if (decide (c0 ≥ (65 : Int))) = true then (if (decide (c0 ≤ (90 : Int))) = true then (some true) else (if (decide (c0 ≥ (48 : Int))) = true then (if (decide (c0 ≤ (57 : Int))) = true then (some true) else (some (c0 == (95 : Int)))) else (some (c0 == (95 : Int))))) else (if (decide (c0 ≥ (48 : Int))) = true then (if (decide (c0 ≤ (57 : Int))) = true then (some true) else (some (c0 == (95 : Int)))) else (some (c0 == (95 : Int)))))) else (if (decide (c0 ≥ (65 : Int))) = true then (if (decide (c0 ≤ (90 : Int))) = true then (some true) else (if (decide (c0 ≥ (48 : Int))) = true then (if (decide (c0 ≤ (57 : Int))) = true then (some true) else (some (c0 == (95 : Int)))) else (some (c0 == (95 : Int))))) else (if (decide (c0 ≥ (48 : Int))) = true then (if (decide (c0 ≤ (57 : Int))) = true then (some true) else (some (c0 == (95 : Int)))) else (some (c0 == (95 : Int)))))
def tree_letter.fin (L : Mem) (r : Bool) (s : St) : Prop := ∃ av, resultA Tryd.prog (s.open ann118) Tryd.f118.results.toList = some av ∧ Frb s.h av (.bool r)
def S118 (cf : CallF) (m : Nat) : Prop := ∀ (c0 : Int) (r : Bool), tree_letter.f m c0 = some r → ∀ h xs, FrzS 1000 h xs [.int .u8 c0] → cf 118 xs h = some (.bool r, h)
section
variable {cf : CallF} {m : Nat}
theorem tree_letter_body {ann : FuncId → Ann} (ha : ann 118 = ann118)  (c0 : Int) (h : AHeap) (L : Mem)  (o : Has h (L)) {out : Bool} (H : tree_letter.f m c0 = some out) :
    ∃ r h', bodyA Tryd.prog ann cf m 118 [.int .u8 c0] h = some (r, h') ∧ Frb h' r (.bool out) := by
  refine body_of_ends2 (fn := Tryd.f118) ha Tryd.func118 (by kernel_rfl) (by kernel_rfl) ?_
  refine ends_fin (Q := fun s => tree_letter.fin L out s) (fun _ _ h => h) ?_
  refine ends_of_eq g118_eq ?_
  have H : _ = some out := H
  unfold tree_letter.f at H
  show Enz _ cf ann118 m _ ⟨[.int .u8 c0, .any], [], h⟩ _
  refine sr [] [] ⟨[.int .u8 c0, .any], [], h⟩ ((True) ∧ True) (by kernel_rfl) ⟨trivial, trivial⟩ ?_
  refine ends_seq ?_
  rcases bft (decide (c0 ≥ (97 : Int))) with c1 | c1
  · have H := ifp c1 H
    rcases bft (decide (c0 ≤ (122 : Int))) with c2 | c2
    · have H := ifp c2 H
      refine er [] [(2, .bool true, none), (6, .bool true, none)] ⟨[.any, .bool true], [], h⟩ ((True) ∧ AV.bool (decide (c0 ≥ (97 : Int))) = AV.bool true ∧ AV.bool (decide (c0 ≤ (122 : Int))) = AV.bool true ∧ True) (by kernel_rfl) ⟨trivial, ⟨congrArg AV.bool c1, congrArg AV.bool c2, trivial⟩⟩ ?_
      refine ends_ret ?_
      have H := Option.some.inj H
      subst H
      exact ⟨.inl rfl, ⟨.bool true, by kernel_rfl, frb (fb_bool)⟩⟩
    · have H := ifn c2 H
      rcases bft (decide (c0 ≥ (65 : Int))) with c3 | c3
      · have H := ifp c3 H
        rcases bft (decide (c0 ≤ (90 : Int))) with c4 | c4
        · have H := ifp c4 H
          refine er [] [(2, .bool true, none), (6, .bool false, none), (9, .bool true, none), (14, .bool true, none)] ⟨[.any, .bool true], [], h⟩ ((True) ∧ AV.bool (decide (c0 ≥ (97 : Int))) = AV.bool true ∧ AV.bool (decide (c0 ≤ (122 : Int))) = AV.bool false ∧ AV.bool (decide (c0 ≥ (65 : Int))) = AV.bool true ∧ AV.bool (decide (c0 ≤ (90 : Int))) = AV.bool true ∧ True) (by kernel_rfl) ⟨trivial, ⟨congrArg AV.bool c1, congrArg AV.bool c2, congrArg AV.bool c3, congrArg AV.bool c4, trivial⟩⟩ ?_
          refine ends_ret ?_
          have H := Option.some.inj H
          subst H
          exact ⟨.inl rfl, ⟨.bool true, by kernel_rfl, frb (fb_bool)⟩⟩
        · have H := ifn c4 H
          rcases bft (decide (c0 ≥ (48 : Int))) with c5 | c5
          · have H := ifp c5 H
            rcases bft (decide (c0 ≤ (57 : Int))) with c6 | c6
            · have H := ifp c6 H
              refine er [] [(2, .bool true, none), (6, .bool false, none), (9, .bool true, none), (14, .bool false, none), (17, .bool true, none), (22, .bool true, none)] ⟨[.any, .bool true], [], h⟩ ((True) ∧ AV.bool (decide (c0 ≥ (97 : Int))) = AV.bool true ∧ AV.bool (decide (c0 ≤ (122 : Int))) = AV.bool false ∧ AV.bool (decide (c0 ≥ (65 : Int))) = AV.bool true ∧ AV.bool (decide (c0 ≤ (90 : Int))) = AV.bool false ∧ AV.bool (decide (c0 ≥ (48 : Int))) = AV.bool true ∧ AV.bool (decide (c0 ≤ (57 : Int))) = AV.bool true ∧ True) (by kernel_rfl) ⟨trivial, ⟨congrArg AV.bool c1, congrArg AV.bool c2, congrArg AV.bool c3, congrArg AV.bool c4, congrArg AV.bool c5, congrArg AV.bool c6, trivial⟩⟩ ?_
              refine ends_ret ?_
              have H := Option.some.inj H
              subst H
              exact ⟨.inl rfl, ⟨.bool true, by kernel_rfl, frb (fb_bool)⟩⟩
            · have H := ifn c6 H
              refine er [] [(2, .bool true, none), (6, .bool false, none), (9, .bool true, none), (14, .bool false, none), (17, .bool true, none), (22, .bool false, none)] ⟨[.any, .bool (c0 == (95 : Int))], [], h⟩ ((True) ∧ AV.bool (decide (c0 ≥ (97 : Int))) = AV.bool true ∧ AV.bool (decide (c0 ≤ (122 : Int))) = AV.bool false ∧ AV.bool (decide (c0 ≥ (65 : Int))) = AV.bool true ∧ AV.bool (decide (c0 ≤ (90 : Int))) = AV.bool false ∧ AV.bool (decide (c0 ≥ (48 : Int))) = AV.bool true ∧ AV.bool (decide (c0 ≤ (57 : Int))) = AV.bool false ∧ True) (by kernel_rfl) ⟨trivial, ⟨congrArg AV.bool c1, congrArg AV.bool c2, congrArg AV.bool c3, congrArg AV.bool c4, congrArg AV.bool c5, congrArg AV.bool c6, trivial⟩⟩ ?_
              refine ends_ret ?_
              have H := Option.some.inj H
              subst H
              exact ⟨.inl rfl, ⟨.bool (c0 == (95 : Int)), by kernel_rfl, frb (fb_bool)⟩⟩
          · have H := ifn c5 H
            refine er [] [(2, .bool true, none), (6, .bool false, none), (9, .bool true, none), (14, .bool false, none), (17, .bool false, none)] ⟨[.any, .bool (c0 == (95 : Int))], [], h⟩ ((True) ∧ AV.bool (decide (c0 ≥ (97 : Int))) = AV.bool true ∧ AV.bool (decide (c0 ≤ (122 : Int))) = AV.bool false ∧ AV.bool (decide (c0 ≥ (65 : Int))) = AV.bool true ∧ AV.bool (decide (c0 ≤ (90 : Int))) = AV.bool false ∧ AV.bool (decide (c0 ≥ (48 : Int))) = AV.bool false ∧ True) (by kernel_rfl) ⟨trivial, ⟨congrArg AV.bool c1, congrArg AV.bool c2, congrArg AV.bool c3, congrArg AV.bool c4, congrArg AV.bool c5, trivial⟩⟩ ?_
            refine ends_ret ?_
            have H := Option.some.inj H
            subst H
            exact ⟨.inl rfl, ⟨.bool (c0 == (95 : Int)), by kernel_rfl, frb (fb_bool)⟩⟩
      · have H := ifn c3 H
        rcases bft (decide (c0 ≥ (48 : Int))) with c7 | c7
        · have H := ifp c7 H
          rcases bft (decide (c0 ≤ (57 : Int))) with c8 | c8
          · have H := ifp c8 H
            refine er [] [(2, .bool true, none), (6, .bool false, none), (9, .bool false, none), (17, .bool true, none), (22, .bool true, none)] ⟨[.any, .bool true], [], h⟩ ((True) ∧ AV.bool (decide (c0 ≥ (97 : Int))) = AV.bool true ∧ AV.bool (decide (c0 ≤ (122 : Int))) = AV.bool false ∧ AV.bool (decide (c0 ≥ (65 : Int))) = AV.bool false ∧ AV.bool (decide (c0 ≥ (48 : Int))) = AV.bool true ∧ AV.bool (decide (c0 ≤ (57 : Int))) = AV.bool true ∧ True) (by kernel_rfl) ⟨trivial, ⟨congrArg AV.bool c1, congrArg AV.bool c2, congrArg AV.bool c3, congrArg AV.bool c7, congrArg AV.bool c8, trivial⟩⟩ ?_
            refine ends_ret ?_
            have H := Option.some.inj H
            subst H
            exact ⟨.inl rfl, ⟨.bool true, by kernel_rfl, frb (fb_bool)⟩⟩
          · have H := ifn c8 H
            refine er [] [(2, .bool true, none), (6, .bool false, none), (9, .bool false, none), (17, .bool true, none), (22, .bool false, none)] ⟨[.any, .bool (c0 == (95 : Int))], [], h⟩ ((True) ∧ AV.bool (decide (c0 ≥ (97 : Int))) = AV.bool true ∧ AV.bool (decide (c0 ≤ (122 : Int))) = AV.bool false ∧ AV.bool (decide (c0 ≥ (65 : Int))) = AV.bool false ∧ AV.bool (decide (c0 ≥ (48 : Int))) = AV.bool true ∧ AV.bool (decide (c0 ≤ (57 : Int))) = AV.bool false ∧ True) (by kernel_rfl) ⟨trivial, ⟨congrArg AV.bool c1, congrArg AV.bool c2, congrArg AV.bool c3, congrArg AV.bool c7, congrArg AV.bool c8, trivial⟩⟩ ?_
            refine ends_ret ?_
            have H := Option.some.inj H
            subst H
            exact ⟨.inl rfl, ⟨.bool (c0 == (95 : Int)), by kernel_rfl, frb (fb_bool)⟩⟩
        · have H := ifn c7 H
          refine er [] [(2, .bool true, none), (6, .bool false, none), (9, .bool false, none), (17, .bool false, none)] ⟨[.any, .bool (c0 == (95 : Int))], [], h⟩ ((True) ∧ AV.bool (decide (c0 ≥ (97 : Int))) = AV.bool true ∧ AV.bool (decide (c0 ≤ (122 : Int))) = AV.bool false ∧ AV.bool (decide (c0 ≥ (65 : Int))) = AV.bool false ∧ AV.bool (decide (c0 ≥ (48 : Int))) = AV.bool false ∧ True) (by kernel_rfl) ⟨trivial, ⟨congrArg AV.bool c1, congrArg AV.bool c2, congrArg AV.bool c3, congrArg AV.bool c7, trivial⟩⟩ ?_
          refine ends_ret ?_
          have H := Option.some.inj H
          subst H
          exact ⟨.inl rfl, ⟨.bool (c0 == (95 : Int)), by kernel_rfl, frb (fb_bool)⟩⟩
  · have H := ifn c1 H
    rcases bft (decide (c0 ≥ (65 : Int))) with c9 | c9
    · have H := ifp c9 H
      rcases bft (decide (c0 ≤ (90 : Int))) with c10 | c10
      · have H := ifp c10 H
        refine er [] [(2, .bool false, none), (9, .bool true, none), (14, .bool true, none)] ⟨[.any, .bool true], [], h⟩ ((True) ∧ AV.bool (decide (c0 ≥ (97 : Int))) = AV.bool false ∧ AV.bool (decide (c0 ≥ (65 : Int))) = AV.bool true ∧ AV.bool (decide (c0 ≤ (90 : Int))) = AV.bool true ∧ True) (by kernel_rfl) ⟨trivial, ⟨congrArg AV.bool c1, congrArg AV.bool c9, congrArg AV.bool c10, trivial⟩⟩ ?_
        refine ends_ret ?_
        have H := Option.some.inj H
        subst H
        exact ⟨.inl rfl, ⟨.bool true, by kernel_rfl, frb (fb_bool)⟩⟩
      · have H := ifn c10 H
        rcases bft (decide (c0 ≥ (48 : Int))) with c11 | c11
        · have H := ifp c11 H
          rcases bft (decide (c0 ≤ (57 : Int))) with c12 | c12
          · have H := ifp c12 H
            refine er [] [(2, .bool false, none), (9, .bool true, none), (14, .bool false, none), (17, .bool true, none), (22, .bool true, none)] ⟨[.any, .bool true], [], h⟩ ((True) ∧ AV.bool (decide (c0 ≥ (97 : Int))) = AV.bool false ∧ AV.bool (decide (c0 ≥ (65 : Int))) = AV.bool true ∧ AV.bool (decide (c0 ≤ (90 : Int))) = AV.bool false ∧ AV.bool (decide (c0 ≥ (48 : Int))) = AV.bool true ∧ AV.bool (decide (c0 ≤ (57 : Int))) = AV.bool true ∧ True) (by kernel_rfl) ⟨trivial, ⟨congrArg AV.bool c1, congrArg AV.bool c9, congrArg AV.bool c10, congrArg AV.bool c11, congrArg AV.bool c12, trivial⟩⟩ ?_
            refine ends_ret ?_
            have H := Option.some.inj H
            subst H
            exact ⟨.inl rfl, ⟨.bool true, by kernel_rfl, frb (fb_bool)⟩⟩
          · have H := ifn c12 H
            refine er [] [(2, .bool false, none), (9, .bool true, none), (14, .bool false, none), (17, .bool true, none), (22, .bool false, none)] ⟨[.any, .bool (c0 == (95 : Int))], [], h⟩ ((True) ∧ AV.bool (decide (c0 ≥ (97 : Int))) = AV.bool false ∧ AV.bool (decide (c0 ≥ (65 : Int))) = AV.bool true ∧ AV.bool (decide (c0 ≤ (90 : Int))) = AV.bool false ∧ AV.bool (decide (c0 ≥ (48 : Int))) = AV.bool true ∧ AV.bool (decide (c0 ≤ (57 : Int))) = AV.bool false ∧ True) (by kernel_rfl) ⟨trivial, ⟨congrArg AV.bool c1, congrArg AV.bool c9, congrArg AV.bool c10, congrArg AV.bool c11, congrArg AV.bool c12, trivial⟩⟩ ?_
            refine ends_ret ?_
            have H := Option.some.inj H
            subst H
            exact ⟨.inl rfl, ⟨.bool (c0 == (95 : Int)), by kernel_rfl, frb (fb_bool)⟩⟩
        · have H := ifn c11 H
          refine er [] [(2, .bool false, none), (9, .bool true, none), (14, .bool false, none), (17, .bool false, none)] ⟨[.any, .bool (c0 == (95 : Int))], [], h⟩ ((True) ∧ AV.bool (decide (c0 ≥ (97 : Int))) = AV.bool false ∧ AV.bool (decide (c0 ≥ (65 : Int))) = AV.bool true ∧ AV.bool (decide (c0 ≤ (90 : Int))) = AV.bool false ∧ AV.bool (decide (c0 ≥ (48 : Int))) = AV.bool false ∧ True) (by kernel_rfl) ⟨trivial, ⟨congrArg AV.bool c1, congrArg AV.bool c9, congrArg AV.bool c10, congrArg AV.bool c11, trivial⟩⟩ ?_
          refine ends_ret ?_
          have H := Option.some.inj H
          subst H
          exact ⟨.inl rfl, ⟨.bool (c0 == (95 : Int)), by kernel_rfl, frb (fb_bool)⟩⟩
    · have H := ifn c9 H
      rcases bft (decide (c0 ≥ (48 : Int))) with c13 | c13
      · have H := ifp c13 H
        rcases bft (decide (c0 ≤ (57 : Int))) with c14 | c14
        · have H := ifp c14 H
          refine er [] [(2, .bool false, none), (9, .bool false, none), (17, .bool true, none), (22, .bool true, none)] ⟨[.any, .bool true], [], h⟩ ((True) ∧ AV.bool (decide (c0 ≥ (97 : Int))) = AV.bool false ∧ AV.bool (decide (c0 ≥ (65 : Int))) = AV.bool false ∧ AV.bool (decide (c0 ≥ (48 : Int))) = AV.bool true ∧ AV.bool (decide (c0 ≤ (57 : Int))) = AV.bool true ∧ True) (by kernel_rfl) ⟨trivial, ⟨congrArg AV.bool c1, congrArg AV.bool c9, congrArg AV.bool c13, congrArg AV.bool c14, trivial⟩⟩ ?_
          refine ends_ret ?_
          have H := Option.some.inj H
          subst H
          exact ⟨.inl rfl, ⟨.bool true, by kernel_rfl, frb (fb_bool)⟩⟩
        · have H := ifn c14 H
          refine er [] [(2, .bool false, none), (9, .bool false, none), (17, .bool true, none), (22, .bool false, none)] ⟨[.any, .bool (c0 == (95 : Int))], [], h⟩ ((True) ∧ AV.bool (decide (c0 ≥ (97 : Int))) = AV.bool false ∧ AV.bool (decide (c0 ≥ (65 : Int))) = AV.bool false ∧ AV.bool (decide (c0 ≥ (48 : Int))) = AV.bool true ∧ AV.bool (decide (c0 ≤ (57 : Int))) = AV.bool false ∧ True) (by kernel_rfl) ⟨trivial, ⟨congrArg AV.bool c1, congrArg AV.bool c9, congrArg AV.bool c13, congrArg AV.bool c14, trivial⟩⟩ ?_
          refine ends_ret ?_
          have H := Option.some.inj H
          subst H
          exact ⟨.inl rfl, ⟨.bool (c0 == (95 : Int)), by kernel_rfl, frb (fb_bool)⟩⟩
      · have H := ifn c13 H
        refine er [] [(2, .bool false, none), (9, .bool false, none), (17, .bool false, none)] ⟨[.any, .bool (c0 == (95 : Int))], [], h⟩ ((True) ∧ AV.bool (decide (c0 ≥ (97 : Int))) = AV.bool false ∧ AV.bool (decide (c0 ≥ (65 : Int))) = AV.bool false ∧ AV.bool (decide (c0 ≥ (48 : Int))) = AV.bool false ∧ True) (by kernel_rfl) ⟨trivial, ⟨congrArg AV.bool c1, congrArg AV.bool c9, congrArg AV.bool c13, trivial⟩⟩ ?_
        refine ends_ret ?_
        have H := Option.some.inj H
        subst H
        exact ⟨.inl rfl, ⟨.bool (c0 == (95 : Int)), by kernel_rfl, frb (fb_bool)⟩⟩
end
end Go.Proofs.YtmekcfdllhphlaaDoor

namespace Go.Proofs.YtmekcfdllhphlaaDoor
open Go Go.R
open Go.IntKind (i64 u64 u8 u32)
def ann106 : Ann := { keep := [0, 1, 2, 6, 7, 27, 29, 30, 31, 37], locs := [], dead := [(0, [6, 7, 27, 29, 30, 31, 37]), (1, [1, 2, 6, 7, 29, 30, 31, 37]), (2, [0, 1, 2, 7, 27, 29, 30, 31, 37]), (3, [1, 2, 6, 7, 27, 31, 37]), (4, [1, 2, 6, 7, 27, 37]), (5, [1, 2, 6, 27, 31, 37]), (6, [1, 2, 6, 7, 27, 31]), (7, [0, 1, 2, 7, 27, 29, 30, 31, 37]), (8, [1, 2, 6, 7, 27, 31, 37]), (9, [0, 1, 2, 7, 27, 29, 30, 31, 37])], frz := [], frz2 := [] }
noncomputable def g106R0 := sub [0] (codeOf Tryd.f106)
noncomputable def g106R1 := sub [1, 0, 0] (codeOf Tryd.f106)
noncomputable def g106R2 := sub [1, 0, 1, 0, 0] (codeOf Tryd.f106)
noncomputable def g106R3 := sub [1, 1, 0, 0] (codeOf Tryd.f106)
noncomputable def g106L0 := sub [1, 1, 0, 1, 0, 0] (codeOf Tryd.f106)
noncomputable def g106R4 := sub [1, 1, 0, 1, 0, 0, 0] (codeOf Tryd.f106)
noncomputable def g106R5 := sub [1, 1, 0, 1, 0, 0, 1, 1, 0, 0, 0] (codeOf Tryd.f106)
noncomputable def g106R6 := sub [1, 1, 0, 1, 0, 0, 1, 1, 0, 0, 1, 0] (codeOf Tryd.f106)
noncomputable def g106R7 := sub [1, 1, 0, 1, 0, 0, 1, 1, 0, 0, 1, 1, 0, 0] (codeOf Tryd.f106)
noncomputable def g106R8 := sub [1, 1, 0, 1, 0, 0, 1, 1, 1] (codeOf Tryd.f106)
noncomputable def g106R9 := sub [1, 1, 1, 0] (codeOf Tryd.f106)
theorem g106L0_eq : g106L0 = (.seq g106R4 (.seq (.cond (.tmp 31) .skip (.exit 0)) (.seq (.block 1 (.seq g106R5 (.seq g106R6 (.cond (.tmp 37) (.seq g106R7 .ret) .skip)))) g106R8))) := by kernel_rfl
theorem g106_eq : codeOf Tryd.f106 = (.seq g106R0 (.seq (.seq g106R1 (.cond (.tmp 27) (.seq g106R2 .ret) .skip)) (.seq (.seq g106R3 (.block 0 (.loop g106L0))) (.seq g106R9 .ret)))) := by kernel_rfl
def tree_Word.l0 (m : Nat) (s0 : ByteArray) : Nat → Int → Option (Sum Bool (Int))
  | 0, _ => none
  | k + 1, x0 => if (decide (x0 < (s0.size : Int))) = true then ((bt s0 x0).bind fun v2 => (tree_letter.f m v2).bind fun x1 => if (!x1) = true then (some (.inl false)) else (tree_Word.l0 m s0 k (i64.wrap (x0 + (1 : Int))))) else (some (.inr x0))
def tree_Word.f (m : Nat) (s0 : ByteArray) (first0 : Int) (last0 : Int) : Option (Bool) := if (decide ((s0.size : Int) < (1 : Int))) = true then (some false) else (if (decide ((s0.size : Int) > (16 : Int))) = true then (some false) else ((bt s0 (0 : Int)).bind fun v0 => if (decide (v0 < first0)) = true then (some false) else ((bt s0 (0 : Int)).bind fun v1 => if (decide (v1 > last0)) = true then (some false) else ((tree_Word.l0 m s0 m (0 : Int)).bind fun out0 => match out0 with | .inl r0 => some r0 | .inr x2 => some true))))
def tree_Word.fin (L : Mem) (r : Bool) (s : St) : Prop := ∃ av, resultA Tryd.prog (s.open ann106) Tryd.f106.results.toList = some av ∧ Frb s.h av (.bool r)
def S106 (cf : CallF) (m : Nat) : Prop := ∀ (s0 : ByteArray) (first0 : Int) (last0 : Int) (r : Bool), tree_Word.f m s0 first0 last0 = some r → ∀ h xs, FrzS 1000 h xs [.str s0, .int .u8 first0, .int .u8 last0] → cf 106 xs h = some (.bool r, h)
section
variable {cf : CallF} {m : Nat}
def tree_Word.l0.R (L : Mem) (s0 : ByteArray) (σ : Int) (s : St) : Prop :=
  match σ with
  | x0 => ∃ (g0 : AV) (g1 : AV) (g2 : AV) (h0 : AHeap), s = ⟨.str s0 :: Ay4 [g0, .int .i64 (s0.size : Int), .int .i64 x0, g1, g2], [], h0⟩ ∧ Has h0 (L)
def tree_Word.l0.Q (L : Mem) (s0 : ByteArray) (out : Sum Bool (Int)) (e : Ex) (s : St) : Prop :=
  (e = .exit 0 ∧ ∃ (x0 : Int), .inr x0 = out ∧ ∃ (x0_ : AV) (x27_ : AV) (x29_ : AV) (x30_ : AV) (x31_ : AV) (x37_ : AV) (h0 : AHeap), s = ⟨x0_ :: Ay4 [x27_, x29_, x30_, x31_, x37_], [], h0⟩ ∧ Has h0 (L)) ∨ (e = .ret ∧ ∃ r, .inl r = out ∧ tree_Word.fin L r s)
theorem tree_Word.l0_ok (L : Mem) (s0 : ByteArray)  (S118_ : S118 cf m) {σ : Int} {s : St} {out : Sum Bool (Int)} (hr : tree_Word.l0.R L s0 σ s) (H : (fun k σ => tree_Word.l0 m s0 k σ) m σ = some out) : Enz Tryd.prog cf ann106 m (.loop g106L0) s (tree_Word.l0.Q L s0 out) := by
  refine ends_loop (fun k σ => tree_Word.l0 m s0 k σ) (tree_Word.l0.R L s0) (tree_Word.l0.Q L s0) (fun _ => rfl) ?_ hr H (fun _ _ _ h => h)
  clear hr H σ s out
  rintro k x0 s out ⟨g0, g1, g2, h0, rfl, o0⟩ H
  have H : tree_Word.l0 m s0 (k + 1) x0 = some out := H
  refine ends_of_eq g106L0_eq ?_
  refine sr [] [] ⟨.str s0 :: Ay5 [.int .i64 (s0.size : Int), .int .i64 x0, .bool (decide (x0 < (s0.size : Int))), .any], [], h0⟩ ((True) ∧ True) (by kernel_rfl) ⟨trivial, trivial⟩ ?_
  refine ends_seq ?_
  refine ends_cond (decide (x0 < (s0.size : Int))) (by kernel_rfl) (fun c7 => ?_) (fun c7 => ?_)
  · have H := ifp c7 H
    refine ends_skip ?_
    refine ends_seq ?_
    refine ends_block ?_
    refine sr [] [] ⟨.str s0 :: Ay3 [.int .i64 x0, .any, .int .i64 (s0.size : Int), .int .i64 x0, .any, .any], [], h0⟩ ((True) ∧ True) (by kernel_rfl) ⟨trivial, trivial⟩ ?_
    refine ends_seq ?_
    obtain ⟨v2, e2, H⟩ := bsi H
    obtain ⟨x1, e3, H⟩ := bsi H
    refine er [] [(2, .int .u8 v2, none), (3, .bool x1, some h0)] ⟨.str s0 :: Ay5 [.int .i64 (s0.size : Int), .int .i64 x0, .any, .bool (!x1)], [], h0⟩ ((True) ∧ indexA Tryd.prog 9 (.str s0) (.int .i64 x0) = some (.int .u8 v2) ∧ callO cf (.fn 118 []) [.int .u8 v2] h0 = some (.bool x1, h0) ∧ True) (by kernel_rfl) ⟨trivial, ⟨ix_str U9 e2, callO_of (by kernel_rfl) (S118_ _ _ e3 _ _ (frs (fr_cons (fr_int) (fr_nil)))), trivial⟩⟩ ?_
    refine ends_cond (!x1) (by kernel_rfl) (fun c8 => ?_) (fun c8 => ?_)
    · have H := ifp c8 H
      refine sr [] [] ⟨Ay3 (.bool false :: Ay6 []), [], h0⟩ ((True) ∧ True) (by kernel_rfl) ⟨trivial, trivial⟩ ?_
      refine ends_ret ?_
      have H := Option.some.inj H
      exact Or.inr (⟨rfl, _, H, ⟨.bool false, by kernel_rfl, frb (fb_bool)⟩⟩)
    · have H := ifn c8 H
      refine ends_skip ?_
      refine er [] [] ⟨.str s0 :: Ay5 [.int .i64 (s0.size : Int), .int .i64 (i64.wrap (x0 + (1 : Int))), .any, .any], [], h0⟩ ((True) ∧ True) (by kernel_rfl) ⟨trivial, trivial⟩ ?_
      exact ⟨i64.wrap (x0 + (1 : Int)), ⟨.any, .any, .any, h0, rfl, o0⟩, H⟩
  · have H := ifn c7 H
    refine ends_exit ?_
    have H := Option.some.inj H
    exact Or.inl (⟨rfl, x0, H, .str s0, .any, .int .i64 (s0.size : Int), .int .i64 x0, .bool (decide (x0 < (s0.size : Int))), .any, h0, rfl, o0⟩)
theorem tree_Word_body {ann : FuncId → Ann} (ha : ann 106 = ann106) (S118_ : S118 cf m) (s0 : ByteArray) (first0 : Int) (last0 : Int) (h : AHeap) (L : Mem)  (o : Has h (L)) {out : Bool} (H : tree_Word.f m s0 first0 last0 = some out) :
    ∃ r h', bodyA Tryd.prog ann cf m 106 [.str s0, .int .u8 first0, .int .u8 last0] h = some (r, h') ∧ Frb h' r (.bool out) := by
  refine body_of_ends2 (fn := Tryd.f106) ha Tryd.func106 (by kernel_rfl) (by kernel_rfl) ?_
  refine ends_fin (Q := fun s => tree_Word.fin L out s) (fun _ _ h => h) ?_
  refine ends_of_eq g106_eq ?_
  have H : _ = some out := H
  unfold tree_Word.f at H
  show Enz _ cf ann106 m _ ⟨.str s0 :: .int .u8 first0 :: .int .u8 last0 :: Ay7 [], [], h⟩ _
  refine sr [] [] ⟨.str s0 :: .int .u8 first0 :: .int .u8 last0 :: Ay7 [], [], h⟩ ((True) ∧ True) (by kernel_rfl) ⟨trivial, trivial⟩ ?_
  refine ends_seq ?_
  refine ends_seq ?_
  rcases bft (decide ((s0.size : Int) < (1 : Int))) with c0 | c0
  · have H := ifp c0 H
    refine er [] [(3, .bool true, none)] ⟨.str s0 :: Ay4 (.bool true :: Ay4 []), [], h⟩ ((True) ∧ AV.bool (decide ((s0.size : Int) < (1 : Int))) = AV.bool true ∧ True) (by kernel_rfl) ⟨trivial, ⟨congrArg AV.bool c0, trivial⟩⟩ ?_
    refine ends_cond true (by kernel_rfl) (fun c1 => ?_) (fun c1 => ?_)
    rotate_left
    · cases c1
    refine sr [] [] ⟨Ay3 (.bool false :: Ay6 []), [], h⟩ ((True) ∧ True) (by kernel_rfl) ⟨trivial, trivial⟩ ?_
    refine ends_ret ?_
    have H := Option.some.inj H
    subst H
    exact ⟨.inl rfl, ⟨.bool false, by kernel_rfl, frb (fb_bool)⟩⟩
  · have H := ifn c0 H
    rcases bft (decide ((s0.size : Int) > (16 : Int))) with c2 | c2
    · have H := ifp c2 H
      refine er [] [(3, .bool false, none), (8, .bool true, none)] ⟨.str s0 :: Ay4 (.bool true :: Ay4 []), [], h⟩ ((True) ∧ AV.bool (decide ((s0.size : Int) < (1 : Int))) = AV.bool false ∧ AV.bool (decide ((s0.size : Int) > (16 : Int))) = AV.bool true ∧ True) (by kernel_rfl) ⟨trivial, ⟨congrArg AV.bool c0, congrArg AV.bool c2, trivial⟩⟩ ?_
      refine ends_cond true (by kernel_rfl) (fun c3 => ?_) (fun c3 => ?_)
      rotate_left
      · cases c3
      refine sr [] [] ⟨Ay3 (.bool false :: Ay6 []), [], h⟩ ((True) ∧ True) (by kernel_rfl) ⟨trivial, trivial⟩ ?_
      refine ends_ret ?_
      have H := Option.some.inj H
      subst H
      exact ⟨.inl rfl, ⟨.bool false, by kernel_rfl, frb (fb_bool)⟩⟩
    · have H := ifn c2 H
      obtain ⟨v0, e0, H⟩ := bsi H
      rcases bft (decide (v0 < first0)) with c4 | c4
      · have H := ifp c4 H
        refine er [] [(3, .bool false, none), (8, .bool false, none), (10, .int .u8 v0, none), (14, .bool true, none)] ⟨.str s0 :: Ay4 (.bool true :: Ay4 []), [], h⟩ ((True) ∧ AV.bool (decide ((s0.size : Int) < (1 : Int))) = AV.bool false ∧ AV.bool (decide ((s0.size : Int) > (16 : Int))) = AV.bool false ∧ indexA Tryd.prog 9 (.str s0) (.int .i64 (0 : Int)) = some (.int .u8 v0) ∧ AV.bool (decide (v0 < first0)) = AV.bool true ∧ True) (by kernel_rfl) ⟨trivial, ⟨congrArg AV.bool c0, congrArg AV.bool c2, ix_str U9 e0, congrArg AV.bool c4, trivial⟩⟩ ?_
        refine ends_cond true (by kernel_rfl) (fun c5 => ?_) (fun c5 => ?_)
        rotate_left
        · cases c5
        refine sr [] [] ⟨Ay3 (.bool false :: Ay6 []), [], h⟩ ((True) ∧ True) (by kernel_rfl) ⟨trivial, trivial⟩ ?_
        refine ends_ret ?_
        have H := Option.some.inj H
        subst H
        exact ⟨.inl rfl, ⟨.bool false, by kernel_rfl, frb (fb_bool)⟩⟩
      · have H := ifn c4 H
        obtain ⟨v1, e1, H⟩ := bsi H
        refine er [] [(3, .bool false, none), (8, .bool false, none), (10, .int .u8 v0, none), (14, .bool false, none), (16, .int .u8 v1, none)] ⟨.str s0 :: Ay4 (.bool (decide (v1 > last0)) :: Ay4 []), [], h⟩ ((True) ∧ AV.bool (decide ((s0.size : Int) < (1 : Int))) = AV.bool false ∧ AV.bool (decide ((s0.size : Int) > (16 : Int))) = AV.bool false ∧ indexA Tryd.prog 9 (.str s0) (.int .i64 (0 : Int)) = some (.int .u8 v0) ∧ AV.bool (decide (v0 < first0)) = AV.bool false ∧ indexA Tryd.prog 9 (.str s0) (.int .i64 (0 : Int)) = some (.int .u8 v1) ∧ True) (by kernel_rfl) ⟨trivial, ⟨congrArg AV.bool c0, congrArg AV.bool c2, ix_str U9 e0, congrArg AV.bool c4, ix_str U9 e1, trivial⟩⟩ ?_
        refine ends_cond (decide (v1 > last0)) (by kernel_rfl) (fun c6 => ?_) (fun c6 => ?_)
        · have H := ifp c6 H
          refine sr [] [] ⟨Ay3 (.bool false :: Ay6 []), [], h⟩ ((True) ∧ True) (by kernel_rfl) ⟨trivial, trivial⟩ ?_
          refine ends_ret ?_
          have H := Option.some.inj H
          subst H
          exact ⟨.inl rfl, ⟨.bool false, by kernel_rfl, frb (fb_bool)⟩⟩
        · have H := ifn c6 H
          refine ends_skip ?_
          refine ends_seq ?_
          refine sr [] [] ⟨.str s0 :: Ay5 [.int .i64 (s0.size : Int), .int .i64 (0 : Int), .any, .any], [], h⟩ ((True) ∧ True) (by kernel_rfl) ⟨trivial, trivial⟩ ?_
          refine ends_block ?_
          obtain ⟨out0, e4, H⟩ := bsi H
          refine ends_mono (tree_Word.l0_ok L s0  S118_ (σ := (0 : Int)) ⟨.any, .any, .any, h, rfl, o⟩ e4) ?_
          rintro e s (⟨rfl, x2, rfl, g3, g4, g5, g6, g7, g8, h1, rfl, o1⟩ | ⟨rfl, r0, rfl, hf0⟩)
          · try dsimp only at H
            refine sr [] [] ⟨Ay3 (.bool true :: Ay6 []), [], h1⟩ ((True) ∧ True) (by kernel_rfl) ⟨trivial, trivial⟩ ?_
            refine ends_ret ?_
            have H := Option.some.inj H
            subst H
            exact ⟨.inl rfl, ⟨.bool true, by kernel_rfl, frb (fb_bool)⟩⟩
          · try dsimp only at H
            have H := Option.some.inj H
            subst H
            exact ⟨.inl rfl, hf0⟩
end
end Go.Proofs.YtmekcfdllhphlaaDoor

namespace Go.Proofs.YtmekcfdllhphlaaDoor
open Go Go.R
open Go.IntKind (i64 u64 u8 u32)
def ann77 : Ann := { keep := [0, 2], locs := [], dead := [(0, [2]), (1, [0])], frz := [], frz2 := [] }
noncomputable def g77R0 := sub [0] (codeOf Tryd.f77)
noncomputable def g77R1 := sub [1, 0] (codeOf Tryd.f77)
theorem g77_eq : codeOf Tryd.f77 = (.seq g77R0 (.seq g77R1 .ret)) := by kernel_rfl
def tree_Atom.f (m : Nat) (s0 : ByteArray) : Option (Bool) := if (s0.data.toList == (ByteArray.mk #[124]).data.toList) = true then (some true) else (if (s0.data.toList == (ByteArray.mk #[35]).data.toList) = true then (some true) else ((tree_Word.f m s0 (97 : Int) (122 : Int)).bind fun x0 => some x0))
def tree_Atom.fin (L : Mem) (r : Bool) (s : St) : Prop := ∃ av, resultA Tryd.prog (s.open ann77) Tryd.f77.results.toList = some av ∧ Frb s.h av (.bool r)
def S77 (cf : CallF) (m : Nat) : Prop := ∀ (s0 : ByteArray) (r : Bool), tree_Atom.f m s0 = some r → ∀ h xs, FrzS 1000 h xs [.str s0] → cf 77 xs h = some (.bool r, h)
section
variable {cf : CallF} {m : Nat}
theorem tree_Atom_body {ann : FuncId → Ann} (ha : ann 77 = ann77) (S106_ : S106 cf m) (s0 : ByteArray) (h : AHeap) (L : Mem)  (o : Has h (L)) {out : Bool} (H : tree_Atom.f m s0 = some out) :
    ∃ r h', bodyA Tryd.prog ann cf m 77 [.str s0] h = some (r, h') ∧ Frb h' r (.bool out) := by
  refine body_of_ends2 (fn := Tryd.f77) ha Tryd.func77 (by kernel_rfl) (by kernel_rfl) ?_
  refine ends_fin (Q := fun s => tree_Atom.fin L out s) (fun _ _ h => h) ?_
  refine ends_of_eq g77_eq ?_
  have H : _ = some out := H
  unfold tree_Atom.f at H
  show Enz _ cf ann77 m _ ⟨[.str s0, .any], [], h⟩ _
  refine sr [] [] ⟨[.str s0, .any], [], h⟩ ((True) ∧ True) (by kernel_rfl) ⟨trivial, trivial⟩ ?_
  refine ends_seq ?_
  rcases bft (s0.data.toList == (ByteArray.mk #[124]).data.toList) with c0 | c0
  · have H := ifp c0 H
    refine er [] [(2, .bool true, none)] ⟨[.any, .bool true], [], h⟩ ((True) ∧ AV.bool (s0.data.toList == (ByteArray.mk #[124]).data.toList) = AV.bool true ∧ True) (by kernel_rfl) ⟨trivial, ⟨congrArg AV.bool c0, trivial⟩⟩ ?_
    refine ends_ret ?_
    have H := Option.some.inj H
    subst H
    exact ⟨.inl rfl, ⟨.bool true, by kernel_rfl, frb (fb_bool)⟩⟩
  · have H := ifn c0 H
    rcases bft (s0.data.toList == (ByteArray.mk #[35]).data.toList) with c1 | c1
    · have H := ifp c1 H
      refine er [] [(2, .bool false, none), (6, .bool true, none)] ⟨[.any, .bool true], [], h⟩ ((True) ∧ AV.bool (s0.data.toList == (ByteArray.mk #[124]).data.toList) = AV.bool false ∧ AV.bool (s0.data.toList == (ByteArray.mk #[35]).data.toList) = AV.bool true ∧ True) (by kernel_rfl) ⟨trivial, ⟨congrArg AV.bool c0, congrArg AV.bool c1, trivial⟩⟩ ?_
      refine ends_ret ?_
      have H := Option.some.inj H
      subst H
      exact ⟨.inl rfl, ⟨.bool true, by kernel_rfl, frb (fb_bool)⟩⟩
    · have H := ifn c1 H
      obtain ⟨x0, e0, H⟩ := bsi H
      refine er [] [(2, .bool false, none), (6, .bool false, none), (8, .bool x0, some h)] ⟨[.any, .bool x0], [], h⟩ ((True) ∧ AV.bool (s0.data.toList == (ByteArray.mk #[124]).data.toList) = AV.bool false ∧ AV.bool (s0.data.toList == (ByteArray.mk #[35]).data.toList) = AV.bool false ∧ callO cf (.fn 106 []) [.str s0, .int .u8 (97 : Int), .int .u8 (122 : Int)] h = some (.bool x0, h) ∧ True) (by kernel_rfl) ⟨trivial, ⟨congrArg AV.bool c0, congrArg AV.bool c1, callO_of (by kernel_rfl) (S106_ _ _ _ _ e0 _ _ (frs (fr_cons (fr_str) (fr_cons (fr_int) (fr_cons (fr_int) (fr_nil)))))), trivial⟩⟩ ?_
      refine ends_ret ?_
      have H := Option.some.inj H
      subst H
      exact ⟨.inl rfl, ⟨.bool x0, by kernel_rfl, frb (fb_bool)⟩⟩
end
end Go.Proofs.YtmekcfdllhphlaaDoor

namespace Go.Proofs.YtmekcfdllhphlaaDoor
open Go Go.R
open Go.IntKind (i64 u64 u8 u32)
def ann107 : Ann := { keep := [0, 1, 4, 5, 7, 8, 9, 16], locs := [], dead := [(0, [4, 5, 7, 8, 9, 16]), (1, [4, 5, 9, 16]), (2, [4, 5, 16]), (3, [4, 9, 16]), (4, [4, 9]), (5, [0, 1, 5, 7, 8, 9, 16]), (6, [4, 5, 9, 16]), (7, [0, 1, 5, 7, 8, 9, 16])], frz := [], frz2 := [] }
noncomputable def g107R0 := sub [0] (codeOf Tryd.f107)
noncomputable def g107R1 := sub [1, 0, 0] (codeOf Tryd.f107)
noncomputable def g107L0 := sub [1, 0, 1, 0, 0] (codeOf Tryd.f107)
noncomputable def g107R2 := sub [1, 0, 1, 0, 0, 0] (codeOf Tryd.f107)
noncomputable def g107R3 := sub [1, 0, 1, 0, 0, 1, 1, 0, 0, 0] (codeOf Tryd.f107)
noncomputable def g107R4 := sub [1, 0, 1, 0, 0, 1, 1, 0, 0, 1, 0] (codeOf Tryd.f107)
noncomputable def g107R5 := sub [1, 0, 1, 0, 0, 1, 1, 0, 0, 1, 1, 0, 0] (codeOf Tryd.f107)
noncomputable def g107R6 := sub [1, 0, 1, 0, 0, 1, 1, 1] (codeOf Tryd.f107)
noncomputable def g107R7 := sub [1, 1, 0] (codeOf Tryd.f107)
theorem g107L0_eq : g107L0 = (.seq g107R2 (.seq (.cond (.tmp 9) .skip (.exit 0)) (.seq (.block 1 (.seq g107R3 (.seq g107R4 (.cond (.tmp 16) (.seq g107R5 .ret) .skip)))) g107R6))) := by kernel_rfl
theorem g107_eq : codeOf Tryd.f107 = (.seq g107R0 (.seq (.seq g107R1 (.block 0 (.loop g107L0))) (.seq g107R7 .ret))) := by kernel_rfl
def IndexFI.l0 (m : Nat) (s0 : List Int) (f0 : Int → Option (Bool)) : Nat → Int → Option (Sum Int (Int))
  | 0, _ => none
  | k + 1, x0 => if (decide (x0 < (s0.length : Int))) = true then ((ix s0 x0).bind fun v0 => (f0 v0).bind fun r0 => if r0 = true then (some (.inl x0)) else (IndexFI.l0 m s0 f0 k (i64.wrap (x0 + (1 : Int))))) else (some (.inr x0))
def IndexFI.f (m : Nat) (s0 : List Int) (f0 : Int → Option (Bool)) : Option (Int) := (IndexFI.l0 m s0 f0 m (0 : Int)).bind fun out0 => match out0 with | .inl r1 => some r1 | .inr x1 => some (-1 : Int)
def IndexFI.fin (h : AHeap) (r : Int) (s : St) : Prop := resultA Tryd.prog (s.open ann107) Tryd.f107.results.toList = some (.int .i64 r) ∧ s.h = h
def S107 (cf : CallF) (m : Nat) : Prop := ∀ (s0 : List Int) (f0 : Int → Option (Bool)) (r : Int), IndexFI.f m s0 f0 = some r → ∀ h, 0 < h.next → ∀ (g1_ : FuncId) (cap1_ : List AV), canonArg (.fn g1_ cap1_) = .fn g1_ cap1_ → (∀ (a0 : Int) r, f0 a0 = some r → cf g1_ ([.int .i64 a0] ++ cap1_) h = some (.bool r, h)) → ∀ xs, xs.map canonArg = [eInt.fz s0, .fn g1_ cap1_] → cf 107 xs h = some (.int .i64 r, h)
section
variable {cf : CallF} {m : Nat}
def IndexFI.l0.R (h : AHeap) (L : Mem) (g1_ : FuncId) (cap1_ : List AV) (s0 : List Int) (f0 : Int → Option (Bool)) (σ : Int) (s : St) : Prop :=
  match σ with
  | x0 => ∃ (g0 : AV) (g1 : AV), s = ⟨[eInt.fz s0, .fn g1_ cap1_, .any, .any, .int .i64 (s0.length : Int), .int .i64 x0, g0, g1], [], h⟩ ∧ Has h (L)
def IndexFI.l0.Q (h : AHeap) (L : Mem) (g1_ : FuncId) (cap1_ : List AV) (s0 : List Int) (f0 : Int → Option (Bool)) (out : Sum Int (Int)) (e : Ex) (s : St) : Prop :=
  (e = .exit 0 ∧ ∃ (x0 : Int), .inr x0 = out ∧ ∃ (x0_ : AV) (x1_ : AV) (x7_ : AV) (x8_ : AV) (x9_ : AV) (x16_ : AV), s = ⟨[x0_, x1_, .any, .any, x7_, x8_, x9_, x16_], [], h⟩ ∧ Has h (L)) ∨ (e = .ret ∧ ∃ r, .inl r = out ∧ IndexFI.fin h r s)
theorem IndexFI.l0_ok (h : AHeap) (L : Mem) (g1_ : FuncId) (cap1_ : List AV) (s0 : List Int) (f0 : Int → Option (Bool))  (hc1_ : canonArg (.fn g1_ cap1_) = .fn g1_ cap1_) (Hp1_ : ∀ (a0 : Int) r, f0 a0 = some r → cf g1_ ([.int .i64 a0] ++ cap1_) h = some (.bool r, h))  {σ : Int} {s : St} {out : Sum Int (Int)} (hr : IndexFI.l0.R h L g1_ cap1_ s0 f0 σ s) (H : (fun k σ => IndexFI.l0 m s0 f0 k σ) m σ = some out) : Enz Tryd.prog cf ann107 m (.loop g107L0) s (IndexFI.l0.Q h L g1_ cap1_ s0 f0 out) := by
  refine ends_loop (fun k σ => IndexFI.l0 m s0 f0 k σ) (IndexFI.l0.R h L g1_ cap1_ s0 f0) (IndexFI.l0.Q h L g1_ cap1_ s0 f0) (fun _ => rfl) ?_ hr H (fun _ _ _ h => h)
  clear hr H σ s out
  rintro k x0 s out ⟨g0, g1, rfl, o0⟩ H
  have H : IndexFI.l0 m s0 f0 (k + 1) x0 = some out := H
  refine ends_of_eq g107L0_eq ?_
  refine sr [] [] ⟨[eInt.fz s0, .fn g1_ cap1_, .any, .any, .int .i64 (s0.length : Int), .int .i64 x0, .bool (decide (x0 < (s0.length : Int))), .any], [], h⟩ ((True) ∧ True) (by kernel_rfl) ⟨trivial, trivial⟩ ?_
  refine ends_seq ?_
  refine ends_cond (decide (x0 < (s0.length : Int))) (by kernel_rfl) (fun c0 => ?_) (fun c0 => ?_)
  · have H := ifp c0 H
    refine ends_skip ?_
    refine ends_seq ?_
    refine ends_block ?_
    refine sr [] [] ⟨[eInt.fz s0, .fn g1_ cap1_, .any, .int .i64 x0, .int .i64 (s0.length : Int), .int .i64 x0, .any, .any], [], h⟩ ((True) ∧ True) (by kernel_rfl) ⟨trivial, trivial⟩ ?_
    refine ends_seq ?_
    obtain ⟨v0, e0, H⟩ := bsi H
    obtain ⟨r0, e1, H⟩ := bsi H
    refine er [] [(3, .fp (eInt.l s0) (x0.toNat * 1), none), (4, .int .i64 v0, none), (5, .bool r0, some h)] ⟨[eInt.fz s0, .fn g1_ cap1_, .any, .int .i64 x0, .int .i64 (s0.length : Int), .int .i64 x0, .any, .bool r0], [], h⟩ ((True) ∧ indexAddrA Tryd.prog 42 (eInt.fz s0) (.int .i64 x0) = some (.fp (eInt.l s0) (x0.toNat * 1)) ∧ loadH Tryd.prog h 3 (.fp (eInt.l s0) (x0.toNat * 1)) = some (.int .i64 v0) ∧ callO cf (.fn g1_ cap1_) [.int .i64 v0] h = some (.bool r0, h) ∧ True) (by kernel_rfl) ⟨trivial, ⟨ia_fz (E := eInt) (l := s0) T42 e0, ld_fz0 (E := eInt) (l := s0) h A3 e0 rfl, callO_of (by kernel_rfl) (Hp1_ _ _ e1), trivial⟩⟩ ?_
    refine ends_cond (r0) (by kernel_rfl) (fun c1 => ?_) (fun c1 => ?_)
    · have H := ifp c1 H
      refine sr [] [] ⟨.any :: .any :: .int .i64 x0 :: Ay5 [], [], h⟩ ((True) ∧ True) (by kernel_rfl) ⟨trivial, trivial⟩ ?_
      refine ends_ret ?_
      have H := Option.some.inj H
      exact Or.inr (⟨rfl, _, H, ⟨by kernel_rfl, rfl⟩⟩)
    · have H := ifn c1 H
      refine ends_skip ?_
      refine er [] [] ⟨[eInt.fz s0, .fn g1_ cap1_, .any, .any, .int .i64 (s0.length : Int), .int .i64 (i64.wrap (x0 + (1 : Int))), .any, .any], [], h⟩ ((True) ∧ True) (by kernel_rfl) ⟨trivial, trivial⟩ ?_
      exact ⟨i64.wrap (x0 + (1 : Int)), ⟨.any, .any, rfl, o0⟩, H⟩
  · have H := ifn c0 H
    refine ends_exit ?_
    have H := Option.some.inj H
    exact Or.inl (⟨rfl, x0, H, eInt.fz s0, .fn g1_ cap1_, .int .i64 (s0.length : Int), .int .i64 x0, .bool (decide (x0 < (s0.length : Int))), .any, rfl, o0⟩)
theorem IndexFI_body {ann : FuncId → Ann} (ha : ann 107 = ann107)  (s0 : List Int) (f0 : Int → Option (Bool)) (h : AHeap) (L : Mem) (g1_ : FuncId) (cap1_ : List AV)  (hc1_ : canonArg (.fn g1_ cap1_) = .fn g1_ cap1_) (Hp1_ : ∀ (a0 : Int) r, f0 a0 = some r → cf g1_ ([.int .i64 a0] ++ cap1_) h = some (.bool r, h)) (o : Has h (L)) {out : Int} (H : IndexFI.f m s0 f0 = some out) :
    ∃ r h', bodyA Tryd.prog ann cf m 107 [eInt.fz s0, .fn g1_ cap1_] h = some (r, h') ∧ r = (.int .i64 out) ∧ h' = h := by
  refine body_of_ends2 (fn := Tryd.f107) ha Tryd.func107 (by kernel_rfl) (by kernel_rfl) ?_
  refine ends_fin (Q := fun s => IndexFI.fin h out s) (fun _ _ ⟨h1, h2, h3⟩ => ⟨h1, _, h2, rfl, h3⟩) ?_
  refine ends_of_eq g107_eq ?_
  have H : _ = some out := H
  unfold IndexFI.f at H
  show Enz _ cf ann107 m _ ⟨eInt.fz s0 :: .fn g1_ cap1_ :: Ay6 [], [], h⟩ _
  refine sr [] [] ⟨eInt.fz s0 :: .fn g1_ cap1_ :: Ay6 [], [], h⟩ ((True) ∧ True) (by kernel_rfl) ⟨trivial, trivial⟩ ?_
  refine ends_seq ?_
  refine sr [] [] ⟨[eInt.fz s0, .fn g1_ cap1_, .any, .any, .int .i64 (s0.length : Int), .int .i64 (0 : Int), .any, .any], [], h⟩ ((True) ∧ True) (by kernel_rfl) ⟨trivial, trivial⟩ ?_
  refine ends_block ?_
  obtain ⟨out0, e2, H⟩ := bsi H
  refine ends_mono (IndexFI.l0_ok h L g1_ cap1_ s0 f0  hc1_ Hp1_  (σ := (0 : Int)) ⟨.any, .any, rfl, o⟩ e2) ?_
  rintro e s (⟨rfl, x1, rfl, g2, g3, g4, g5, g6, g7, rfl, o1⟩ | ⟨rfl, r1, rfl, hf0⟩)
  · try dsimp only at H
    refine sr [] [] ⟨.any :: .any :: .int .i64 (-1 : Int) :: Ay5 [], [], h⟩ ((True) ∧ True) (by kernel_rfl) ⟨trivial, trivial⟩ ?_
    refine ends_ret ?_
    have H := Option.some.inj H
    subst H
    exact ⟨.inl rfl, ⟨by kernel_rfl, rfl⟩⟩
  · try dsimp only at H
    have H := Option.some.inj H
    subst H
    exact ⟨.inl rfl, hf0⟩
end
end Go.Proofs.YtmekcfdllhphlaaDoor

namespace Go.Proofs.YtmekcfdllhphlaaDoor
open Go Go.R
open Go.IntKind (i64 u64 u8 u32)
def ann78 : Ann := { keep := [0, 1, 4], locs := [], dead := [(0, [4]), (1, [0, 1])], frz := [], frz2 := [] }
noncomputable def g78R0 := sub [0] (codeOf Tryd.f78)
noncomputable def g78R1 := sub [1, 0] (codeOf Tryd.f78)
theorem g78_eq : codeOf Tryd.f78 = (.seq g78R0 (.seq g78R1 .ret)) := by kernel_rfl
def ContainsFI.f (m : Nat) (s0 : List Int) (f0 : Int → Option (Bool)) : Option (Bool) := (IndexFI.f m s0 f0).bind fun x0 => some (decide (x0 ≥ (0 : Int)))
def ContainsFI.fin (h : AHeap) (r : Bool) (s : St) : Prop := resultA Tryd.prog (s.open ann78) Tryd.f78.results.toList = some (.bool r) ∧ s.h = h
def S78 (cf : CallF) (m : Nat) : Prop := ∀ (s0 : List Int) (f0 : Int → Option (Bool)) (r : Bool), ContainsFI.f m s0 f0 = some r → ∀ h, 0 < h.next → ∀ (g1_ : FuncId) (cap1_ : List AV), canonArg (.fn g1_ cap1_) = .fn g1_ cap1_ → (∀ (a0 : Int) r, f0 a0 = some r → cf g1_ ([.int .i64 a0] ++ cap1_) h = some (.bool r, h)) → ∀ xs, xs.map canonArg = [eInt.fz s0, .fn g1_ cap1_] → cf 78 xs h = some (.bool r, h)
section
variable {cf : CallF} {m : Nat}
theorem ContainsFI_body {ann : FuncId → Ann} (ha : ann 78 = ann78) (S107_ : S107 cf m) (s0 : List Int) (f0 : Int → Option (Bool)) (h : AHeap) (L : Mem) (g1_ : FuncId) (cap1_ : List AV)  (hc1_ : canonArg (.fn g1_ cap1_) = .fn g1_ cap1_) (Hp1_ : ∀ (a0 : Int) r, f0 a0 = some r → cf g1_ ([.int .i64 a0] ++ cap1_) h = some (.bool r, h)) (o : Has h (L)) {out : Bool} (H : ContainsFI.f m s0 f0 = some out) :
    ∃ r h', bodyA Tryd.prog ann cf m 78 [eInt.fz s0, .fn g1_ cap1_] h = some (r, h') ∧ r = (.bool out) ∧ h' = h := by
  refine body_of_ends2 (fn := Tryd.f78) ha Tryd.func78 (by kernel_rfl) (by kernel_rfl) ?_
  refine ends_fin (Q := fun s => ContainsFI.fin h out s) (fun _ _ ⟨h1, h2, h3⟩ => ⟨h1, _, h2, rfl, h3⟩) ?_
  refine ends_of_eq g78_eq ?_
  have H : _ = some out := H
  unfold ContainsFI.f at H
  show Enz _ cf ann78 m _ ⟨[eInt.fz s0, .fn g1_ cap1_, .any], [], h⟩ _
  refine sr [] [] ⟨[eInt.fz s0, .fn g1_ cap1_, .any], [], h⟩ ((True) ∧ True) (by kernel_rfl) ⟨trivial, trivial⟩ ?_
  refine ends_seq ?_
  obtain ⟨x0, e0, H⟩ := bsi H
  refine er [] [(2, .int .i64 x0, some h)] ⟨[.any, .any, .bool (decide (x0 ≥ (0 : Int)))], [], h⟩ ((True) ∧ callO cf (.fn 107 []) [eInt.fz s0, .fn g1_ cap1_] h = some (.int .i64 x0, h) ∧ True) (by kernel_rfl) ⟨trivial, ⟨callO_of (by kernel_rfl) (S107_ _ _ _ e0 h (Has.pos o) g1_ cap1_ hc1_ Hp1_ _ (can_cons (can_pure (pu_fz (E := eInt))) (can_cons (hc1_) (can_nil)))), trivial⟩⟩ ?_
  refine ends_ret ?_
  have H := Option.some.inj H
  subst H
  exact ⟨.inl rfl, ⟨by kernel_rfl, rfl⟩⟩
end
end Go.Proofs.YtmekcfdllhphlaaDoor

namespace Go.Proofs.YtmekcfdllhphlaaDoor
open Go Go.R
open Go.IntKind (i64 u64 u8 u32)
def ann79 : Ann := { keep := [0, 1, 3], locs := [], dead := [(0, [3]), (1, [0, 1])], frz := [], frz2 := [] }
noncomputable def g79R0 := sub [0] (codeOf Tryd.f79)
noncomputable def g79R1 := sub [1, 0] (codeOf Tryd.f79)
theorem g79_eq : codeOf Tryd.f79 = (.seq g79R0 (.seq g79R1 .ret)) := by kernel_rfl
def tree_node_1.f (m : Nat) (a0 : Int) (x0 : Int) : Option (Bool) := if (decide (a0 < (0 : Int))) = true then (some true) else (some (decide (a0 ≥ x0)))
def tree_node_1.fin (h : AHeap) (r : Bool) (s : St) : Prop := resultA Tryd.prog (s.open ann79) Tryd.f79.results.toList = some (.bool r) ∧ s.h = h
def S79 (cf : CallF) (m : Nat) : Prop := ∀ (a0 : Int) (x0 : Int) (r : Bool), tree_node_1.f m a0 x0 = some r → ∀ h L (qad_x0_ ad_x0 : Nat), Has h L → L[qad_x0_]? = some (ad_x0, .ob [.int .i64 x0]) → cf 79 [.int .i64 a0, .ptr ad_x0 0] h = some (.bool r, h)
section
variable {cf : CallF} {m : Nat}
theorem tree_node_1_body {ann : FuncId → Ann} (ha : ann 79 = ann79)  (a0 : Int) (x0 : Int) (h : AHeap) (L : Mem)  {qad_x0_ ad_x0 : Nat} (hqad_x0_ : L[qad_x0_]? = some (ad_x0, .ob [.int .i64 x0])) (o : Has h (L)) {out : Bool} (H : tree_node_1.f m a0 x0 = some out) :
    ∃ r h', bodyA Tryd.prog ann cf m 79 [.int .i64 a0, .ptr ad_x0 0] h = some (r, h') ∧ r = (.bool out) ∧ h' = h := by
  refine body_of_ends2 (fn := Tryd.f79) ha Tryd.func79 (by kernel_rfl) (by kernel_rfl) ?_
  refine ends_fin (Q := fun s => tree_node_1.fin h out s) (fun _ _ ⟨h1, h2, h3⟩ => ⟨h1, _, h2, rfl, h3⟩) ?_
  refine ends_of_eq g79_eq ?_
  have H : _ = some out := H
  unfold tree_node_1.f at H
  show Enz _ cf ann79 m _ ⟨[.int .i64 a0, .ptr ad_x0 0, .any], [], h⟩ _
  refine sr [] [] ⟨[.int .i64 a0, .ptr ad_x0 0, .any], [], h⟩ ((True) ∧ True) (by kernel_rfl) ⟨trivial, trivial⟩ ?_
  refine ends_seq ?_
  rcases bft (decide (a0 < (0 : Int))) with c0 | c0
  · have H := ifp c0 H
    refine er [] [(2, .bool true, none)] ⟨[.any, .any, .bool true], [], h⟩ ((True) ∧ AV.bool (decide (a0 < (0 : Int))) = AV.bool true ∧ True) (by kernel_rfl) ⟨trivial, ⟨congrArg AV.bool c0, trivial⟩⟩ ?_
    refine ends_ret ?_
    have H := Option.some.inj H
    subst H
    exact ⟨.inl rfl, ⟨by kernel_rfl, rfl⟩⟩
  · have H := ifn c0 H
    refine er [] [(2, .bool false, none), (4, .int .i64 x0, none)] ⟨[.any, .any, .bool (decide (a0 ≥ x0))], [], h⟩ ((True) ∧ AV.bool (decide (a0 < (0 : Int))) = AV.bool false ∧ loadH Tryd.prog h 3 (.ptr ad_x0 0) = some (.int .i64 x0) ∧ True) (by kernel_rfl) ⟨trivial, ⟨congrArg AV.bool c0, ld_ob (q := qad_x0_) (cs := [.int .i64 x0]) o hqad_x0_ (by kernel_rfl), trivial⟩⟩ ?_
    refine ends_ret ?_
    have H := Option.some.inj H
    subst H
    exact ⟨.inl rfl, ⟨by kernel_rfl, rfl⟩⟩
end
end Go.Proofs.YtmekcfdllhphlaaDoor

namespace Go.Proofs.YtmekcfdllhphlaaDoor
open Go Go.R
open Go.IntKind (i64 u64 u8 u32)
def ann80 : Ann := { keep := [0, 2], locs := [], dead := [(0, [2]), (1, [0])], frz := [], frz2 := [] }
noncomputable def g80R0 := sub [0] (codeOf Tryd.f80)
noncomputable def g80R1 := sub [1, 0] (codeOf Tryd.f80)
theorem g80_eq : codeOf Tryd.f80 = (.seq g80R0 (.seq g80R1 .ret)) := by kernel_rfl
def tree_Names.f (m : Nat) (s0 : ByteArray) : Option (Bool) := if (s0.data.toList == (ByteArray.mk #[112, 114, 111, 99]).data.toList) = true then (some true) else (if (s0.data.toList == (ByteArray.mk #[99, 101, 108, 108]).data.toList) = true then (some true) else (some (s0.data.toList == (ByteArray.mk #[112, 111, 114, 116]).data.toList)))
def tree_Names.fin (L : Mem) (r : Bool) (s : St) : Prop := ∃ av, resultA Tryd.prog (s.open ann80) Tryd.f80.results.toList = some av ∧ Frb s.h av (.bool r)
def S80 (cf : CallF) (m : Nat) : Prop := ∀ (s0 : ByteArray) (r : Bool), tree_Names.f m s0 = some r → ∀ h xs, FrzS 1000 h xs [.str s0] → cf 80 xs h = some (.bool r, h)
section
variable {cf : CallF} {m : Nat}
theorem tree_Names_body {ann : FuncId → Ann} (ha : ann 80 = ann80)  (s0 : ByteArray) (h : AHeap) (L : Mem)  (o : Has h (L)) {out : Bool} (H : tree_Names.f m s0 = some out) :
    ∃ r h', bodyA Tryd.prog ann cf m 80 [.str s0] h = some (r, h') ∧ Frb h' r (.bool out) := by
  refine body_of_ends2 (fn := Tryd.f80) ha Tryd.func80 (by kernel_rfl) (by kernel_rfl) ?_
  refine ends_fin (Q := fun s => tree_Names.fin L out s) (fun _ _ h => h) ?_
  refine ends_of_eq g80_eq ?_
  have H : _ = some out := H
  unfold tree_Names.f at H
  show Enz _ cf ann80 m _ ⟨[.str s0, .any], [], h⟩ _
  refine sr [] [] ⟨[.str s0, .any], [], h⟩ ((True) ∧ True) (by kernel_rfl) ⟨trivial, trivial⟩ ?_
  refine ends_seq ?_
  rcases bft (s0.data.toList == (ByteArray.mk #[112, 114, 111, 99]).data.toList) with c0 | c0
  · have H := ifp c0 H
    refine er [] [(2, .bool true, none)] ⟨[.any, .bool true], [], h⟩ ((True) ∧ AV.bool (s0.data.toList == (ByteArray.mk #[112, 114, 111, 99]).data.toList) = AV.bool true ∧ True) (by kernel_rfl) ⟨trivial, ⟨congrArg AV.bool c0, trivial⟩⟩ ?_
    refine ends_ret ?_
    have H := Option.some.inj H
    subst H
    exact ⟨.inl rfl, ⟨.bool true, by kernel_rfl, frb (fb_bool)⟩⟩
  · have H := ifn c0 H
    rcases bft (s0.data.toList == (ByteArray.mk #[99, 101, 108, 108]).data.toList) with c1 | c1
    · have H := ifp c1 H
      refine er [] [(2, .bool false, none), (6, .bool true, none)] ⟨[.any, .bool true], [], h⟩ ((True) ∧ AV.bool (s0.data.toList == (ByteArray.mk #[112, 114, 111, 99]).data.toList) = AV.bool false ∧ AV.bool (s0.data.toList == (ByteArray.mk #[99, 101, 108, 108]).data.toList) = AV.bool true ∧ True) (by kernel_rfl) ⟨trivial, ⟨congrArg AV.bool c0, congrArg AV.bool c1, trivial⟩⟩ ?_
      refine ends_ret ?_
      have H := Option.some.inj H
      subst H
      exact ⟨.inl rfl, ⟨.bool true, by kernel_rfl, frb (fb_bool)⟩⟩
    · have H := ifn c1 H
      refine er [] [(2, .bool false, none), (6, .bool false, none)] ⟨[.any, .bool (s0.data.toList == (ByteArray.mk #[112, 111, 114, 116]).data.toList)], [], h⟩ ((True) ∧ AV.bool (s0.data.toList == (ByteArray.mk #[112, 114, 111, 99]).data.toList) = AV.bool false ∧ AV.bool (s0.data.toList == (ByteArray.mk #[99, 101, 108, 108]).data.toList) = AV.bool false ∧ True) (by kernel_rfl) ⟨trivial, ⟨congrArg AV.bool c0, congrArg AV.bool c1, trivial⟩⟩ ?_
      refine ends_ret ?_
      have H := Option.some.inj H
      subst H
      exact ⟨.inl rfl, ⟨.bool (s0.data.toList == (ByteArray.mk #[112, 111, 114, 116]).data.toList), by kernel_rfl, frb (fb_bool)⟩⟩
end
end Go.Proofs.YtmekcfdllhphlaaDoor

namespace Go.Proofs.YtmekcfdllhphlaaDoor
open Go Go.R
open Go.IntKind (i64 u64 u8 u32)
def ann62 : Ann := { keep := [0, 1, 2, 3, 4, 6, 7, 23, 44, 60, 89], locs := [2], dead := [(0, [0, 1, 4, 6, 7, 23, 44, 60, 89]), (1, [0, 1, 4, 7, 23, 44, 60, 89]), (2, [0, 1, 4, 23, 44, 60, 89]), (3, [0, 1, 2, 3, 6, 7, 23, 44, 60, 89]), (4, [0, 1, 4, 7, 44, 60, 89]), (5, [0, 1, 2, 3, 6, 7, 23, 44, 60, 89]), (6, [0, 1, 4, 7, 23, 60, 89]), (7, [0, 1, 2, 3, 6, 7, 23, 44, 60, 89]), (8, [0, 1, 4, 7, 23, 44, 89]), (9, [0, 1, 2, 3, 6, 7, 23, 44, 60, 89]), (10, [0, 1, 3, 4, 6, 7, 23, 44, 60]), (11, [0, 1, 2, 3, 6, 7, 23, 44, 60, 89]), (12, [0, 1, 2, 3, 6, 7, 23, 44, 60, 89])], frz := [], frz2 := [] }
noncomputable def g62R0 := sub [0] (codeOf Tryd.f62)
noncomputable def g62R1 := sub [1, 0, 0] (codeOf Tryd.f62)
noncomputable def g62R2 := sub [1, 0, 1, 0, 0] (codeOf Tryd.f62)
noncomputable def g62R3 := sub [1, 0, 1, 0, 1, 0, 0] (codeOf Tryd.f62)
noncomputable def g62R4 := sub [1, 0, 1, 0, 1, 1, 0] (codeOf Tryd.f62)
noncomputable def g62R5 := sub [1, 0, 1, 0, 1, 1, 1, 0, 0] (codeOf Tryd.f62)
noncomputable def g62R6 := sub [1, 0, 1, 0, 1, 1, 1, 1, 0] (codeOf Tryd.f62)
noncomputable def g62R7 := sub [1, 0, 1, 0, 1, 1, 1, 1, 1, 0, 0] (codeOf Tryd.f62)
noncomputable def g62R8 := sub [1, 0, 1, 0, 1, 1, 1, 1, 1, 1, 0] (codeOf Tryd.f62)
noncomputable def g62R9 := sub [1, 0, 1, 0, 1, 1, 1, 1, 1, 1, 1, 0, 0] (codeOf Tryd.f62)
noncomputable def g62R10 := sub [1, 0, 1, 0, 1, 1, 1, 1, 1, 1, 1, 1, 0] (codeOf Tryd.f62)
noncomputable def g62R11 := sub [1, 0, 1, 0, 1, 1, 1, 1, 1, 1, 1, 1, 1, 0, 0] (codeOf Tryd.f62)
noncomputable def g62R12 := sub [1, 1, 0] (codeOf Tryd.f62)
theorem g62_eq : codeOf Tryd.f62 = (.seq g62R0 (.seq (.seq g62R1 (.block 0 (.seq g62R2 (.cond (.tmp 7) (.seq g62R3 .ret) (.seq g62R4 (.cond (.tmp 23) (.seq g62R5 .ret) (.seq g62R6 (.cond (.tmp 44) (.seq g62R7 .ret) (.seq g62R8 (.cond (.tmp 60) (.seq g62R9 .ret) (.seq g62R10 (.cond (.tmp 89) (.seq g62R11 .ret) .skip)))))))))))) (.seq g62R12 .ret))) := by kernel_rfl
def tree_node.f (m : Nat) (n0 : VNode) (size0 : Int) : Option (Bool) := if (n0.kind == (0 : Int)) = true then (if (decide (n0.int ≥ (0 : Int))) = true then (if (n0.label.data.toList == (ByteArray.mk #[]).data.toList) = true then (some ((n0.args.length : Int) == (0 : Int))) else (some false)) else (some false)) else (if (n0.kind == (1 : Int)) = true then (if (decide (n0.int ≥ (-1099511627776 : Int))) = true then (if (decide (n0.int ≤ (1099511627776 : Int))) = true then (if (n0.label.data.toList == (ByteArray.mk #[]).data.toList) = true then (some ((n0.args.length : Int) == (0 : Int))) else (some false)) else (some false)) else (some false)) else (if (n0.kind == (2 : Int)) = true then (if (n0.int == (0 : Int)) = true then ((tree_Atom.f m n0.label).bind fun x0 => if x0 = true then (some ((n0.args.length : Int) == (0 : Int))) else (some false)) else (some false)) else (if (n0.kind == (3 : Int)) = true then (if (n0.int == (0 : Int)) = true then ((tree_Atom.f m n0.label).bind fun x1 => if x1 = true then (if (decide ((n0.args.length : Int) ≥ (1 : Int))) = true then (if (decide ((n0.args.length : Int) ≤ (8 : Int))) = true then ((ContainsFI.f m n0.args (fun y0 => tree_node_1.f m y0 size0)).bind fun x2 => some (!x2)) else (some false)) else (some false)) else (some false)) else (some false)) else (if (n0.kind == (4 : Int)) = true then (if (decide (n0.int ≥ (0 : Int))) = true then ((tree_Names.f m n0.label).bind fun x3 => if x3 = true then (some ((n0.args.length : Int) == (0 : Int))) else (some false)) else (some false)) else (some false)))))
def tree_node.fin (L : Mem) (r : Bool) (s : St) : Prop := ∃ av, resultA Tryd.prog (s.open ann62) Tryd.f62.results.toList = some av ∧ Frb s.h av (.bool r)
def S62 (cf : CallF) (m : Nat) : Prop := ∀ (n0 : VNode) (size0 : Int) (r : Bool), tree_node.f m n0 size0 = some r → ∀ h xs, FrzS 1000 h xs [.agg [.int .i64 n0.kind, .int .i64 n0.int, .str n0.label, eInt.fz n0.args], .int .i64 size0] → cf 62 xs h = some (.bool r, h)
section
variable {cf : CallF} {m : Nat}
theorem tree_node_body {ann : FuncId → Ann} (ha : ann 62 = ann62) (S77_ : S77 cf m) (S78_ : S78 cf m) (S79_ : S79 cf m) (S80_ : S80 cf m) (n0 : VNode) (size0 : Int) (h : AHeap) (L : Mem)  (o : Has h (L)) {out : Bool} (H : tree_node.f m n0 size0 = some out) :
    ∃ r h', bodyA Tryd.prog ann cf m 62 [.agg [.int .i64 n0.kind, .int .i64 n0.int, .str n0.label, eInt.fz n0.args], .int .i64 size0] h = some (r, h') ∧ Frb h' r (.bool out) := by
  refine body_of_ends2 (fn := Tryd.f62) ha Tryd.func62 (by kernel_rfl) (by kernel_rfl) ?_
  refine ends_fin (Q := fun s => tree_node.fin L out s) (fun _ _ h => h) ?_
  refine ends_of_eq g62_eq ?_
  have H : _ = some out := H
  unfold tree_node.f at H
  show Enz _ cf ann62 m _ ⟨.agg [.int .i64 n0.kind, .int .i64 n0.int, .str n0.label, eInt.fz n0.args] :: .int .i64 size0 :: Ay9 [], [none], h⟩ _
  refine ends_seq ?_
  obtain ⟨ad0, h0, e0, o0⟩ := bx_new (cs := [.int .i64 size0]) o (by kernel_rfl)
  refine er [] [(1, .ptr ad0 0, some h0)] ⟨.any :: .any :: .lp 2 0 :: .ptr ad0 0 :: Ay7 [], [some [.int .i64 n0.kind, .int .i64 n0.int, .str n0.label, eInt.fz n0.args]], h0⟩ ((True) ∧ boxH h [.int .i64 size0] = some (.ptr ad0 0, h0) ∧ True) (by kernel_rfl) ⟨trivial, ⟨e0, trivial⟩⟩ ?_
  refine ends_seq ?_
  refine sr [] [] ⟨.any :: .any :: .lp 2 0 :: .ptr ad0 0 :: .any :: .int .i64 n0.kind :: Ay5 [], [some [.int .i64 n0.kind, .int .i64 n0.int, .str n0.label, eInt.fz n0.args]], h0⟩ ((True) ∧ True) (by kernel_rfl) ⟨trivial, trivial⟩ ?_
  refine ends_block ?_
  refine sr [] [] ⟨.any :: .any :: .lp 2 0 :: .ptr ad0 0 :: .any :: .int .i64 n0.kind :: .bool (n0.kind == (0 : Int)) :: Ay4 [], [some [.int .i64 n0.kind, .int .i64 n0.int, .str n0.label, eInt.fz n0.args]], h0⟩ ((True) ∧ True) (by kernel_rfl) ⟨trivial, trivial⟩ ?_
  refine ends_cond (n0.kind == (0 : Int)) (by kernel_rfl) (fun c0 => ?_) (fun c0 => ?_)
  · have H := ifp c0 H
    refine ends_seq ?_
    rcases bft (decide (n0.int ≥ (0 : Int))) with c1 | c1
    · have H := ifp c1 H
      rcases bft (n0.label.data.toList == (ByteArray.mk #[]).data.toList) with c2 | c2
      · have H := ifp c2 H
        refine er [] [(3, .bool true, none), (8, .bool true, none)] ⟨Ay4 (.bool ((n0.args.length : Int) == (0 : Int)) :: Ay6 []), [none], h0⟩ ((True) ∧ AV.bool (decide (n0.int ≥ (0 : Int))) = AV.bool true ∧ AV.bool (n0.label.data.toList == (ByteArray.mk #[]).data.toList) = AV.bool true ∧ True) (by kernel_rfl) ⟨trivial, ⟨congrArg AV.bool c1, congrArg AV.bool c2, trivial⟩⟩ ?_
        have o1 : Has h0 (L) := Has.del o0 0
        refine ends_ret ?_
        have H := Option.some.inj H
        subst H
        exact ⟨.inl rfl, ⟨.bool ((n0.args.length : Int) == (0 : Int)), by kernel_rfl, frb (fb_bool)⟩⟩
      · have H := ifn c2 H
        refine er [] [(3, .bool true, none), (8, .bool false, none)] ⟨Ay4 (.bool false :: Ay6 []), [none], h0⟩ ((True) ∧ AV.bool (decide (n0.int ≥ (0 : Int))) = AV.bool true ∧ AV.bool (n0.label.data.toList == (ByteArray.mk #[]).data.toList) = AV.bool false ∧ True) (by kernel_rfl) ⟨trivial, ⟨congrArg AV.bool c1, congrArg AV.bool c2, trivial⟩⟩ ?_
        have o2 : Has h0 (L) := Has.del o0 0
        refine ends_ret ?_
        have H := Option.some.inj H
        subst H
        exact ⟨.inl rfl, ⟨.bool false, by kernel_rfl, frb (fb_bool)⟩⟩
    · have H := ifn c1 H
      refine er [] [(3, .bool false, none)] ⟨Ay4 (.bool false :: Ay6 []), [none], h0⟩ ((True) ∧ AV.bool (decide (n0.int ≥ (0 : Int))) = AV.bool false ∧ True) (by kernel_rfl) ⟨trivial, ⟨congrArg AV.bool c1, trivial⟩⟩ ?_
      have o3 : Has h0 (L) := Has.del o0 0
      refine ends_ret ?_
      have H := Option.some.inj H
      subst H
      exact ⟨.inl rfl, ⟨.bool false, by kernel_rfl, frb (fb_bool)⟩⟩
  · have H := ifn c0 H
    refine sr [] [] ⟨.any :: .any :: .lp 2 0 :: .ptr ad0 0 :: .any :: .int .i64 n0.kind :: .any :: .bool (n0.kind == (1 : Int)) :: Ay3 [], [some [.int .i64 n0.kind, .int .i64 n0.int, .str n0.label, eInt.fz n0.args]], h0⟩ ((True) ∧ True) (by kernel_rfl) ⟨trivial, trivial⟩ ?_
    refine ends_cond (n0.kind == (1 : Int)) (by kernel_rfl) (fun c3 => ?_) (fun c3 => ?_)
    · have H := ifp c3 H
      refine ends_seq ?_
      rcases bft (decide (n0.int ≥ (-1099511627776 : Int))) with c4 | c4
      · have H := ifp c4 H
        rcases bft (decide (n0.int ≤ (1099511627776 : Int))) with c5 | c5
        · have H := ifp c5 H
          rcases bft (n0.label.data.toList == (ByteArray.mk #[]).data.toList) with c6 | c6
          · have H := ifp c6 H
            refine er [] [(3, .bool true, none), (8, .bool true, none), (13, .bool true, none)] ⟨Ay4 (.bool ((n0.args.length : Int) == (0 : Int)) :: Ay6 []), [none], h0⟩ ((True) ∧ AV.bool (decide (n0.int ≥ (-1099511627776 : Int))) = AV.bool true ∧ AV.bool (decide (n0.int ≤ (1099511627776 : Int))) = AV.bool true ∧ AV.bool (n0.label.data.toList == (ByteArray.mk #[]).data.toList) = AV.bool true ∧ True) (by kernel_rfl) ⟨trivial, ⟨congrArg AV.bool c4, congrArg AV.bool c5, congrArg AV.bool c6, trivial⟩⟩ ?_
            have o4 : Has h0 (L) := Has.del o0 0
            refine ends_ret ?_
            have H := Option.some.inj H
            subst H
            exact ⟨.inl rfl, ⟨.bool ((n0.args.length : Int) == (0 : Int)), by kernel_rfl, frb (fb_bool)⟩⟩
          · have H := ifn c6 H
            refine er [] [(3, .bool true, none), (8, .bool true, none), (13, .bool false, none)] ⟨Ay4 (.bool false :: Ay6 []), [none], h0⟩ ((True) ∧ AV.bool (decide (n0.int ≥ (-1099511627776 : Int))) = AV.bool true ∧ AV.bool (decide (n0.int ≤ (1099511627776 : Int))) = AV.bool true ∧ AV.bool (n0.label.data.toList == (ByteArray.mk #[]).data.toList) = AV.bool false ∧ True) (by kernel_rfl) ⟨trivial, ⟨congrArg AV.bool c4, congrArg AV.bool c5, congrArg AV.bool c6, trivial⟩⟩ ?_
            have o5 : Has h0 (L) := Has.del o0 0
            refine ends_ret ?_
            have H := Option.some.inj H
            subst H
            exact ⟨.inl rfl, ⟨.bool false, by kernel_rfl, frb (fb_bool)⟩⟩
        · have H := ifn c5 H
          refine er [] [(3, .bool true, none), (8, .bool false, none)] ⟨Ay4 (.bool false :: Ay6 []), [none], h0⟩ ((True) ∧ AV.bool (decide (n0.int ≥ (-1099511627776 : Int))) = AV.bool true ∧ AV.bool (decide (n0.int ≤ (1099511627776 : Int))) = AV.bool false ∧ True) (by kernel_rfl) ⟨trivial, ⟨congrArg AV.bool c4, congrArg AV.bool c5, trivial⟩⟩ ?_
          have o6 : Has h0 (L) := Has.del o0 0
          refine ends_ret ?_
          have H := Option.some.inj H
          subst H
          exact ⟨.inl rfl, ⟨.bool false, by kernel_rfl, frb (fb_bool)⟩⟩
      · have H := ifn c4 H
        refine er [] [(3, .bool false, none)] ⟨Ay4 (.bool false :: Ay6 []), [none], h0⟩ ((True) ∧ AV.bool (decide (n0.int ≥ (-1099511627776 : Int))) = AV.bool false ∧ True) (by kernel_rfl) ⟨trivial, ⟨congrArg AV.bool c4, trivial⟩⟩ ?_
        have o7 : Has h0 (L) := Has.del o0 0
        refine ends_ret ?_
        have H := Option.some.inj H
        subst H
        exact ⟨.inl rfl, ⟨.bool false, by kernel_rfl, frb (fb_bool)⟩⟩
    · have H := ifn c3 H
      refine sr [] [] ⟨[.any, .any, .lp 2 0, .ptr ad0 0, .any, .int .i64 n0.kind, .any, .any, .bool (n0.kind == (2 : Int)), .any, .any], [some [.int .i64 n0.kind, .int .i64 n0.int, .str n0.label, eInt.fz n0.args]], h0⟩ ((True) ∧ True) (by kernel_rfl) ⟨trivial, trivial⟩ ?_
      refine ends_cond (n0.kind == (2 : Int)) (by kernel_rfl) (fun c7 => ?_) (fun c7 => ?_)
      · have H := ifp c7 H
        refine ends_seq ?_
        rcases bft (n0.int == (0 : Int)) with c8 | c8
        · have H := ifp c8 H
          obtain ⟨x0, e1, H⟩ := bsi H
          rcases bft (x0) with c9 | c9
          · have H := ifp c9 H
            refine er [] [(3, .bool true, none), (6, .bool x0, some h0), (8, .bool true, none)] ⟨Ay4 (.bool ((n0.args.length : Int) == (0 : Int)) :: Ay6 []), [none], h0⟩ ((True) ∧ AV.bool (n0.int == (0 : Int)) = AV.bool true ∧ callO cf (.fn 77 []) [.str n0.label] h0 = some (.bool x0, h0) ∧ AV.bool x0 = AV.bool true ∧ True) (by kernel_rfl) ⟨trivial, ⟨congrArg AV.bool c8, callO_of (by kernel_rfl) (S77_ _ _ e1 _ _ (frs (fr_cons (fr_str) (fr_nil)))), congrArg AV.bool c9, trivial⟩⟩ ?_
            have o8 : Has h0 (L) := Has.del o0 0
            refine ends_ret ?_
            have H := Option.some.inj H
            subst H
            exact ⟨.inl rfl, ⟨.bool ((n0.args.length : Int) == (0 : Int)), by kernel_rfl, frb (fb_bool)⟩⟩
          · have H := ifn c9 H
            refine er [] [(3, .bool true, none), (6, .bool x0, some h0), (8, .bool false, none)] ⟨Ay4 (.bool false :: Ay6 []), [none], h0⟩ ((True) ∧ AV.bool (n0.int == (0 : Int)) = AV.bool true ∧ callO cf (.fn 77 []) [.str n0.label] h0 = some (.bool x0, h0) ∧ AV.bool x0 = AV.bool false ∧ True) (by kernel_rfl) ⟨trivial, ⟨congrArg AV.bool c8, callO_of (by kernel_rfl) (S77_ _ _ e1 _ _ (frs (fr_cons (fr_str) (fr_nil)))), congrArg AV.bool c9, trivial⟩⟩ ?_
            have o9 : Has h0 (L) := Has.del o0 0
            refine ends_ret ?_
            have H := Option.some.inj H
            subst H
            exact ⟨.inl rfl, ⟨.bool false, by kernel_rfl, frb (fb_bool)⟩⟩
        · have H := ifn c8 H
          refine er [] [(3, .bool false, none)] ⟨Ay4 (.bool false :: Ay6 []), [none], h0⟩ ((True) ∧ AV.bool (n0.int == (0 : Int)) = AV.bool false ∧ True) (by kernel_rfl) ⟨trivial, ⟨congrArg AV.bool c8, trivial⟩⟩ ?_
          have o10 : Has h0 (L) := Has.del o0 0
          refine ends_ret ?_
          have H := Option.some.inj H
          subst H
          exact ⟨.inl rfl, ⟨.bool false, by kernel_rfl, frb (fb_bool)⟩⟩
      · have H := ifn c7 H
        refine sr [] [] ⟨.any :: .any :: .lp 2 0 :: .ptr ad0 0 :: .any :: .int .i64 n0.kind :: Ay3 [.bool (n0.kind == (3 : Int)), .any], [some [.int .i64 n0.kind, .int .i64 n0.int, .str n0.label, eInt.fz n0.args]], h0⟩ ((True) ∧ True) (by kernel_rfl) ⟨trivial, trivial⟩ ?_
        refine ends_cond (n0.kind == (3 : Int)) (by kernel_rfl) (fun c10 => ?_) (fun c10 => ?_)
        · have H := ifp c10 H
          refine ends_seq ?_
          rcases bft (n0.int == (0 : Int)) with c11 | c11
          · have H := ifp c11 H
            obtain ⟨x1, e2, H⟩ := bsi H
            rcases bft (x1) with c12 | c12
            · have H := ifp c12 H
              rcases bft (decide ((n0.args.length : Int) ≥ (1 : Int))) with c13 | c13
              · have H := ifp c13 H
                rcases bft (decide ((n0.args.length : Int) ≤ (8 : Int))) with c14 | c14
                · have H := ifp c14 H
                  obtain ⟨x2, e3, H⟩ := bsi H
                  refine er [] [(3, .bool true, none), (6, .bool x1, some h0), (8, .bool true, none), (14, .bool true, none), (20, .bool true, none), (24, .bool x2, some h0)] ⟨Ay4 (.bool (!x2) :: Ay6 []), [none], h0⟩ ((True) ∧ AV.bool (n0.int == (0 : Int)) = AV.bool true ∧ callO cf (.fn 77 []) [.str n0.label] h0 = some (.bool x1, h0) ∧ AV.bool x1 = AV.bool true ∧ AV.bool (decide ((n0.args.length : Int) ≥ (1 : Int))) = AV.bool true ∧ AV.bool (decide ((n0.args.length : Int) ≤ (8 : Int))) = AV.bool true ∧ callO cf (.fn 78 []) [eInt.fz n0.args, .fn 79 [.ptr ad0 0]] h0 = some (.bool x2, h0) ∧ True) (by kernel_rfl) ⟨trivial, ⟨congrArg AV.bool c11, callO_of (by kernel_rfl) (S77_ _ _ e2 _ _ (frs (fr_cons (fr_str) (fr_nil)))), congrArg AV.bool c12, congrArg AV.bool c13, congrArg AV.bool c14, callO_of (by kernel_rfl) (S78_ _ _ _ e3 h0 (Has.pos o0) 79 [.ptr ad0 0] rfl (fun y0 r hr => S79_ y0 _ r hr h0 _ 0 _ o0 rfl) _ (can_cons (can_pure (pu_fz (E := eInt))) (can_cons (rfl) (can_nil)))), trivial⟩⟩ ?_
                  have o11 : Has h0 (L) := Has.del o0 0
                  refine ends_ret ?_
                  have H := Option.some.inj H
                  subst H
                  exact ⟨.inl rfl, ⟨.bool (!x2), by kernel_rfl, frb (fb_bool)⟩⟩
                · have H := ifn c14 H
                  refine er [] [(3, .bool true, none), (6, .bool x1, some h0), (8, .bool true, none), (14, .bool true, none), (20, .bool false, none)] ⟨Ay4 (.bool false :: Ay6 []), [none], h0⟩ ((True) ∧ AV.bool (n0.int == (0 : Int)) = AV.bool true ∧ callO cf (.fn 77 []) [.str n0.label] h0 = some (.bool x1, h0) ∧ AV.bool x1 = AV.bool true ∧ AV.bool (decide ((n0.args.length : Int) ≥ (1 : Int))) = AV.bool true ∧ AV.bool (decide ((n0.args.length : Int) ≤ (8 : Int))) = AV.bool false ∧ True) (by kernel_rfl) ⟨trivial, ⟨congrArg AV.bool c11, callO_of (by kernel_rfl) (S77_ _ _ e2 _ _ (frs (fr_cons (fr_str) (fr_nil)))), congrArg AV.bool c12, congrArg AV.bool c13, congrArg AV.bool c14, trivial⟩⟩ ?_
                  have o12 : Has h0 (L) := Has.del o0 0
                  refine ends_ret ?_
                  have H := Option.some.inj H
                  subst H
                  exact ⟨.inl rfl, ⟨.bool false, by kernel_rfl, frb (fb_bool)⟩⟩
              · have H := ifn c13 H
                refine er [] [(3, .bool true, none), (6, .bool x1, some h0), (8, .bool true, none), (14, .bool false, none)] ⟨Ay4 (.bool false :: Ay6 []), [none], h0⟩ ((True) ∧ AV.bool (n0.int == (0 : Int)) = AV.bool true ∧ callO cf (.fn 77 []) [.str n0.label] h0 = some (.bool x1, h0) ∧ AV.bool x1 = AV.bool true ∧ AV.bool (decide ((n0.args.length : Int) ≥ (1 : Int))) = AV.bool false ∧ True) (by kernel_rfl) ⟨trivial, ⟨congrArg AV.bool c11, callO_of (by kernel_rfl) (S77_ _ _ e2 _ _ (frs (fr_cons (fr_str) (fr_nil)))), congrArg AV.bool c12, congrArg AV.bool c13, trivial⟩⟩ ?_
                have o13 : Has h0 (L) := Has.del o0 0
                refine ends_ret ?_
                have H := Option.some.inj H
                subst H
                exact ⟨.inl rfl, ⟨.bool false, by kernel_rfl, frb (fb_bool)⟩⟩
            · have H := ifn c12 H
              refine er [] [(3, .bool true, none), (6, .bool x1, some h0), (8, .bool false, none)] ⟨Ay4 (.bool false :: Ay6 []), [none], h0⟩ ((True) ∧ AV.bool (n0.int == (0 : Int)) = AV.bool true ∧ callO cf (.fn 77 []) [.str n0.label] h0 = some (.bool x1, h0) ∧ AV.bool x1 = AV.bool false ∧ True) (by kernel_rfl) ⟨trivial, ⟨congrArg AV.bool c11, callO_of (by kernel_rfl) (S77_ _ _ e2 _ _ (frs (fr_cons (fr_str) (fr_nil)))), congrArg AV.bool c12, trivial⟩⟩ ?_
              have o14 : Has h0 (L) := Has.del o0 0
              refine ends_ret ?_
              have H := Option.some.inj H
              subst H
              exact ⟨.inl rfl, ⟨.bool false, by kernel_rfl, frb (fb_bool)⟩⟩
          · have H := ifn c11 H
            refine er [] [(3, .bool false, none)] ⟨Ay4 (.bool false :: Ay6 []), [none], h0⟩ ((True) ∧ AV.bool (n0.int == (0 : Int)) = AV.bool false ∧ True) (by kernel_rfl) ⟨trivial, ⟨congrArg AV.bool c11, trivial⟩⟩ ?_
            have o15 : Has h0 (L) := Has.del o0 0
            refine ends_ret ?_
            have H := Option.some.inj H
            subst H
            exact ⟨.inl rfl, ⟨.bool false, by kernel_rfl, frb (fb_bool)⟩⟩
        · have H := ifn c10 H
          refine sr [] [] ⟨.any :: .any :: .lp 2 0 :: Ay7 [.bool (n0.kind == (4 : Int))], [some [.int .i64 n0.kind, .int .i64 n0.int, .str n0.label, eInt.fz n0.args]], h0⟩ ((True) ∧ True) (by kernel_rfl) ⟨trivial, trivial⟩ ?_
          have o16 : Has h0 (L) := Has.del o0 0
          refine ends_cond (n0.kind == (4 : Int)) (by kernel_rfl) (fun c15 => ?_) (fun c15 => ?_)
          · have H := ifp c15 H
            refine ends_seq ?_
            rcases bft (decide (n0.int ≥ (0 : Int))) with c16 | c16
            · have H := ifp c16 H
              obtain ⟨x3, e4, H⟩ := bsi H
              rcases bft (x3) with c17 | c17
              · have H := ifp c17 H
                refine er [] [(3, .bool true, none), (6, .bool x3, some h0), (8, .bool true, none)] ⟨Ay4 (.bool ((n0.args.length : Int) == (0 : Int)) :: Ay6 []), [none], h0⟩ ((True) ∧ AV.bool (decide (n0.int ≥ (0 : Int))) = AV.bool true ∧ callO cf (.fn 80 []) [.str n0.label] h0 = some (.bool x3, h0) ∧ AV.bool x3 = AV.bool true ∧ True) (by kernel_rfl) ⟨trivial, ⟨congrArg AV.bool c16, callO_of (by kernel_rfl) (S80_ _ _ e4 _ _ (frs (fr_cons (fr_str) (fr_nil)))), congrArg AV.bool c17, trivial⟩⟩ ?_
                refine ends_ret ?_
                have H := Option.some.inj H
                subst H
                exact ⟨.inl rfl, ⟨.bool ((n0.args.length : Int) == (0 : Int)), by kernel_rfl, frb (fb_bool)⟩⟩
              · have H := ifn c17 H
                refine er [] [(3, .bool true, none), (6, .bool x3, some h0), (8, .bool false, none)] ⟨Ay4 (.bool false :: Ay6 []), [none], h0⟩ ((True) ∧ AV.bool (decide (n0.int ≥ (0 : Int))) = AV.bool true ∧ callO cf (.fn 80 []) [.str n0.label] h0 = some (.bool x3, h0) ∧ AV.bool x3 = AV.bool false ∧ True) (by kernel_rfl) ⟨trivial, ⟨congrArg AV.bool c16, callO_of (by kernel_rfl) (S80_ _ _ e4 _ _ (frs (fr_cons (fr_str) (fr_nil)))), congrArg AV.bool c17, trivial⟩⟩ ?_
                refine ends_ret ?_
                have H := Option.some.inj H
                subst H
                exact ⟨.inl rfl, ⟨.bool false, by kernel_rfl, frb (fb_bool)⟩⟩
            · have H := ifn c16 H
              refine er [] [(3, .bool false, none)] ⟨Ay4 (.bool false :: Ay6 []), [none], h0⟩ ((True) ∧ AV.bool (decide (n0.int ≥ (0 : Int))) = AV.bool false ∧ True) (by kernel_rfl) ⟨trivial, ⟨congrArg AV.bool c16, trivial⟩⟩ ?_
              refine ends_ret ?_
              have H := Option.some.inj H
              subst H
              exact ⟨.inl rfl, ⟨.bool false, by kernel_rfl, frb (fb_bool)⟩⟩
          · have H := ifn c15 H
            refine ends_skip ?_
            refine sr [] [] ⟨Ay4 (.bool false :: Ay6 []), [none], h0⟩ ((True) ∧ True) (by kernel_rfl) ⟨trivial, trivial⟩ ?_
            refine ends_ret ?_
            have H := Option.some.inj H
            subst H
            exact ⟨.inl rfl, ⟨.bool false, by kernel_rfl, frb (fb_bool)⟩⟩
end
end Go.Proofs.YtmekcfdllhphlaaDoor

namespace Go.Proofs.YtmekcfdllhphlaaDoor
open Go Go.R
open Go.IntKind (i64 u64 u8 u32)
def ann52 : Ann := { keep := [0, 1, 4, 5, 7, 8, 9, 16], locs := [], dead := [(0, [4, 5, 7, 8, 9, 16]), (1, [4, 5, 9, 16]), (2, [4, 5, 16]), (3, [4, 9, 16]), (4, [4, 9]), (5, [0, 1, 5, 7, 8, 9, 16]), (6, [4, 5, 9, 16]), (7, [0, 1, 5, 7, 8, 9, 16])], frz := [], frz2 := [] }
noncomputable def g52R0 := sub [0] (codeOf Tryd.f52)
noncomputable def g52R1 := sub [1, 0, 0] (codeOf Tryd.f52)
noncomputable def g52L0 := sub [1, 0, 1, 0, 0] (codeOf Tryd.f52)
noncomputable def g52R2 := sub [1, 0, 1, 0, 0, 0] (codeOf Tryd.f52)
noncomputable def g52R3 := sub [1, 0, 1, 0, 0, 1, 1, 0, 0, 0] (codeOf Tryd.f52)
noncomputable def g52R4 := sub [1, 0, 1, 0, 0, 1, 1, 0, 0, 1, 0] (codeOf Tryd.f52)
noncomputable def g52R5 := sub [1, 0, 1, 0, 0, 1, 1, 0, 0, 1, 1, 0, 0] (codeOf Tryd.f52)
noncomputable def g52R6 := sub [1, 0, 1, 0, 0, 1, 1, 1] (codeOf Tryd.f52)
noncomputable def g52R7 := sub [1, 1, 0] (codeOf Tryd.f52)
theorem g52L0_eq : g52L0 = (.seq g52R2 (.seq (.cond (.tmp 9) .skip (.exit 0)) (.seq (.block 1 (.seq g52R3 (.seq g52R4 (.cond (.tmp 16) (.seq g52R5 .ret) .skip)))) g52R6))) := by kernel_rfl
theorem g52_eq : codeOf Tryd.f52 = (.seq g52R0 (.seq (.seq g52R1 (.block 0 (.loop g52L0))) (.seq g52R7 .ret))) := by kernel_rfl
def IndexFN.l0 (m : Nat) (s0 : List VNode) (f0 : VNode → Option (Bool)) : Nat → Int → Option (Sum Int (Int))
  | 0, _ => none
  | k + 1, x0 => if (decide (x0 < (s0.length : Int))) = true then ((ix s0 x0).bind fun v0 => (f0 v0).bind fun r0 => if r0 = true then (some (.inl x0)) else (IndexFN.l0 m s0 f0 k (i64.wrap (x0 + (1 : Int))))) else (some (.inr x0))
def IndexFN.f (m : Nat) (s0 : List VNode) (f0 : VNode → Option (Bool)) : Option (Int) := (IndexFN.l0 m s0 f0 m (0 : Int)).bind fun out0 => match out0 with | .inl r1 => some r1 | .inr x1 => some (-1 : Int)
def IndexFN.fin (h : AHeap) (r : Int) (s : St) : Prop := resultA Tryd.prog (s.open ann52) Tryd.f52.results.toList = some (.int .i64 r) ∧ s.h = h
def S52 (cf : CallF) (m : Nat) : Prop := ∀ (s0 : List VNode) (f0 : VNode → Option (Bool)) (r : Int), IndexFN.f m s0 f0 = some r → ∀ h, 0 < h.next → ∀ (g1_ : FuncId) (cap1_ : List AV), canonArg (.fn g1_ cap1_) = .fn g1_ cap1_ → (∀ (a0 : VNode) r, f0 a0 = some r → cf g1_ ([.agg [.int .i64 a0.kind, .int .i64 a0.int, .str a0.label, eInt.fz a0.args]] ++ cap1_) h = some (.bool r, h)) → ∀ xs, xs.map canonArg = [eNode.fz s0, .fn g1_ cap1_] → cf 52 xs h = some (.int .i64 r, h)
section
variable {cf : CallF} {m : Nat}
def IndexFN.l0.R (h : AHeap) (L : Mem) (g1_ : FuncId) (cap1_ : List AV) (s0 : List VNode) (f0 : VNode → Option (Bool)) (σ : Int) (s : St) : Prop :=
  match σ with
  | x0 => ∃ (g0 : AV) (g1 : AV), s = ⟨[eNode.fz s0, .fn g1_ cap1_, .any, .any, .int .i64 (s0.length : Int), .int .i64 x0, g0, g1], [], h⟩ ∧ Has h (L)
def IndexFN.l0.Q (h : AHeap) (L : Mem) (g1_ : FuncId) (cap1_ : List AV) (s0 : List VNode) (f0 : VNode → Option (Bool)) (out : Sum Int (Int)) (e : Ex) (s : St) : Prop :=
  (e = .exit 0 ∧ ∃ (x0 : Int), .inr x0 = out ∧ ∃ (x0_ : AV) (x1_ : AV) (x7_ : AV) (x8_ : AV) (x9_ : AV) (x16_ : AV), s = ⟨[x0_, x1_, .any, .any, x7_, x8_, x9_, x16_], [], h⟩ ∧ Has h (L)) ∨ (e = .ret ∧ ∃ r, .inl r = out ∧ IndexFN.fin h r s)
theorem IndexFN.l0_ok (h : AHeap) (L : Mem) (g1_ : FuncId) (cap1_ : List AV) (s0 : List VNode) (f0 : VNode → Option (Bool))  (hc1_ : canonArg (.fn g1_ cap1_) = .fn g1_ cap1_) (Hp1_ : ∀ (a0 : VNode) r, f0 a0 = some r → cf g1_ ([.agg [.int .i64 a0.kind, .int .i64 a0.int, .str a0.label, eInt.fz a0.args]] ++ cap1_) h = some (.bool r, h))  {σ : Int} {s : St} {out : Sum Int (Int)} (hr : IndexFN.l0.R h L g1_ cap1_ s0 f0 σ s) (H : (fun k σ => IndexFN.l0 m s0 f0 k σ) m σ = some out) : Enz Tryd.prog cf ann52 m (.loop g52L0) s (IndexFN.l0.Q h L g1_ cap1_ s0 f0 out) := by
  refine ends_loop (fun k σ => IndexFN.l0 m s0 f0 k σ) (IndexFN.l0.R h L g1_ cap1_ s0 f0) (IndexFN.l0.Q h L g1_ cap1_ s0 f0) (fun _ => rfl) ?_ hr H (fun _ _ _ h => h)
  clear hr H σ s out
  rintro k x0 s out ⟨g0, g1, rfl, o0⟩ H
  have H : IndexFN.l0 m s0 f0 (k + 1) x0 = some out := H
  refine ends_of_eq g52L0_eq ?_
  refine sr [] [] ⟨[eNode.fz s0, .fn g1_ cap1_, .any, .any, .int .i64 (s0.length : Int), .int .i64 x0, .bool (decide (x0 < (s0.length : Int))), .any], [], h⟩ ((True) ∧ True) (by kernel_rfl) ⟨trivial, trivial⟩ ?_
  refine ends_seq ?_
  refine ends_cond (decide (x0 < (s0.length : Int))) (by kernel_rfl) (fun c0 => ?_) (fun c0 => ?_)
  · have H := ifp c0 H
    refine ends_skip ?_
    refine ends_seq ?_
    refine ends_block ?_
    refine sr [] [] ⟨[eNode.fz s0, .fn g1_ cap1_, .any, .int .i64 x0, .int .i64 (s0.length : Int), .int .i64 x0, .any, .any], [], h⟩ ((True) ∧ True) (by kernel_rfl) ⟨trivial, trivial⟩ ?_
    refine ends_seq ?_
    obtain ⟨v0, e0, H⟩ := bsi H
    obtain ⟨r0, e1, H⟩ := bsi H
    refine er [] [(3, .fp (eNode.l s0) (x0.toNat * 4), none), (4, .agg [.int .i64 v0.kind, .int .i64 v0.int, .str v0.label, eInt.fz v0.args], none), (5, .bool r0, some h)] ⟨[eNode.fz s0, .fn g1_ cap1_, .any, .int .i64 x0, .int .i64 (s0.length : Int), .int .i64 x0, .any, .bool r0], [], h⟩ ((True) ∧ indexAddrA Tryd.prog 29 (eNode.fz s0) (.int .i64 x0) = some (.fp (eNode.l s0) (x0.toNat * 4)) ∧ loadH Tryd.prog h 48 (.fp (eNode.l s0) (x0.toNat * 4)) = some (.agg [.int .i64 v0.kind, .int .i64 v0.int, .str v0.label, eInt.fz v0.args]) ∧ callO cf (.fn g1_ cap1_) [.agg [.int .i64 v0.kind, .int .i64 v0.int, .str v0.label, eInt.fz v0.args]] h = some (.bool r0, h) ∧ True) (by kernel_rfl) ⟨trivial, ⟨ia_fz (E := eNode) (l := s0) T29 e0, ld_fzA (E := eNode) (l := s0) h A48 Z48 e0, callO_of (by kernel_rfl) (Hp1_ _ _ e1), trivial⟩⟩ ?_
    refine ends_cond (r0) (by kernel_rfl) (fun c1 => ?_) (fun c1 => ?_)
    · have H := ifp c1 H
      refine sr [] [] ⟨.any :: .any :: .int .i64 x0 :: Ay5 [], [], h⟩ ((True) ∧ True) (by kernel_rfl) ⟨trivial, trivial⟩ ?_
      refine ends_ret ?_
      have H := Option.some.inj H
      exact Or.inr (⟨rfl, _, H, ⟨by kernel_rfl, rfl⟩⟩)
    · have H := ifn c1 H
      refine ends_skip ?_
      refine er [] [] ⟨[eNode.fz s0, .fn g1_ cap1_, .any, .any, .int .i64 (s0.length : Int), .int .i64 (i64.wrap (x0 + (1 : Int))), .any, .any], [], h⟩ ((True) ∧ True) (by kernel_rfl) ⟨trivial, trivial⟩ ?_
      exact ⟨i64.wrap (x0 + (1 : Int)), ⟨.any, .any, rfl, o0⟩, H⟩
  · have H := ifn c0 H
    refine ends_exit ?_
    have H := Option.some.inj H
    exact Or.inl (⟨rfl, x0, H, eNode.fz s0, .fn g1_ cap1_, .int .i64 (s0.length : Int), .int .i64 x0, .bool (decide (x0 < (s0.length : Int))), .any, rfl, o0⟩)
theorem IndexFN_body {ann : FuncId → Ann} (ha : ann 52 = ann52)  (s0 : List VNode) (f0 : VNode → Option (Bool)) (h : AHeap) (L : Mem) (g1_ : FuncId) (cap1_ : List AV)  (hc1_ : canonArg (.fn g1_ cap1_) = .fn g1_ cap1_) (Hp1_ : ∀ (a0 : VNode) r, f0 a0 = some r → cf g1_ ([.agg [.int .i64 a0.kind, .int .i64 a0.int, .str a0.label, eInt.fz a0.args]] ++ cap1_) h = some (.bool r, h)) (o : Has h (L)) {out : Int} (H : IndexFN.f m s0 f0 = some out) :
    ∃ r h', bodyA Tryd.prog ann cf m 52 [eNode.fz s0, .fn g1_ cap1_] h = some (r, h') ∧ r = (.int .i64 out) ∧ h' = h := by
  refine body_of_ends2 (fn := Tryd.f52) ha Tryd.func52 (by kernel_rfl) (by kernel_rfl) ?_
  refine ends_fin (Q := fun s => IndexFN.fin h out s) (fun _ _ ⟨h1, h2, h3⟩ => ⟨h1, _, h2, rfl, h3⟩) ?_
  refine ends_of_eq g52_eq ?_
  have H : _ = some out := H
  unfold IndexFN.f at H
  show Enz _ cf ann52 m _ ⟨eNode.fz s0 :: .fn g1_ cap1_ :: Ay6 [], [], h⟩ _
  refine sr [] [] ⟨eNode.fz s0 :: .fn g1_ cap1_ :: Ay6 [], [], h⟩ ((True) ∧ True) (by kernel_rfl) ⟨trivial, trivial⟩ ?_
  refine ends_seq ?_
  refine sr [] [] ⟨[eNode.fz s0, .fn g1_ cap1_, .any, .any, .int .i64 (s0.length : Int), .int .i64 (0 : Int), .any, .any], [], h⟩ ((True) ∧ True) (by kernel_rfl) ⟨trivial, trivial⟩ ?_
  refine ends_block ?_
  obtain ⟨out0, e2, H⟩ := bsi H
  refine ends_mono (IndexFN.l0_ok h L g1_ cap1_ s0 f0  hc1_ Hp1_  (σ := (0 : Int)) ⟨.any, .any, rfl, o⟩ e2) ?_
  rintro e s (⟨rfl, x1, rfl, g2, g3, g4, g5, g6, g7, rfl, o1⟩ | ⟨rfl, r1, rfl, hf0⟩)
  · try dsimp only at H
    refine sr [] [] ⟨.any :: .any :: .int .i64 (-1 : Int) :: Ay5 [], [], h⟩ ((True) ∧ True) (by kernel_rfl) ⟨trivial, trivial⟩ ?_
    refine ends_ret ?_
    have H := Option.some.inj H
    subst H
    exact ⟨.inl rfl, ⟨by kernel_rfl, rfl⟩⟩
  · try dsimp only at H
    have H := Option.some.inj H
    subst H
    exact ⟨.inl rfl, hf0⟩
end
end Go.Proofs.YtmekcfdllhphlaaDoor

namespace Go.Proofs.YtmekcfdllhphlaaDoor
open Go Go.R
open Go.IntKind (i64 u64 u8 u32)
def ann34 : Ann := { keep := [0, 1, 4], locs := [], dead := [(0, [4]), (1, [0, 1])], frz := [], frz2 := [] }
noncomputable def g34R0 := sub [0] (codeOf Tryd.f34)
noncomputable def g34R1 := sub [1, 0] (codeOf Tryd.f34)
theorem g34_eq : codeOf Tryd.f34 = (.seq g34R0 (.seq g34R1 .ret)) := by kernel_rfl
def ContainsFN.f (m : Nat) (s0 : List VNode) (f0 : VNode → Option (Bool)) : Option (Bool) := (IndexFN.f m s0 f0).bind fun x0 => some (decide (x0 ≥ (0 : Int)))
def ContainsFN.fin (h : AHeap) (r : Bool) (s : St) : Prop := resultA Tryd.prog (s.open ann34) Tryd.f34.results.toList = some (.bool r) ∧ s.h = h
def S34 (cf : CallF) (m : Nat) : Prop := ∀ (s0 : List VNode) (f0 : VNode → Option (Bool)) (r : Bool), ContainsFN.f m s0 f0 = some r → ∀ h, 0 < h.next → ∀ (g1_ : FuncId) (cap1_ : List AV), canonArg (.fn g1_ cap1_) = .fn g1_ cap1_ → (∀ (a0 : VNode) r, f0 a0 = some r → cf g1_ ([.agg [.int .i64 a0.kind, .int .i64 a0.int, .str a0.label, eInt.fz a0.args]] ++ cap1_) h = some (.bool r, h)) → ∀ xs, xs.map canonArg = [eNode.fz s0, .fn g1_ cap1_] → cf 34 xs h = some (.bool r, h)
section
variable {cf : CallF} {m : Nat}
theorem ContainsFN_body {ann : FuncId → Ann} (ha : ann 34 = ann34) (S52_ : S52 cf m) (s0 : List VNode) (f0 : VNode → Option (Bool)) (h : AHeap) (L : Mem) (g1_ : FuncId) (cap1_ : List AV)  (hc1_ : canonArg (.fn g1_ cap1_) = .fn g1_ cap1_) (Hp1_ : ∀ (a0 : VNode) r, f0 a0 = some r → cf g1_ ([.agg [.int .i64 a0.kind, .int .i64 a0.int, .str a0.label, eInt.fz a0.args]] ++ cap1_) h = some (.bool r, h)) (o : Has h (L)) {out : Bool} (H : ContainsFN.f m s0 f0 = some out) :
    ∃ r h', bodyA Tryd.prog ann cf m 34 [eNode.fz s0, .fn g1_ cap1_] h = some (r, h') ∧ r = (.bool out) ∧ h' = h := by
  refine body_of_ends2 (fn := Tryd.f34) ha Tryd.func34 (by kernel_rfl) (by kernel_rfl) ?_
  refine ends_fin (Q := fun s => ContainsFN.fin h out s) (fun _ _ ⟨h1, h2, h3⟩ => ⟨h1, _, h2, rfl, h3⟩) ?_
  refine ends_of_eq g34_eq ?_
  have H : _ = some out := H
  unfold ContainsFN.f at H
  show Enz _ cf ann34 m _ ⟨[eNode.fz s0, .fn g1_ cap1_, .any], [], h⟩ _
  refine sr [] [] ⟨[eNode.fz s0, .fn g1_ cap1_, .any], [], h⟩ ((True) ∧ True) (by kernel_rfl) ⟨trivial, trivial⟩ ?_
  refine ends_seq ?_
  obtain ⟨x0, e0, H⟩ := bsi H
  refine er [] [(2, .int .i64 x0, some h)] ⟨[.any, .any, .bool (decide (x0 ≥ (0 : Int)))], [], h⟩ ((True) ∧ callO cf (.fn 52 []) [eNode.fz s0, .fn g1_ cap1_] h = some (.int .i64 x0, h) ∧ True) (by kernel_rfl) ⟨trivial, ⟨callO_of (by kernel_rfl) (S52_ _ _ _ e0 h (Has.pos o) g1_ cap1_ hc1_ Hp1_ _ (can_cons (can_pure (pu_fz (E := eNode))) (can_cons (hc1_) (can_nil)))), trivial⟩⟩ ?_
  refine ends_ret ?_
  have H := Option.some.inj H
  subst H
  exact ⟨.inl rfl, ⟨by kernel_rfl, rfl⟩⟩
end
end Go.Proofs.YtmekcfdllhphlaaDoor

namespace Go.Proofs.YtmekcfdllhphlaaDoor
open Go Go.R
open Go.IntKind (i64 u64 u8 u32)
def ann51 : Ann := { keep := [0, 1, 4, 5, 7, 8, 9, 16], locs := [], dead := [(0, [4, 5, 7, 8, 9, 16]), (1, [4, 5, 9, 16]), (2, [4, 5, 16]), (3, [4, 9, 16]), (4, [4, 9]), (5, [0, 1, 5, 7, 8, 9, 16]), (6, [4, 5, 9, 16]), (7, [0, 1, 5, 7, 8, 9, 16])], frz := [], frz2 := [] }
noncomputable def g51R0 := sub [0] (codeOf Tryd.f51)
noncomputable def g51R1 := sub [1, 0, 0] (codeOf Tryd.f51)
noncomputable def g51L0 := sub [1, 0, 1, 0, 0] (codeOf Tryd.f51)
noncomputable def g51R2 := sub [1, 0, 1, 0, 0, 0] (codeOf Tryd.f51)
noncomputable def g51R3 := sub [1, 0, 1, 0, 0, 1, 1, 0, 0, 0] (codeOf Tryd.f51)
noncomputable def g51R4 := sub [1, 0, 1, 0, 0, 1, 1, 0, 0, 1, 0] (codeOf Tryd.f51)
noncomputable def g51R5 := sub [1, 0, 1, 0, 0, 1, 1, 0, 0, 1, 1, 0, 0] (codeOf Tryd.f51)
noncomputable def g51R6 := sub [1, 0, 1, 0, 0, 1, 1, 1] (codeOf Tryd.f51)
noncomputable def g51R7 := sub [1, 1, 0] (codeOf Tryd.f51)
theorem g51L0_eq : g51L0 = (.seq g51R2 (.seq (.cond (.tmp 9) .skip (.exit 0)) (.seq (.block 1 (.seq g51R3 (.seq g51R4 (.cond (.tmp 16) (.seq g51R5 .ret) .skip)))) g51R6))) := by kernel_rfl
theorem g51_eq : codeOf Tryd.f51 = (.seq g51R0 (.seq (.seq g51R1 (.block 0 (.loop g51L0))) (.seq g51R7 .ret))) := by kernel_rfl
def IndexFT.l0 (m : Nat) (s0 : List VTree) (f0 : VTree → Option (Bool)) : Nat → Int → Option (Sum Int (Int))
  | 0, _ => none
  | k + 1, x0 => if (decide (x0 < (s0.length : Int))) = true then ((ix s0 x0).bind fun v0 => (f0 v0).bind fun r0 => if r0 = true then (some (.inl x0)) else (IndexFT.l0 m s0 f0 k (i64.wrap (x0 + (1 : Int))))) else (some (.inr x0))
def IndexFT.f (m : Nat) (s0 : List VTree) (f0 : VTree → Option (Bool)) : Option (Int) := (IndexFT.l0 m s0 f0 m (0 : Int)).bind fun out0 => match out0 with | .inl r1 => some r1 | .inr x1 => some (-1 : Int)
def IndexFT.fin (h : AHeap) (r : Int) (s : St) : Prop := resultA Tryd.prog (s.open ann51) Tryd.f51.results.toList = some (.int .i64 r) ∧ s.h = h
def S51 (cf : CallF) (m : Nat) : Prop := ∀ (s0 : List VTree) (f0 : VTree → Option (Bool)) (r : Int), IndexFT.f m s0 f0 = some r → ∀ h, 0 < h.next → ∀ (g1_ : FuncId) (cap1_ : List AV), canonArg (.fn g1_ cap1_) = .fn g1_ cap1_ → (∀ (a0 : VTree) r, f0 a0 = some r → cf g1_ ([.agg [eNode.fz a0.nodes, .int .i64 a0.root]] ++ cap1_) h = some (.bool r, h)) → ∀ xs, xs.map canonArg = [eTree.fz s0, .fn g1_ cap1_] → cf 51 xs h = some (.int .i64 r, h)
section
variable {cf : CallF} {m : Nat}
def IndexFT.l0.R (h : AHeap) (L : Mem) (g1_ : FuncId) (cap1_ : List AV) (s0 : List VTree) (f0 : VTree → Option (Bool)) (σ : Int) (s : St) : Prop :=
  match σ with
  | x0 => ∃ (g0 : AV) (g1 : AV), s = ⟨[eTree.fz s0, .fn g1_ cap1_, .any, .any, .int .i64 (s0.length : Int), .int .i64 x0, g0, g1], [], h⟩ ∧ Has h (L)
def IndexFT.l0.Q (h : AHeap) (L : Mem) (g1_ : FuncId) (cap1_ : List AV) (s0 : List VTree) (f0 : VTree → Option (Bool)) (out : Sum Int (Int)) (e : Ex) (s : St) : Prop :=
  (e = .exit 0 ∧ ∃ (x0 : Int), .inr x0 = out ∧ ∃ (x0_ : AV) (x1_ : AV) (x7_ : AV) (x8_ : AV) (x9_ : AV) (x16_ : AV), s = ⟨[x0_, x1_, .any, .any, x7_, x8_, x9_, x16_], [], h⟩ ∧ Has h (L)) ∨ (e = .ret ∧ ∃ r, .inl r = out ∧ IndexFT.fin h r s)
theorem IndexFT.l0_ok (h : AHeap) (L : Mem) (g1_ : FuncId) (cap1_ : List AV) (s0 : List VTree) (f0 : VTree → Option (Bool))  (hc1_ : canonArg (.fn g1_ cap1_) = .fn g1_ cap1_) (Hp1_ : ∀ (a0 : VTree) r, f0 a0 = some r → cf g1_ ([.agg [eNode.fz a0.nodes, .int .i64 a0.root]] ++ cap1_) h = some (.bool r, h))  {σ : Int} {s : St} {out : Sum Int (Int)} (hr : IndexFT.l0.R h L g1_ cap1_ s0 f0 σ s) (H : (fun k σ => IndexFT.l0 m s0 f0 k σ) m σ = some out) : Enz Tryd.prog cf ann51 m (.loop g51L0) s (IndexFT.l0.Q h L g1_ cap1_ s0 f0 out) := by
  refine ends_loop (fun k σ => IndexFT.l0 m s0 f0 k σ) (IndexFT.l0.R h L g1_ cap1_ s0 f0) (IndexFT.l0.Q h L g1_ cap1_ s0 f0) (fun _ => rfl) ?_ hr H (fun _ _ _ h => h)
  clear hr H σ s out
  rintro k x0 s out ⟨g0, g1, rfl, o0⟩ H
  have H : IndexFT.l0 m s0 f0 (k + 1) x0 = some out := H
  refine ends_of_eq g51L0_eq ?_
  refine sr [] [] ⟨[eTree.fz s0, .fn g1_ cap1_, .any, .any, .int .i64 (s0.length : Int), .int .i64 x0, .bool (decide (x0 < (s0.length : Int))), .any], [], h⟩ ((True) ∧ True) (by kernel_rfl) ⟨trivial, trivial⟩ ?_
  refine ends_seq ?_
  refine ends_cond (decide (x0 < (s0.length : Int))) (by kernel_rfl) (fun c0 => ?_) (fun c0 => ?_)
  · have H := ifp c0 H
    refine ends_skip ?_
    refine ends_seq ?_
    refine ends_block ?_
    refine sr [] [] ⟨[eTree.fz s0, .fn g1_ cap1_, .any, .int .i64 x0, .int .i64 (s0.length : Int), .int .i64 x0, .any, .any], [], h⟩ ((True) ∧ True) (by kernel_rfl) ⟨trivial, trivial⟩ ?_
    refine ends_seq ?_
    obtain ⟨v0, e0, H⟩ := bsi H
    obtain ⟨r0, e1, H⟩ := bsi H
    refine er [] [(3, .fp (eTree.l s0) (x0.toNat * 2), none), (4, .agg [eNode.fz v0.nodes, .int .i64 v0.root], none), (5, .bool r0, some h)] ⟨[eTree.fz s0, .fn g1_ cap1_, .any, .int .i64 x0, .int .i64 (s0.length : Int), .int .i64 x0, .any, .bool r0], [], h⟩ ((True) ∧ indexAddrA Tryd.prog 22 (eTree.fz s0) (.int .i64 x0) = some (.fp (eTree.l s0) (x0.toNat * 2)) ∧ loadH Tryd.prog h 31 (.fp (eTree.l s0) (x0.toNat * 2)) = some (.agg [eNode.fz v0.nodes, .int .i64 v0.root]) ∧ callO cf (.fn g1_ cap1_) [.agg [eNode.fz v0.nodes, .int .i64 v0.root]] h = some (.bool r0, h) ∧ True) (by kernel_rfl) ⟨trivial, ⟨ia_fz (E := eTree) (l := s0) T22 e0, ld_fzA (E := eTree) (l := s0) h A31 Z31 e0, callO_of (by kernel_rfl) (Hp1_ _ _ e1), trivial⟩⟩ ?_
    refine ends_cond (r0) (by kernel_rfl) (fun c1 => ?_) (fun c1 => ?_)
    · have H := ifp c1 H
      refine sr [] [] ⟨.any :: .any :: .int .i64 x0 :: Ay5 [], [], h⟩ ((True) ∧ True) (by kernel_rfl) ⟨trivial, trivial⟩ ?_
      refine ends_ret ?_
      have H := Option.some.inj H
      exact Or.inr (⟨rfl, _, H, ⟨by kernel_rfl, rfl⟩⟩)
    · have H := ifn c1 H
      refine ends_skip ?_
      refine er [] [] ⟨[eTree.fz s0, .fn g1_ cap1_, .any, .any, .int .i64 (s0.length : Int), .int .i64 (i64.wrap (x0 + (1 : Int))), .any, .any], [], h⟩ ((True) ∧ True) (by kernel_rfl) ⟨trivial, trivial⟩ ?_
      exact ⟨i64.wrap (x0 + (1 : Int)), ⟨.any, .any, rfl, o0⟩, H⟩
  · have H := ifn c0 H
    refine ends_exit ?_
    have H := Option.some.inj H
    exact Or.inl (⟨rfl, x0, H, eTree.fz s0, .fn g1_ cap1_, .int .i64 (s0.length : Int), .int .i64 x0, .bool (decide (x0 < (s0.length : Int))), .any, rfl, o0⟩)
theorem IndexFT_body {ann : FuncId → Ann} (ha : ann 51 = ann51)  (s0 : List VTree) (f0 : VTree → Option (Bool)) (h : AHeap) (L : Mem) (g1_ : FuncId) (cap1_ : List AV)  (hc1_ : canonArg (.fn g1_ cap1_) = .fn g1_ cap1_) (Hp1_ : ∀ (a0 : VTree) r, f0 a0 = some r → cf g1_ ([.agg [eNode.fz a0.nodes, .int .i64 a0.root]] ++ cap1_) h = some (.bool r, h)) (o : Has h (L)) {out : Int} (H : IndexFT.f m s0 f0 = some out) :
    ∃ r h', bodyA Tryd.prog ann cf m 51 [eTree.fz s0, .fn g1_ cap1_] h = some (r, h') ∧ r = (.int .i64 out) ∧ h' = h := by
  refine body_of_ends2 (fn := Tryd.f51) ha Tryd.func51 (by kernel_rfl) (by kernel_rfl) ?_
  refine ends_fin (Q := fun s => IndexFT.fin h out s) (fun _ _ ⟨h1, h2, h3⟩ => ⟨h1, _, h2, rfl, h3⟩) ?_
  refine ends_of_eq g51_eq ?_
  have H : _ = some out := H
  unfold IndexFT.f at H
  show Enz _ cf ann51 m _ ⟨eTree.fz s0 :: .fn g1_ cap1_ :: Ay6 [], [], h⟩ _
  refine sr [] [] ⟨eTree.fz s0 :: .fn g1_ cap1_ :: Ay6 [], [], h⟩ ((True) ∧ True) (by kernel_rfl) ⟨trivial, trivial⟩ ?_
  refine ends_seq ?_
  refine sr [] [] ⟨[eTree.fz s0, .fn g1_ cap1_, .any, .any, .int .i64 (s0.length : Int), .int .i64 (0 : Int), .any, .any], [], h⟩ ((True) ∧ True) (by kernel_rfl) ⟨trivial, trivial⟩ ?_
  refine ends_block ?_
  obtain ⟨out0, e2, H⟩ := bsi H
  refine ends_mono (IndexFT.l0_ok h L g1_ cap1_ s0 f0  hc1_ Hp1_  (σ := (0 : Int)) ⟨.any, .any, rfl, o⟩ e2) ?_
  rintro e s (⟨rfl, x1, rfl, g2, g3, g4, g5, g6, g7, rfl, o1⟩ | ⟨rfl, r1, rfl, hf0⟩)
  · try dsimp only at H
    refine sr [] [] ⟨.any :: .any :: .int .i64 (-1 : Int) :: Ay5 [], [], h⟩ ((True) ∧ True) (by kernel_rfl) ⟨trivial, trivial⟩ ?_
    refine ends_ret ?_
    have H := Option.some.inj H
    subst H
    exact ⟨.inl rfl, ⟨by kernel_rfl, rfl⟩⟩
  · try dsimp only at H
    have H := Option.some.inj H
    subst H
    exact ⟨.inl rfl, hf0⟩
end
end Go.Proofs.YtmekcfdllhphlaaDoor

namespace Go.Proofs.YtmekcfdllhphlaaDoor
open Go Go.R
open Go.IntKind (i64 u64 u8 u32)
def ann32 : Ann := { keep := [0, 1, 4], locs := [], dead := [(0, [4]), (1, [0, 1])], frz := [], frz2 := [] }
noncomputable def g32R0 := sub [0] (codeOf Tryd.f32)
noncomputable def g32R1 := sub [1, 0] (codeOf Tryd.f32)
theorem g32_eq : codeOf Tryd.f32 = (.seq g32R0 (.seq g32R1 .ret)) := by kernel_rfl
def ContainsFT.f (m : Nat) (s0 : List VTree) (f0 : VTree → Option (Bool)) : Option (Bool) := (IndexFT.f m s0 f0).bind fun x0 => some (decide (x0 ≥ (0 : Int)))
def ContainsFT.fin (h : AHeap) (r : Bool) (s : St) : Prop := resultA Tryd.prog (s.open ann32) Tryd.f32.results.toList = some (.bool r) ∧ s.h = h
def S32 (cf : CallF) (m : Nat) : Prop := ∀ (s0 : List VTree) (f0 : VTree → Option (Bool)) (r : Bool), ContainsFT.f m s0 f0 = some r → ∀ h, 0 < h.next → ∀ (g1_ : FuncId) (cap1_ : List AV), canonArg (.fn g1_ cap1_) = .fn g1_ cap1_ → (∀ (a0 : VTree) r, f0 a0 = some r → cf g1_ ([.agg [eNode.fz a0.nodes, .int .i64 a0.root]] ++ cap1_) h = some (.bool r, h)) → ∀ xs, xs.map canonArg = [eTree.fz s0, .fn g1_ cap1_] → cf 32 xs h = some (.bool r, h)
section
variable {cf : CallF} {m : Nat}
theorem ContainsFT_body {ann : FuncId → Ann} (ha : ann 32 = ann32) (S51_ : S51 cf m) (s0 : List VTree) (f0 : VTree → Option (Bool)) (h : AHeap) (L : Mem) (g1_ : FuncId) (cap1_ : List AV)  (hc1_ : canonArg (.fn g1_ cap1_) = .fn g1_ cap1_) (Hp1_ : ∀ (a0 : VTree) r, f0 a0 = some r → cf g1_ ([.agg [eNode.fz a0.nodes, .int .i64 a0.root]] ++ cap1_) h = some (.bool r, h)) (o : Has h (L)) {out : Bool} (H : ContainsFT.f m s0 f0 = some out) :
    ∃ r h', bodyA Tryd.prog ann cf m 32 [eTree.fz s0, .fn g1_ cap1_] h = some (r, h') ∧ r = (.bool out) ∧ h' = h := by
  refine body_of_ends2 (fn := Tryd.f32) ha Tryd.func32 (by kernel_rfl) (by kernel_rfl) ?_
  refine ends_fin (Q := fun s => ContainsFT.fin h out s) (fun _ _ ⟨h1, h2, h3⟩ => ⟨h1, _, h2, rfl, h3⟩) ?_
  refine ends_of_eq g32_eq ?_
  have H : _ = some out := H
  unfold ContainsFT.f at H
  show Enz _ cf ann32 m _ ⟨[eTree.fz s0, .fn g1_ cap1_, .any], [], h⟩ _
  refine sr [] [] ⟨[eTree.fz s0, .fn g1_ cap1_, .any], [], h⟩ ((True) ∧ True) (by kernel_rfl) ⟨trivial, trivial⟩ ?_
  refine ends_seq ?_
  obtain ⟨x0, e0, H⟩ := bsi H
  refine er [] [(2, .int .i64 x0, some h)] ⟨[.any, .any, .bool (decide (x0 ≥ (0 : Int)))], [], h⟩ ((True) ∧ callO cf (.fn 51 []) [eTree.fz s0, .fn g1_ cap1_] h = some (.int .i64 x0, h) ∧ True) (by kernel_rfl) ⟨trivial, ⟨callO_of (by kernel_rfl) (S51_ _ _ _ e0 h (Has.pos o) g1_ cap1_ hc1_ Hp1_ _ (can_cons (can_pure (pu_fz (E := eTree))) (can_cons (hc1_) (can_nil)))), trivial⟩⟩ ?_
  refine ends_ret ?_
  have H := Option.some.inj H
  subst H
  exact ⟨.inl rfl, ⟨by kernel_rfl, rfl⟩⟩
end
end Go.Proofs.YtmekcfdllhphlaaDoor

