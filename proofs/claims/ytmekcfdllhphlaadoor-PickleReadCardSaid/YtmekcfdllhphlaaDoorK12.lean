/- Part of the proof: Q60, Q44, PR3, PR4, PR5, Q21, Q42, Q36, Q31, Q35, Q33. -/
import Derived.Test.YtmekcfdllhphlaaDoorK11
set_option linter.unusedVariables false
set_option linter.unusedSimpArgs false
set_option maxRecDepth 100000
namespace Go.Proofs.YtmekcfdllhphlaaDoor
open Go Go.R
open Go.IntKind (i64 u64 u8 u32)
def ann60 : Ann := { keep := [0, 2, 3, 4, 19], locs := [], dead := [(0, [2, 3, 4, 19]), (1, [2, 4, 19]), (2, [2, 4]), (3, [0, 2, 3, 4, 19]), (4, [0, 3, 4, 19]), (5, [2, 19]), (6, [0, 2, 3, 19]), (7, [0, 3, 4, 19])], frz := [], frz2 := [] }
noncomputable def g60R0 := sub [0] (codeOf Tryd.f60)
noncomputable def g60R1 := sub [1, 0] (codeOf Tryd.f60)
noncomputable def g60R2 := sub [1, 1, 0, 0] (codeOf Tryd.f60)
noncomputable def g60R3 := sub [1, 1, 0, 1, 0, 0] (codeOf Tryd.f60)
noncomputable def g60R4 := sub [1, 1, 0, 1, 0, 1, 0] (codeOf Tryd.f60)
noncomputable def g60R5 := sub [1, 1, 1, 0] (codeOf Tryd.f60)
noncomputable def g60R6 := sub [1, 1, 1, 1, 0] (codeOf Tryd.f60)
noncomputable def g60R7 := sub [1, 1, 1, 1, 1, 0] (codeOf Tryd.f60)
theorem g60_eq : codeOf Tryd.f60 = (.seq g60R0 (.seq g60R1 (.seq (.seq g60R2 (.cond (.tmp 19) (.seq g60R3 (.seq g60R4 .ret)) .skip)) (.seq g60R5 (.seq g60R6 (.seq g60R7 .ret)))))) := by kernel_rfl
def rd_text.f (m : Nat) (r0 : Rdr) : Option (ByteArray × Rdr) := (rd_number.f m r0).bind fun x0 => if x0.2.f_bad = true then (some ((ByteArray.mk #[]), (Rdr.mk x0.2.f_b true))) else (if (decide (x0.1 > (x0.2.f_b.length : Int))) = true then (some ((ByteArray.mk #[]), (Rdr.mk x0.2.f_b true))) else ((slc x0.2.f_b (0 : Int) x0.1).bind fun v0 => (slc x0.2.f_b x0.1 (x0.2.f_b.length : Int)).bind fun v1 => some (bytesStr v0, (Rdr.mk v1 x0.2.f_bad))))
def rd_text.fin (L : Mem) (ad0 : Nat) (r0 : Rdr) (r : ByteArray × Rdr) (s : St) : Prop := resultA Tryd.prog (s.open ann60) Tryd.f60.results.toList = some (.str r.1) ∧ Has s.h ((ad0, .ob [eByte.fz r.2.f_b, .bool r.2.f_bad]) :: L)
def S60 (cf : CallF) (m : Nat) : Prop := ∀ (r0 : Rdr) (r : ByteArray × Rdr), rd_text.f m r0 = some r → ∀ h L (ad0 : Nat), Has h ((ad0, .ob [eByte.fz r0.f_b, .bool r0.f_bad]) :: L) → ∀ xs, xs.map canonArg = [.ptr ad0 0] → ∃ h', cf 60 xs h = some (.str r.1, h') ∧ Has h' ((ad0, .ob [eByte.fz r.2.f_b, .bool r.2.f_bad]) :: L)
section
variable {cf : CallF} {m : Nat}
theorem rd_text_body {ann : FuncId → Ann} (ha : ann 60 = ann60) (S43_ : S43 cf m) (r0 : Rdr) (h : AHeap) (L : Mem) (ad0 : Nat)  (o : Has h ((ad0, .ob [eByte.fz r0.f_b, .bool r0.f_bad]) :: L)) {out : ByteArray × Rdr} (H : rd_text.f m r0 = some out) :
    ∃ r h', bodyA Tryd.prog ann cf m 60 [.ptr ad0 0] h = some (r, h') ∧ r = .str out.1 ∧ Has h' ((ad0, .ob [eByte.fz out.2.f_b, .bool out.2.f_bad]) :: L) := by
  refine body_of_ends2 (fn := Tryd.f60) ha Tryd.func60 (by kernel_rfl) (by kernel_rfl) ?_
  refine ends_fin (Q := fun s => rd_text.fin L ad0 r0 out s) (fun _ _ ⟨h1, h2, h3⟩ => ⟨h1, _, h2, rfl, h3⟩) ?_
  refine ends_of_eq g60_eq ?_
  have H : _ = some out := H
  unfold rd_text.f at H
  show Enz _ cf ann60 m _ ⟨.ptr ad0 0 :: Ay4 [], [], h⟩ _
  refine sr [] [] ⟨.ptr ad0 0 :: Ay4 [], [], h⟩ ((True) ∧ True) (by kernel_rfl) ⟨trivial, trivial⟩ ?_
  refine ends_seq ?_
  obtain ⟨x0, e0, H⟩ := bsi H
  obtain ⟨h0, e1, o0⟩ := S43_ _ _ e0 h _ _ (o)  [.ptr ad0 0] (can_cons (rfl) (can_nil))
  refine er [] [(1, .int .i64 x0.1, some h0)] ⟨[.ptr ad0 0, .any, .int .i64 x0.1, .any, .any], [], h0⟩ ((True) ∧ callO cf (.fn 43 []) [.ptr ad0 0] h = some (.int .i64 x0.1, h0) ∧ True) (by kernel_rfl) ⟨trivial, ⟨callO_of (by kernel_rfl) e1, trivial⟩⟩ ?_
  refine ends_seq ?_
  refine ends_seq ?_
  rcases bft (x0.2.f_bad) with c0 | c0
  · have H := ifp c0 H
    refine er [] [(3, .bool x0.2.f_bad, none), (4, .bool true, none)] ⟨[.ptr ad0 0, .any, .int .i64 x0.1, .any, .bool true], [], h0⟩ ((True) ∧ loadH Tryd.prog h0 4 (.ptr ad0 1) = some (.bool x0.2.f_bad) ∧ AV.bool x0.2.f_bad = AV.bool true ∧ True) (by kernel_rfl) ⟨trivial, ⟨ld_ob (q := 0) (cs := [eByte.fz x0.2.f_b, .bool x0.2.f_bad]) o0 rfl (by kernel_rfl), congrArg AV.bool c0, trivial⟩⟩ ?_
    refine ends_cond true (by kernel_rfl) (fun c1 => ?_) (fun c1 => ?_)
    rotate_left
    · cases c1
    refine ends_seq ?_
    obtain ⟨h1, e2, o1⟩ := st_ob (P := Tryd.prog) (t := 4) (off := 1) (q := 0) (cs := [eByte.fz x0.2.f_b, .bool x0.2.f_bad]) (cs' := [eByte.fz x0.2.f_b, .bool true]) (x := .bool true) o0 rfl (by kernel_rfl)
    refine er [] [(3, .any, some h1)] ⟨Ay5 [], [], h1⟩ ((True) ∧ storeH Tryd.prog h0 4 (.ptr ad0 1) (.bool true) = some h1 ∧ True) (by kernel_rfl) ⟨trivial, ⟨e2, trivial⟩⟩ ?_
    refine sr [] [] ⟨.any :: .str (ByteArray.mk #[]) :: Ay3 [], [], h1⟩ ((True) ∧ True) (by kernel_rfl) ⟨trivial, trivial⟩ ?_
    refine ends_ret ?_
    have H := Option.some.inj H
    subst H
    exact ⟨.inl rfl, ⟨by kernel_rfl, o1⟩⟩
  · have H := ifn c0 H
    refine er [] [(3, .bool x0.2.f_bad, none), (4, .bool false, none), (9, eByte.fz x0.2.f_b, none)] ⟨[.ptr ad0 0, .any, .int .i64 x0.1, .any, .bool (decide (x0.1 > (x0.2.f_b.length : Int)))], [], h0⟩ ((True) ∧ loadH Tryd.prog h0 4 (.ptr ad0 1) = some (.bool x0.2.f_bad) ∧ AV.bool x0.2.f_bad = AV.bool false ∧ loadH Tryd.prog h0 25 (.ptr ad0 0) = some (eByte.fz x0.2.f_b) ∧ True) (by kernel_rfl) ⟨trivial, ⟨ld_ob (q := 0) (cs := [eByte.fz x0.2.f_b, .bool x0.2.f_bad]) o0 rfl (by kernel_rfl), congrArg AV.bool c0, ld_ob (q := 0) (cs := [eByte.fz x0.2.f_b, .bool x0.2.f_bad]) o0 rfl (by kernel_rfl), trivial⟩⟩ ?_
    refine ends_cond (decide (x0.1 > (x0.2.f_b.length : Int))) (by kernel_rfl) (fun c2 => ?_) (fun c2 => ?_)
    · have H := ifp c2 H
      refine ends_seq ?_
      obtain ⟨h2, e3, o2⟩ := st_ob (P := Tryd.prog) (t := 4) (off := 1) (q := 0) (cs := [eByte.fz x0.2.f_b, .bool x0.2.f_bad]) (cs' := [eByte.fz x0.2.f_b, .bool true]) (x := .bool true) o0 rfl (by kernel_rfl)
      refine er [] [(3, .any, some h2)] ⟨Ay5 [], [], h2⟩ ((True) ∧ storeH Tryd.prog h0 4 (.ptr ad0 1) (.bool true) = some h2 ∧ True) (by kernel_rfl) ⟨trivial, ⟨e3, trivial⟩⟩ ?_
      refine sr [] [] ⟨.any :: .str (ByteArray.mk #[]) :: Ay3 [], [], h2⟩ ((True) ∧ True) (by kernel_rfl) ⟨trivial, trivial⟩ ?_
      refine ends_ret ?_
      have H := Option.some.inj H
      subst H
      exact ⟨.inl rfl, ⟨by kernel_rfl, o2⟩⟩
    · have H := ifn c2 H
      refine ends_skip ?_
      refine ends_seq ?_
      obtain ⟨v0, e4, H⟩ := bsi H
      refine er [] [(3, eByte.fz x0.2.f_b, none), (5, eByte.fz v0, none), (6, .str (bytesStr v0), none)] ⟨[.ptr ad0 0, .any, .int .i64 x0.1, .str (bytesStr v0), .any], [], h0⟩ ((True) ∧ loadH Tryd.prog h0 25 (.ptr ad0 0) = some (eByte.fz x0.2.f_b) ∧ sliceA Tryd.prog 25 (eByte.fz x0.2.f_b) none (some (.int .i64 x0.1)) none = some (eByte.fz v0) ∧ convertA Tryd.prog h0 25 9 (eByte.fz v0) = some (.str (bytesStr v0)) ∧ True) (by kernel_rfl) ⟨trivial, ⟨ld_ob (q := 0) (cs := [eByte.fz x0.2.f_b, .bool x0.2.f_bad]) o0 rfl (by kernel_rfl), sl_fz01 (E := eByte) T25 e4, cv_str (e := 5) (l := v0) rfl rfl rfl (cc_fz _), trivial⟩⟩ ?_
      refine ends_seq ?_
      obtain ⟨v1, e5, H⟩ := bsi H
      obtain ⟨h3, e6, o3⟩ := st_ob (P := Tryd.prog) (t := 25) (off := 0) (q := 0) (cs := [eByte.fz x0.2.f_b, .bool x0.2.f_bad]) (cs' := [eByte.fz v1, .bool x0.2.f_bad]) (x := eByte.fz v1) o0 rfl (by kernel_rfl)
      refine er [] [(4, eByte.fz x0.2.f_b, none), (6, eByte.fz v1, none), (9, .any, some h3)] ⟨Ay3 [.str (bytesStr v0), .any], [], h3⟩ ((True) ∧ loadH Tryd.prog h0 25 (.ptr ad0 0) = some (eByte.fz x0.2.f_b) ∧ sliceA Tryd.prog 25 (eByte.fz x0.2.f_b) (some (.int .i64 x0.1)) none none = some (eByte.fz v1) ∧ storeH Tryd.prog h0 25 (.ptr ad0 0) (eByte.fz v1) = some h3 ∧ True) (by kernel_rfl) ⟨trivial, ⟨ld_ob (q := 0) (cs := [eByte.fz x0.2.f_b, .bool x0.2.f_bad]) o0 rfl (by kernel_rfl), sl_fz10 (E := eByte) T25 e5, e6, trivial⟩⟩ ?_
      refine sr [] [] ⟨.any :: .str (bytesStr v0) :: Ay3 [], [], h3⟩ ((True) ∧ True) (by kernel_rfl) ⟨trivial, trivial⟩ ?_
      refine ends_ret ?_
      have H := Option.some.inj H
      subst H
      exact ⟨.inl rfl, ⟨by kernel_rfl, o3⟩⟩
end
end Go.Proofs.YtmekcfdllhphlaaDoor

namespace Go.Proofs.YtmekcfdllhphlaaDoor
open Go Go.R
open Go.IntKind (i64 u64 u8 u32)
def ann44 : Ann := { keep := [0, 2, 3, 4, 5, 11, 15, 20, 29, 35, 40, 48, 53, 54, 55], locs := [2, 3], dead := [(0, [3, 4, 5, 11, 15, 20, 29, 35, 40, 48, 53, 54, 55]), (1, [4, 5, 11, 15, 20, 29, 35, 40, 48, 53, 54, 55]), (2, [4, 5, 15, 20, 29, 35, 40, 48, 53, 54, 55]), (3, [0, 4, 5, 11, 15, 20, 29, 35, 40, 48, 53, 54, 55]), (4, [4, 5, 20, 29, 35, 40, 48, 53, 54, 55]), (5, [0, 4, 5, 11, 15, 20, 29, 35, 40, 48, 53, 54, 55]), (6, [4, 5, 15, 29, 35, 40, 48, 53, 54, 55]), (7, [0, 5, 11, 15, 20, 29, 35, 40, 48, 53, 54, 55]), (8, [0, 5, 11, 15, 20, 29, 35, 40, 48, 53, 54, 55]), (9, [0, 5, 11, 15, 20, 35, 40, 48, 53, 54, 55]), (10, [0, 4, 5, 11, 15, 20, 29, 35, 40, 48, 53, 54, 55]), (11, [4, 5, 15, 20, 29, 40, 48, 53, 54, 55]), (12, [0, 4, 5, 11, 15, 20, 29, 35, 40, 48, 53, 54, 55]), (13, [4, 5, 11, 15, 20, 29, 35, 48, 53, 54, 55]), (14, [4, 5, 11, 15, 20, 29, 35, 40, 48, 53, 54, 55]), (15, [4, 11, 15, 20, 29, 35, 40, 48, 53, 54, 55]), (16, [4, 11, 15, 20, 29, 35, 40, 53, 54, 55]), (17, [4, 11, 15, 20, 29, 35, 40, 48, 53, 54, 55]), (18, [4, 5, 11, 15, 20, 29, 35, 40, 48, 55]), (19, [4, 5, 11, 15, 20, 29, 35, 40, 48]), (20, [4, 5, 11, 15, 20, 29, 35, 40, 48, 55]), (21, [4, 5, 11, 15, 20, 29, 35, 40, 48, 55]), (22, [0, 3, 4, 5, 11, 15, 20, 29, 35, 40, 48, 53, 54, 55])], frz := [(22, [(3, some 3, 0)])], frz2 := [(1, [(3, some 3, 1)])] }
noncomputable def g44R0 := sub [0] (codeOf Tryd.f44)
noncomputable def g44R1 := sub [1, 0] (codeOf Tryd.f44)
noncomputable def g44R2 := sub [1, 1, 0, 0] (codeOf Tryd.f44)
noncomputable def g44R4 := sub [1, 1, 0, 1, 0, 0] (codeOf Tryd.f44)
noncomputable def g44R5 := sub [1, 1, 0, 1, 0, 1, 0] (codeOf Tryd.f44)
noncomputable def g44R6 := sub [1, 1, 0, 1, 0, 1, 1, 0] (codeOf Tryd.f44)
noncomputable def g44R7 := sub [1, 1, 0, 1, 0, 1, 1, 1, 0, 0] (codeOf Tryd.f44)
noncomputable def g44R8 := sub [1, 1, 0, 1, 0, 1, 1, 1, 0, 1, 0] (codeOf Tryd.f44)
noncomputable def g44R9 := sub [1, 1, 0, 1, 0, 1, 1, 1, 0, 1, 1, 0] (codeOf Tryd.f44)
noncomputable def g44R10 := sub [1, 1, 0, 1, 0, 1, 1, 1, 0, 1, 1, 1, 0] (codeOf Tryd.f44)
noncomputable def g44R11 := sub [1, 1, 0, 1, 0, 1, 1, 1, 1, 0] (codeOf Tryd.f44)
noncomputable def g44R12 := sub [1, 1, 0, 1, 0, 1, 1, 1, 1, 1, 0] (codeOf Tryd.f44)
noncomputable def g44R13 := sub [1, 1, 0, 1, 0, 1, 1, 1, 1, 1, 1, 0] (codeOf Tryd.f44)
noncomputable def g44R14 := sub [1, 1, 0, 1, 0, 1, 1, 1, 1, 1, 1, 1, 0, 0] (codeOf Tryd.f44)
noncomputable def g44R15 := sub [1, 1, 0, 1, 0, 1, 1, 1, 1, 1, 1, 1, 0, 1, 0] (codeOf Tryd.f44)
noncomputable def g44R16 := sub [1, 1, 0, 1, 0, 1, 1, 1, 1, 1, 1, 1, 0, 1, 1, 0, 0] (codeOf Tryd.f44)
noncomputable def g44R17 := sub [1, 1, 0, 1, 0, 1, 1, 1, 1, 1, 1, 1, 0, 1, 1, 0, 1, 0] (codeOf Tryd.f44)
noncomputable def g44R18 := sub [1, 1, 0, 1, 0, 1, 1, 1, 1, 1, 1, 1, 0, 1, 1, 1, 0] (codeOf Tryd.f44)
noncomputable def g44L0 := sub [1, 1, 0, 1, 0, 1, 1, 1, 1, 1, 1, 1, 0, 1, 1, 1, 1, 0, 0] (codeOf Tryd.f44)
noncomputable def g44R19 := sub [1, 1, 0, 1, 0, 1, 1, 1, 1, 1, 1, 1, 0, 1, 1, 1, 1, 0, 0, 0] (codeOf Tryd.f44)
noncomputable def g44R20 := sub [1, 1, 0, 1, 0, 1, 1, 1, 1, 1, 1, 1, 0, 1, 1, 1, 1, 0, 0, 1, 1, 0, 0] (codeOf Tryd.f44)
noncomputable def g44R21 := sub [1, 1, 0, 1, 0, 1, 1, 1, 1, 1, 1, 1, 0, 1, 1, 1, 1, 0, 0, 1, 1, 1] (codeOf Tryd.f44)
noncomputable def g44R3 := sub [1, 1, 0, 1, 0, 1, 1, 1, 1, 1, 1, 1, 1] (codeOf Tryd.f44)
noncomputable def g44R22 := sub [1, 1, 1, 0] (codeOf Tryd.f44)
theorem g44L0_eq : g44L0 = (.seq g44R19 (.seq (.cond (.tmp 55) .skip (.exit 1)) (.seq (.block 2 g44R20) g44R21))) := by kernel_rfl
theorem g44_eq : codeOf Tryd.f44 = (.seq g44R0 (.seq g44R1 (.seq (.seq g44R2 (.block 0 (.seq g44R4 (.cond (.tmp 15) g44R5 (.seq g44R6 (.cond (.tmp 20) (.seq g44R7 (.seq g44R8 (.seq g44R9 (.cond (.tmp 29) g44R10 .skip)))) (.seq g44R11 (.cond (.tmp 35) g44R12 (.seq g44R13 (.cond (.tmp 40) (.seq g44R14 (.seq g44R15 (.seq (.seq g44R16 (.cond (.tmp 48) g44R17 .skip)) (.seq g44R18 (.block 1 (.loop g44L0)))))) g44R3)))))))))) (.seq g44R22 .ret)))) := by kernel_rfl
def rd_node.l0 (m : Nat) (x5 : Int × Rdr) : Nat → Int → Int → Int → ByteArray → (List Int) → Rdr → Option (Int × Int × Int × ByteArray × (List Int) × Rdr)
  | 0, _, _, _, _, _, _ => none
  | k + 1, x6, n0, n1, n2, n3, r1 => if (decide (x6 < (mn x5.1 (8 : Int)))) = true then ((rd_number.f m r1).bind fun x7 => (app 8 n3 ([x7.1])).bind fun x8 => rd_node.l0 m x5 k (i64.wrap (x6 + (1 : Int))) n0 n1 n2 x8 x7.2) else (some ((x6, n0, n1, n2, n3, r1)))
def rd_node.l1 (m : Nat) (x5 : Int × Rdr) : Nat → Int → Int → Int → ByteArray → (List Int) → Rdr → Option (Int × Int × Int × ByteArray × (List Int) × Rdr)
  | 0, _, _, _, _, _, _ => none
  | k + 1, x10, n8, n9, n10, n11, r3 => if (decide (x10 < (mn x5.1 (8 : Int)))) = true then ((rd_number.f m r3).bind fun x11 => (app 8 n11 ([x11.1])).bind fun x12 => rd_node.l1 m x5 k (i64.wrap (x10 + (1 : Int))) n8 n9 n10 x12 x11.2) else (some ((x10, n8, n9, n10, n11, r3)))
def rd_node.f (m : Nat) (r0 : Rdr) : Option (VNode × Rdr) := (rd_byte.f m r0).bind fun x0 => if ((i64.wrap x0.1) == (0 : Int)) = true then ((rd_number.f m x0.2).bind fun x1 => some ((VNode.mk (i64.wrap x0.1) x1.1 (ByteArray.mk #[]) ([] : List Int)), x1.2)) else (if ((i64.wrap x0.1) == (1 : Int)) = true then ((rd_number.f m x0.2).bind fun x2 => if ((Int.tmod x2.1 (2 : Int)) == (1 : Int)) = true then (some ((VNode.mk (i64.wrap x0.1) (i64.wrap (0 - (i64.wrap (i64.wrap (Int.tdiv x2.1 (2 : Int)) + (1 : Int))))) (ByteArray.mk #[]) ([] : List Int)), x2.2)) else (some ((VNode.mk (i64.wrap x0.1) (i64.wrap (Int.tdiv x2.1 (2 : Int))) (ByteArray.mk #[]) ([] : List Int)), x2.2))) else (if ((i64.wrap x0.1) == (2 : Int)) = true then ((rd_text.f m x0.2).bind fun x3 => some ((VNode.mk (i64.wrap x0.1) (0 : Int) x3.1 ([] : List Int)), x3.2)) else (if ((i64.wrap x0.1) == (3 : Int)) = true then ((rd_text.f m x0.2).bind fun x4 => (rd_number.f m x4.2).bind fun x5 => if (decide (x5.1 > (8 : Int))) = true then ((rd_node.l0 m x5 m (0 : Int) (i64.wrap x0.1) (0 : Int) x4.1 ([] : List Int) (Rdr.mk x5.2.f_b true)).bind fun out0 => match out0 with | (x9, n4, n5, n6, n7, r2) => some ((VNode.mk n4 n5 n6 n7), r2)) else ((rd_node.l1 m x5 m (0 : Int) (i64.wrap x0.1) (0 : Int) x4.1 ([] : List Int) x5.2).bind fun out1 => match out1 with | (x13, n12, n13, n14, n15, r4) => some ((VNode.mk n12 n13 n14 n15), r4))) else (some ((VNode.mk (i64.wrap x0.1) (0 : Int) (ByteArray.mk #[]) ([] : List Int)), (Rdr.mk x0.2.f_b true))))))
def rd_node.fin (L : Mem) (ad0 : Nat) (r0 : Rdr) (r : VNode × Rdr) (s : St) : Prop := resultA Tryd.prog (s.open ann44) Tryd.f44.results.toList = some (.agg [.int .i64 r.1.kind, .int .i64 r.1.int, .str r.1.label, eInt.fz r.1.args]) ∧ Has s.h ((ad0, .ob [eByte.fz r.2.f_b, .bool r.2.f_bad]) :: L)
def S44 (cf : CallF) (m : Nat) : Prop := ∀ (r0 : Rdr) (r : VNode × Rdr), rd_node.f m r0 = some r → ∀ h L (ad0 : Nat), Has h ((ad0, .ob [eByte.fz r0.f_b, .bool r0.f_bad]) :: L) → ∀ xs, xs.map canonArg = [.ptr ad0 0] → ∃ h', cf 44 xs h = some (.agg [.int .i64 r.1.kind, .int .i64 r.1.int, .str r.1.label, eInt.fz r.1.args], h') ∧ Has h' ((ad0, .ob [eByte.fz r.2.f_b, .bool r.2.f_bad]) :: L)
section
variable {cf : CallF} {m : Nat}
def rd_node.l0.R (L : Mem) (ad0 : Nat) (r0 : Rdr) (x5 : Int × Rdr) (σ : Int × Int × Int × ByteArray × (List Int) × Rdr) (s : St) : Prop :=
  match σ with
  | (x6, n0, n1, n2, n3, r1) => ∃ (g0 : AV) (g1 : AV) (g2 : AV) (g3 : AV) (g4 : AV) (g5 : AV) (g6 : AV) (ad1 : Nat) (h11 : AHeap), s = ⟨.ptr ad0 0 :: .lp 2 0 :: .lp 3 0 :: Ay3 [g0, g1, g2, g3, g4, g5, .int .i64 (mn x5.1 (8 : Int)), .int .i64 x6, g6], [some [.int .i64 (0 : Int), .int .i64 (0 : Int), .str (ByteArray.mk #[]), .nils], some [.int .i64 n0, .int .i64 n1, .str n2, .rs ad1 0 n3.length 1]], h11⟩ ∧ Has h11 ((ad0, .ob [eByte.fz r1.f_b, .bool r1.f_bad]) :: (ad1, .sl n3.length 1 (eInt.l n3)) :: L)
def rd_node.l0.Q (L : Mem) (ad0 : Nat) (r0 : Rdr) (x5 : Int × Rdr) (out : Int × Int × Int × ByteArray × (List Int) × Rdr) (e : Ex) (s : St) : Prop :=
  (e = .exit 1 ∧ ∃ (x6 : Int) (n0 : Int) (n1 : Int) (n2 : ByteArray) (n3 : List Int) (r1 : Rdr), (x6, n0, n1, n2, n3, r1) = out ∧ ∃ (x0_ : AV) (x15_ : AV) (x20_ : AV) (x29_ : AV) (x35_ : AV) (x40_ : AV) (x48_ : AV) (x53_ : AV) (x54_ : AV) (x55_ : AV) (ad1 : Nat) (h11 : AHeap), s = ⟨x0_ :: .lp 2 0 :: .lp 3 0 :: Ay3 [x15_, x20_, x29_, x35_, x40_, x48_, x53_, x54_, x55_], [some [.int .i64 (0 : Int), .int .i64 (0 : Int), .str (ByteArray.mk #[]), .nils], some [.int .i64 n0, .int .i64 n1, .str n2, .rs ad1 0 n3.length 1]], h11⟩ ∧ Has h11 ((ad0, .ob [eByte.fz r1.f_b, .bool r1.f_bad]) :: (ad1, .sl n3.length 1 (eInt.l n3)) :: L))
theorem rd_node.l0_ok (L : Mem) (ad0 : Nat) (r0 : Rdr) (x5 : Int × Rdr)  (S43_ : S43 cf m) {σ : Int × Int × Int × ByteArray × (List Int) × Rdr} {s : St} {out : Int × Int × Int × ByteArray × (List Int) × Rdr} (hr : rd_node.l0.R L ad0 r0 x5 σ s) (H : (fun k σ => rd_node.l0 m x5 k σ.1 σ.2.1 σ.2.2.1 σ.2.2.2.1 σ.2.2.2.2.1 σ.2.2.2.2.2) m σ = some out) : Enz Tryd.prog cf ann44 m (.loop g44L0) s (rd_node.l0.Q L ad0 r0 x5 out) := by
  refine ends_loop (fun k σ => rd_node.l0 m x5 k σ.1 σ.2.1 σ.2.2.1 σ.2.2.2.1 σ.2.2.2.2.1 σ.2.2.2.2.2) (rd_node.l0.R L ad0 r0 x5) (rd_node.l0.Q L ad0 r0 x5) (fun _ => rfl) ?_ hr H (fun _ _ _ h => h)
  clear hr H σ s out
  rintro k ⟨x6, n0, n1, n2, n3, r1⟩ s out ⟨g0, g1, g2, g3, g4, g5, g6, ad1, h11, rfl, o12⟩ H
  have H : rd_node.l0 m x5 (k + 1) x6 n0 n1 n2 n3 r1 = some out := H
  refine ends_of_eq g44L0_eq ?_
  refine sr [] [] ⟨.ptr ad0 0 :: .lp 2 0 :: .lp 3 0 :: Ay9 [.int .i64 (mn x5.1 (8 : Int)), .int .i64 x6, .bool (decide (x6 < (mn x5.1 (8 : Int))))], [some [.int .i64 (0 : Int), .int .i64 (0 : Int), .str (ByteArray.mk #[]), .nils], some [.int .i64 n0, .int .i64 n1, .str n2, .rs ad1 0 n3.length 1]], h11⟩ ((True) ∧ True) (by kernel_rfl) ⟨trivial, trivial⟩ ?_
  refine ends_seq ?_
  refine ends_cond (decide (x6 < (mn x5.1 (8 : Int)))) (by kernel_rfl) (fun c6 => ?_) (fun c6 => ?_)
  · have H := ifp c6 H
    refine ends_skip ?_
    refine ends_seq ?_
    refine ends_block ?_
    obtain ⟨x7, e17, H⟩ := bsi H
    obtain ⟨h12, e18, o13⟩ := S43_ _ _ e17 h11 _ _ (o12)  [.ptr ad0 0] (can_cons (rfl) (can_nil))
    obtain ⟨x8, e19, H⟩ := bsi H
    obtain ⟨ad2, h13, e20, o14⟩ := ap_own (P := Tryd.prog) (E := eInt) (l := n3) (q := 1) (t2 := 42) (x := .fz [.int .i64 x7.1] 1 true) (l2 := ([x7.1])) T42 o13 rfl (by kernel_rfl) rfl e19
    refine er [] [(3, .int .i64 x7.1, some h12), (5, .rs ad2 0 x8.length 1, some h13)] ⟨.ptr ad0 0 :: .lp 2 0 :: .lp 3 0 :: Ay9 [.int .i64 (mn x5.1 (8 : Int)), .int .i64 x6, .any], [some [.int .i64 (0 : Int), .int .i64 (0 : Int), .str (ByteArray.mk #[]), .nils], some [.int .i64 n0, .int .i64 n1, .str n2, .rs ad2 0 x8.length 1]], h13⟩ ((True) ∧ callO cf (.fn 43 []) [.ptr ad0 0] h11 = some (.int .i64 x7.1, h12) ∧ appendA Tryd.prog h12 42 42 (.rs ad1 0 n3.length 1) (.fz [.int .i64 x7.1] 1 true) = some (.rs ad2 0 x8.length 1, h13) ∧ True) (by kernel_rfl) ⟨trivial, ⟨callO_of (by kernel_rfl) e18, e20, trivial⟩⟩ ?_
    refine er [] [] ⟨.ptr ad0 0 :: .lp 2 0 :: .lp 3 0 :: Ay9 [.int .i64 (mn x5.1 (8 : Int)), .int .i64 (i64.wrap (x6 + (1 : Int))), .any], [some [.int .i64 (0 : Int), .int .i64 (0 : Int), .str (ByteArray.mk #[]), .nils], some [.int .i64 n0, .int .i64 n1, .str n2, .rs ad2 0 x8.length 1]], h13⟩ ((True) ∧ True) (by kernel_rfl) ⟨trivial, trivial⟩ ?_
    exact ⟨(i64.wrap (x6 + (1 : Int)), n0, n1, n2, x8, x7.2), ⟨.any, .any, .any, .any, .any, .any, .any, ad2, h13, rfl, o14⟩, H⟩
  · have H := ifn c6 H
    refine ends_exit ?_
    have H := Option.some.inj H
    exact ⟨rfl, x6, n0, n1, n2, n3, r1, H, .ptr ad0 0, .any, .any, .any, .any, .any, .any, .int .i64 (mn x5.1 (8 : Int)), .int .i64 x6, .bool (decide (x6 < (mn x5.1 (8 : Int)))), ad1, h11, rfl, o12⟩
def rd_node.l1.R (L : Mem) (ad0 : Nat) (r0 : Rdr) (x5 : Int × Rdr) (σ : Int × Int × Int × ByteArray × (List Int) × Rdr) (s : St) : Prop :=
  match σ with
  | (x10, n8, n9, n10, n11, r3) => ∃ (g17 : AV) (g18 : AV) (g19 : AV) (g20 : AV) (g21 : AV) (g22 : AV) (g23 : AV) (ad4 : Nat) (h16 : AHeap), s = ⟨.ptr ad0 0 :: .lp 2 0 :: .lp 3 0 :: Ay3 [g17, g18, g19, g20, g21, g22, .int .i64 (mn x5.1 (8 : Int)), .int .i64 x10, g23], [some [.int .i64 (0 : Int), .int .i64 (0 : Int), .str (ByteArray.mk #[]), .nils], some [.int .i64 n8, .int .i64 n9, .str n10, .rs ad4 0 n11.length 1]], h16⟩ ∧ Has h16 ((ad0, .ob [eByte.fz r3.f_b, .bool r3.f_bad]) :: (ad4, .sl n11.length 1 (eInt.l n11)) :: L)
def rd_node.l1.Q (L : Mem) (ad0 : Nat) (r0 : Rdr) (x5 : Int × Rdr) (out : Int × Int × Int × ByteArray × (List Int) × Rdr) (e : Ex) (s : St) : Prop :=
  (e = .exit 1 ∧ ∃ (x10 : Int) (n8 : Int) (n9 : Int) (n10 : ByteArray) (n11 : List Int) (r3 : Rdr), (x10, n8, n9, n10, n11, r3) = out ∧ ∃ (x0_ : AV) (x15_ : AV) (x20_ : AV) (x29_ : AV) (x35_ : AV) (x40_ : AV) (x48_ : AV) (x53_ : AV) (x54_ : AV) (x55_ : AV) (ad4 : Nat) (h16 : AHeap), s = ⟨x0_ :: .lp 2 0 :: .lp 3 0 :: Ay3 [x15_, x20_, x29_, x35_, x40_, x48_, x53_, x54_, x55_], [some [.int .i64 (0 : Int), .int .i64 (0 : Int), .str (ByteArray.mk #[]), .nils], some [.int .i64 n8, .int .i64 n9, .str n10, .rs ad4 0 n11.length 1]], h16⟩ ∧ Has h16 ((ad0, .ob [eByte.fz r3.f_b, .bool r3.f_bad]) :: (ad4, .sl n11.length 1 (eInt.l n11)) :: L))
theorem rd_node.l1_ok (L : Mem) (ad0 : Nat) (r0 : Rdr) (x5 : Int × Rdr)  (S43_ : S43 cf m) {σ : Int × Int × Int × ByteArray × (List Int) × Rdr} {s : St} {out : Int × Int × Int × ByteArray × (List Int) × Rdr} (hr : rd_node.l1.R L ad0 r0 x5 σ s) (H : (fun k σ => rd_node.l1 m x5 k σ.1 σ.2.1 σ.2.2.1 σ.2.2.2.1 σ.2.2.2.2.1 σ.2.2.2.2.2) m σ = some out) : Enz Tryd.prog cf ann44 m (.loop g44L0) s (rd_node.l1.Q L ad0 r0 x5 out) := by
  refine ends_loop (fun k σ => rd_node.l1 m x5 k σ.1 σ.2.1 σ.2.2.1 σ.2.2.2.1 σ.2.2.2.2.1 σ.2.2.2.2.2) (rd_node.l1.R L ad0 r0 x5) (rd_node.l1.Q L ad0 r0 x5) (fun _ => rfl) ?_ hr H (fun _ _ _ h => h)
  clear hr H σ s out
  rintro k ⟨x10, n8, n9, n10, n11, r3⟩ s out ⟨g17, g18, g19, g20, g21, g22, g23, ad4, h16, rfl, o17⟩ H
  have H : rd_node.l1 m x5 (k + 1) x10 n8 n9 n10 n11 r3 = some out := H
  refine ends_of_eq g44L0_eq ?_
  refine sr [] [] ⟨.ptr ad0 0 :: .lp 2 0 :: .lp 3 0 :: Ay9 [.int .i64 (mn x5.1 (8 : Int)), .int .i64 x10, .bool (decide (x10 < (mn x5.1 (8 : Int))))], [some [.int .i64 (0 : Int), .int .i64 (0 : Int), .str (ByteArray.mk #[]), .nils], some [.int .i64 n8, .int .i64 n9, .str n10, .rs ad4 0 n11.length 1]], h16⟩ ((True) ∧ True) (by kernel_rfl) ⟨trivial, trivial⟩ ?_
  refine ends_seq ?_
  refine ends_cond (decide (x10 < (mn x5.1 (8 : Int)))) (by kernel_rfl) (fun c7 => ?_) (fun c7 => ?_)
  · have H := ifp c7 H
    refine ends_skip ?_
    refine ends_seq ?_
    refine ends_block ?_
    obtain ⟨x11, e23, H⟩ := bsi H
    obtain ⟨h17, e24, o18⟩ := S43_ _ _ e23 h16 _ _ (o17)  [.ptr ad0 0] (can_cons (rfl) (can_nil))
    obtain ⟨x12, e25, H⟩ := bsi H
    obtain ⟨ad5, h18, e26, o19⟩ := ap_own (P := Tryd.prog) (E := eInt) (l := n11) (q := 1) (t2 := 42) (x := .fz [.int .i64 x11.1] 1 true) (l2 := ([x11.1])) T42 o18 rfl (by kernel_rfl) rfl e25
    refine er [] [(3, .int .i64 x11.1, some h17), (5, .rs ad5 0 x12.length 1, some h18)] ⟨.ptr ad0 0 :: .lp 2 0 :: .lp 3 0 :: Ay9 [.int .i64 (mn x5.1 (8 : Int)), .int .i64 x10, .any], [some [.int .i64 (0 : Int), .int .i64 (0 : Int), .str (ByteArray.mk #[]), .nils], some [.int .i64 n8, .int .i64 n9, .str n10, .rs ad5 0 x12.length 1]], h18⟩ ((True) ∧ callO cf (.fn 43 []) [.ptr ad0 0] h16 = some (.int .i64 x11.1, h17) ∧ appendA Tryd.prog h17 42 42 (.rs ad4 0 n11.length 1) (.fz [.int .i64 x11.1] 1 true) = some (.rs ad5 0 x12.length 1, h18) ∧ True) (by kernel_rfl) ⟨trivial, ⟨callO_of (by kernel_rfl) e24, e26, trivial⟩⟩ ?_
    refine er [] [] ⟨.ptr ad0 0 :: .lp 2 0 :: .lp 3 0 :: Ay9 [.int .i64 (mn x5.1 (8 : Int)), .int .i64 (i64.wrap (x10 + (1 : Int))), .any], [some [.int .i64 (0 : Int), .int .i64 (0 : Int), .str (ByteArray.mk #[]), .nils], some [.int .i64 n8, .int .i64 n9, .str n10, .rs ad5 0 x12.length 1]], h18⟩ ((True) ∧ True) (by kernel_rfl) ⟨trivial, trivial⟩ ?_
    exact ⟨(i64.wrap (x10 + (1 : Int)), n8, n9, n10, x12, x11.2), ⟨.any, .any, .any, .any, .any, .any, .any, ad5, h18, rfl, o19⟩, H⟩
  · have H := ifn c7 H
    refine ends_exit ?_
    have H := Option.some.inj H
    exact ⟨rfl, x10, n8, n9, n10, n11, r3, H, .ptr ad0 0, .any, .any, .any, .any, .any, .any, .int .i64 (mn x5.1 (8 : Int)), .int .i64 x10, .bool (decide (x10 < (mn x5.1 (8 : Int)))), ad4, h16, rfl, o17⟩
theorem rd_node_body {ann : FuncId → Ann} (ha : ann 44 = ann44) (S43_ : S43 cf m) (S59_ : S59 cf m) (S60_ : S60 cf m) (r0 : Rdr) (h : AHeap) (L : Mem) (ad0 : Nat)  (o : Has h ((ad0, .ob [eByte.fz r0.f_b, .bool r0.f_bad]) :: L)) {out : VNode × Rdr} (H : rd_node.f m r0 = some out) :
    ∃ r h', bodyA Tryd.prog ann cf m 44 [.ptr ad0 0] h = some (r, h') ∧ r = .agg [.int .i64 out.1.kind, .int .i64 out.1.int, .str out.1.label, eInt.fz out.1.args] ∧ Has h' ((ad0, .ob [eByte.fz out.2.f_b, .bool out.2.f_bad]) :: L) := by
  refine body_of_ends2 (fn := Tryd.f44) ha Tryd.func44 (by kernel_rfl) (by kernel_rfl) ?_
  refine ends_fin (Q := fun s => rd_node.fin L ad0 r0 out s) (fun _ _ ⟨h1, h2, h3⟩ => ⟨h1, _, h2, rfl, h3⟩) ?_
  refine ends_of_eq g44_eq ?_
  have H : _ = some out := H
  unfold rd_node.f at H
  show Enz _ cf ann44 m _ ⟨.ptr ad0 0 :: Ay14 [], [none, none], h⟩ _
  refine sr [] [] ⟨.ptr ad0 0 :: .lp 2 0 :: Ay13 [], [some [.int .i64 (0 : Int), .int .i64 (0 : Int), .str (ByteArray.mk #[]), .nils], none], h⟩ ((True) ∧ True) (by kernel_rfl) ⟨trivial, trivial⟩ ?_
  refine ends_seq ?_
  obtain ⟨x0, e0, H⟩ := bsi H
  obtain ⟨h0, e1, o0⟩ := S59_ _ _ e0 h _ _ (o)  [.ptr ad0 0] (can_cons (rfl) (can_nil))
  refine er [] [(1, .int .u8 x0.1, some h0)] ⟨.ptr ad0 0 :: .lp 2 0 :: .lp 3 0 :: Ay12 [], [some [.int .i64 (0 : Int), .int .i64 (0 : Int), .str (ByteArray.mk #[]), .nils], some [.int .i64 (i64.wrap x0.1), .int .i64 (0 : Int), .str (ByteArray.mk #[]), .rs (0) 0 (([] : List Int).length) 1]], h0⟩ ((True) ∧ callO cf (.fn 59 []) [.ptr ad0 0] h = some (.int .u8 x0.1, h0) ∧ True) (by kernel_rfl) ⟨trivial, ⟨callO_of (by kernel_rfl) e1, trivial⟩⟩ ?_
  have o1 : Has h0 (((0), .sl (([] : List Int).length) 1 (eInt.l ([] : List Int))) :: (ad0, .ob [eByte.fz x0.2.f_b, .bool x0.2.f_bad]) :: L) := Has.nil o0 1
  refine ends_seq ?_
  refine sr [] [] ⟨.ptr ad0 0 :: .lp 2 0 :: .lp 3 0 :: .any :: .any :: .int .i64 (i64.wrap x0.1) :: Ay9 [], [some [.int .i64 (0 : Int), .int .i64 (0 : Int), .str (ByteArray.mk #[]), .nils], some [.int .i64 (i64.wrap x0.1), .int .i64 (0 : Int), .str (ByteArray.mk #[]), .rs (0) 0 (([] : List Int).length) 1]], h0⟩ ((True) ∧ True) (by kernel_rfl) ⟨trivial, trivial⟩ ?_
  refine ends_block ?_
  refine sr [] [] ⟨.ptr ad0 0 :: .lp 2 0 :: .lp 3 0 :: .any :: .any :: .int .i64 (i64.wrap x0.1) :: .bool ((i64.wrap x0.1) == (0 : Int)) :: Ay8 [], [some [.int .i64 (0 : Int), .int .i64 (0 : Int), .str (ByteArray.mk #[]), .nils], some [.int .i64 (i64.wrap x0.1), .int .i64 (0 : Int), .str (ByteArray.mk #[]), .rs (0) 0 (([] : List Int).length) 1]], h0⟩ ((True) ∧ True) (by kernel_rfl) ⟨trivial, trivial⟩ ?_
  refine ends_cond ((i64.wrap x0.1) == (0 : Int)) (by kernel_rfl) (fun c0 => ?_) (fun c0 => ?_)
  · have H := ifp c0 H
    obtain ⟨x1, e2, H⟩ := bsi H
    obtain ⟨h1, e3, o2⟩ := S43_ _ _ e2 h0 _ _ ((Has.front (Has.front o1 0 rfl) 1 rfl))  [.ptr ad0 0] (can_cons (rfl) (can_nil))
    refine er [] [(1, .int .i64 x1.1, some h1)] ⟨.any :: .lp 2 0 :: .lp 3 0 :: Ay12 [], [some [.int .i64 (0 : Int), .int .i64 (0 : Int), .str (ByteArray.mk #[]), .nils], some [.int .i64 (i64.wrap x0.1), .int .i64 x1.1, .str (ByteArray.mk #[]), .rs (0) 0 (([] : List Int).length) 1]], h1⟩ ((True) ∧ callO cf (.fn 43 []) [.ptr ad0 0] h0 = some (.int .i64 x1.1, h1) ∧ True) (by kernel_rfl) ⟨trivial, ⟨callO_of (by kernel_rfl) e3, trivial⟩⟩ ?_
    refine ends_seq ?_
    obtain ⟨h2, e4, o3⟩ := fr_own (E := eInt) (l := ([] : List Int)) (q := 1) o2 rfl
    refine er [(eInt.fz ([] : List Int), h2)] [] ⟨.any :: .lp 2 0 :: Ay13 [], [some [.int .i64 (i64.wrap x0.1), .int .i64 x1.1, .str (ByteArray.mk #[]), eInt.fz ([] : List Int)], none], h2⟩ ((frzV 0 h1 (.rs (0) 0 (([] : List Int).length) 1) = some (eInt.fz ([] : List Int), h2) ∧ True) ∧ True) (by kernel_rfl) ⟨⟨e4, trivial⟩, trivial⟩ ?_
    refine ends_ret ?_
    have H := Option.some.inj H
    subst H
    exact ⟨.inl rfl, ⟨by kernel_rfl, o3⟩⟩
  · have H := ifn c0 H
    refine sr [] [] ⟨.ptr ad0 0 :: .lp 2 0 :: .lp 3 0 :: .any :: .any :: .int .i64 (i64.wrap x0.1) :: .any :: .bool ((i64.wrap x0.1) == (1 : Int)) :: Ay7 [], [some [.int .i64 (0 : Int), .int .i64 (0 : Int), .str (ByteArray.mk #[]), .nils], some [.int .i64 (i64.wrap x0.1), .int .i64 (0 : Int), .str (ByteArray.mk #[]), .rs (0) 0 (([] : List Int).length) 1]], h0⟩ ((True) ∧ True) (by kernel_rfl) ⟨trivial, trivial⟩ ?_
    refine ends_cond ((i64.wrap x0.1) == (1 : Int)) (by kernel_rfl) (fun c1 => ?_) (fun c1 => ?_)
    · have H := ifp c1 H
      refine ends_seq ?_
      obtain ⟨x2, e5, H⟩ := bsi H
      obtain ⟨h3, e6, o4⟩ := S43_ _ _ e5 h0 _ _ ((Has.front (Has.front o1 0 rfl) 1 rfl))  [.ptr ad0 0] (can_cons (rfl) (can_nil))
      refine er [] [(1, .int .i64 x2.1, some h3)] ⟨.any :: .lp 2 0 :: .lp 3 0 :: .int .i64 x2.1 :: Ay11 [], [some [.int .i64 (0 : Int), .int .i64 (0 : Int), .str (ByteArray.mk #[]), .nils], some [.int .i64 (i64.wrap x0.1), .int .i64 (0 : Int), .str (ByteArray.mk #[]), .rs (0) 0 (([] : List Int).length) 1]], h3⟩ ((True) ∧ callO cf (.fn 43 []) [.ptr ad0 0] h0 = some (.int .i64 x2.1, h3) ∧ True) (by kernel_rfl) ⟨trivial, ⟨callO_of (by kernel_rfl) e6, trivial⟩⟩ ?_
      refine sr [] [] ⟨.any :: .lp 2 0 :: .lp 3 0 :: .int .i64 x2.1 :: Ay11 [], [some [.int .i64 (0 : Int), .int .i64 (0 : Int), .str (ByteArray.mk #[]), .nils], some [.int .i64 (i64.wrap x0.1), .int .i64 (i64.wrap (Int.tdiv x2.1 (2 : Int))), .str (ByteArray.mk #[]), .rs (0) 0 (([] : List Int).length) 1]], h3⟩ ((True) ∧ True) (by kernel_rfl) ⟨trivial, trivial⟩ ?_
      refine sr [] [] ⟨.any :: .lp 2 0 :: .lp 3 0 :: .int .i64 x2.1 :: Ay4 (.bool ((Int.tmod x2.1 (2 : Int)) == (1 : Int)) :: Ay6 []), [some [.int .i64 (0 : Int), .int .i64 (0 : Int), .str (ByteArray.mk #[]), .nils], some [.int .i64 (i64.wrap x0.1), .int .i64 (i64.wrap (Int.tdiv x2.1 (2 : Int))), .str (ByteArray.mk #[]), .rs (0) 0 (([] : List Int).length) 1]], h3⟩ ((True) ∧ True) (by kernel_rfl) ⟨trivial, trivial⟩ ?_
      refine ends_cond ((Int.tmod x2.1 (2 : Int)) == (1 : Int)) (by kernel_rfl) (fun c2 => ?_) (fun c2 => ?_)
      · have H := ifp c2 H
        refine er [] [] ⟨.any :: .lp 2 0 :: .lp 3 0 :: Ay12 [], [some [.int .i64 (0 : Int), .int .i64 (0 : Int), .str (ByteArray.mk #[]), .nils], some [.int .i64 (i64.wrap x0.1), .int .i64 (i64.wrap (0 - (i64.wrap (i64.wrap (Int.tdiv x2.1 (2 : Int)) + (1 : Int))))), .str (ByteArray.mk #[]), .rs (0) 0 (([] : List Int).length) 1]], h3⟩ ((True) ∧ True) (by kernel_rfl) ⟨trivial, trivial⟩ ?_
        refine ends_seq ?_
        obtain ⟨h4, e7, o5⟩ := fr_own (E := eInt) (l := ([] : List Int)) (q := 1) o4 rfl
        refine er [(eInt.fz ([] : List Int), h4)] [] ⟨.any :: .lp 2 0 :: Ay13 [], [some [.int .i64 (i64.wrap x0.1), .int .i64 (i64.wrap (0 - (i64.wrap (i64.wrap (Int.tdiv x2.1 (2 : Int)) + (1 : Int))))), .str (ByteArray.mk #[]), eInt.fz ([] : List Int)], none], h4⟩ ((frzV 0 h3 (.rs (0) 0 (([] : List Int).length) 1) = some (eInt.fz ([] : List Int), h4) ∧ True) ∧ True) (by kernel_rfl) ⟨⟨e7, trivial⟩, trivial⟩ ?_
        refine ends_ret ?_
        have H := Option.some.inj H
        subst H
        exact ⟨.inl rfl, ⟨by kernel_rfl, o5⟩⟩
      · have H := ifn c2 H
        refine ends_skip ?_
        refine ends_seq ?_
        obtain ⟨h5, e8, o6⟩ := fr_own (E := eInt) (l := ([] : List Int)) (q := 1) o4 rfl
        refine er [(eInt.fz ([] : List Int), h5)] [] ⟨.any :: .lp 2 0 :: Ay13 [], [some [.int .i64 (i64.wrap x0.1), .int .i64 (i64.wrap (Int.tdiv x2.1 (2 : Int))), .str (ByteArray.mk #[]), eInt.fz ([] : List Int)], none], h5⟩ ((frzV 0 h3 (.rs (0) 0 (([] : List Int).length) 1) = some (eInt.fz ([] : List Int), h5) ∧ True) ∧ True) (by kernel_rfl) ⟨⟨e8, trivial⟩, trivial⟩ ?_
        refine ends_ret ?_
        have H := Option.some.inj H
        subst H
        exact ⟨.inl rfl, ⟨by kernel_rfl, o6⟩⟩
    · have H := ifn c1 H
      refine sr [] [] ⟨.ptr ad0 0 :: .lp 2 0 :: .lp 3 0 :: .any :: .any :: .int .i64 (i64.wrap x0.1) :: Ay3 (.bool ((i64.wrap x0.1) == (2 : Int)) :: Ay5 []), [some [.int .i64 (0 : Int), .int .i64 (0 : Int), .str (ByteArray.mk #[]), .nils], some [.int .i64 (i64.wrap x0.1), .int .i64 (0 : Int), .str (ByteArray.mk #[]), .rs (0) 0 (([] : List Int).length) 1]], h0⟩ ((True) ∧ True) (by kernel_rfl) ⟨trivial, trivial⟩ ?_
      refine ends_cond ((i64.wrap x0.1) == (2 : Int)) (by kernel_rfl) (fun c3 => ?_) (fun c3 => ?_)
      · have H := ifp c3 H
        obtain ⟨x3, e9, H⟩ := bsi H
        obtain ⟨h6, e10, o7⟩ := S60_ _ _ e9 h0 _ _ ((Has.front (Has.front o1 0 rfl) 1 rfl))  [.ptr ad0 0] (can_cons (rfl) (can_nil))
        refine er [] [(1, .str x3.1, some h6)] ⟨.any :: .lp 2 0 :: .lp 3 0 :: Ay12 [], [some [.int .i64 (0 : Int), .int .i64 (0 : Int), .str (ByteArray.mk #[]), .nils], some [.int .i64 (i64.wrap x0.1), .int .i64 (0 : Int), .str x3.1, .rs (0) 0 (([] : List Int).length) 1]], h6⟩ ((True) ∧ callO cf (.fn 60 []) [.ptr ad0 0] h0 = some (.str x3.1, h6) ∧ True) (by kernel_rfl) ⟨trivial, ⟨callO_of (by kernel_rfl) e10, trivial⟩⟩ ?_
        refine ends_seq ?_
        obtain ⟨h7, e11, o8⟩ := fr_own (E := eInt) (l := ([] : List Int)) (q := 1) o7 rfl
        refine er [(eInt.fz ([] : List Int), h7)] [] ⟨.any :: .lp 2 0 :: Ay13 [], [some [.int .i64 (i64.wrap x0.1), .int .i64 (0 : Int), .str x3.1, eInt.fz ([] : List Int)], none], h7⟩ ((frzV 0 h6 (.rs (0) 0 (([] : List Int).length) 1) = some (eInt.fz ([] : List Int), h7) ∧ True) ∧ True) (by kernel_rfl) ⟨⟨e11, trivial⟩, trivial⟩ ?_
        refine ends_ret ?_
        have H := Option.some.inj H
        subst H
        exact ⟨.inl rfl, ⟨by kernel_rfl, o8⟩⟩
      · have H := ifn c3 H
        refine sr [] [] ⟨.ptr ad0 0 :: .lp 2 0 :: .lp 3 0 :: Ay7 (.bool ((i64.wrap x0.1) == (3 : Int)) :: Ay4 []), [some [.int .i64 (0 : Int), .int .i64 (0 : Int), .str (ByteArray.mk #[]), .nils], some [.int .i64 (i64.wrap x0.1), .int .i64 (0 : Int), .str (ByteArray.mk #[]), .rs (0) 0 (([] : List Int).length) 1]], h0⟩ ((True) ∧ True) (by kernel_rfl) ⟨trivial, trivial⟩ ?_
        refine ends_cond ((i64.wrap x0.1) == (3 : Int)) (by kernel_rfl) (fun c4 => ?_) (fun c4 => ?_)
        · have H := ifp c4 H
          refine ends_seq ?_
          obtain ⟨x4, e12, H⟩ := bsi H
          obtain ⟨h8, e13, o9⟩ := S60_ _ _ e12 h0 _ _ ((Has.front (Has.front o1 0 rfl) 1 rfl))  [.ptr ad0 0] (can_cons (rfl) (can_nil))
          refine er [] [(1, .str x4.1, some h8)] ⟨.ptr ad0 0 :: .lp 2 0 :: .lp 3 0 :: Ay12 [], [some [.int .i64 (0 : Int), .int .i64 (0 : Int), .str (ByteArray.mk #[]), .nils], some [.int .i64 (i64.wrap x0.1), .int .i64 (0 : Int), .str x4.1, .rs (0) 0 (([] : List Int).length) 1]], h8⟩ ((True) ∧ callO cf (.fn 60 []) [.ptr ad0 0] h0 = some (.str x4.1, h8) ∧ True) (by kernel_rfl) ⟨trivial, ⟨callO_of (by kernel_rfl) e13, trivial⟩⟩ ?_
          refine ends_seq ?_
          obtain ⟨x5, e14, H⟩ := bsi H
          obtain ⟨h9, e15, o10⟩ := S43_ _ _ e14 h8 _ _ (o9)  [.ptr ad0 0] (can_cons (rfl) (can_nil))
          refine er [] [(1, .int .i64 x5.1, some h9)] ⟨.ptr ad0 0 :: .lp 2 0 :: .lp 3 0 :: .any :: .int .i64 x5.1 :: Ay10 [], [some [.int .i64 (0 : Int), .int .i64 (0 : Int), .str (ByteArray.mk #[]), .nils], some [.int .i64 (i64.wrap x0.1), .int .i64 (0 : Int), .str x4.1, .rs (0) 0 (([] : List Int).length) 1]], h9⟩ ((True) ∧ callO cf (.fn 43 []) [.ptr ad0 0] h8 = some (.int .i64 x5.1, h9) ∧ True) (by kernel_rfl) ⟨trivial, ⟨callO_of (by kernel_rfl) e15, trivial⟩⟩ ?_
          refine ends_seq ?_
          refine sr [] [] ⟨.ptr ad0 0 :: .lp 2 0 :: .lp 3 0 :: .any :: .int .i64 x5.1 :: Ay6 (.bool (decide (x5.1 > (8 : Int))) :: Ay3 []), [some [.int .i64 (0 : Int), .int .i64 (0 : Int), .str (ByteArray.mk #[]), .nils], some [.int .i64 (i64.wrap x0.1), .int .i64 (0 : Int), .str x4.1, .rs (0) 0 (([] : List Int).length) 1]], h9⟩ ((True) ∧ True) (by kernel_rfl) ⟨trivial, trivial⟩ ?_
          refine ends_cond (decide (x5.1 > (8 : Int))) (by kernel_rfl) (fun c5 => ?_) (fun c5 => ?_)
          · have H := ifp c5 H
            obtain ⟨h10, e16, o11⟩ := st_ob (P := Tryd.prog) (t := 4) (off := 1) (q := 0) (cs := [eByte.fz x5.2.f_b, .bool x5.2.f_bad]) (cs' := [eByte.fz x5.2.f_b, .bool true]) (x := .bool true) o10 rfl (by kernel_rfl)
            refine er [] [(3, .any, some h10)] ⟨.ptr ad0 0 :: .lp 2 0 :: .lp 3 0 :: .any :: .int .i64 x5.1 :: Ay10 [], [some [.int .i64 (0 : Int), .int .i64 (0 : Int), .str (ByteArray.mk #[]), .nils], some [.int .i64 (i64.wrap x0.1), .int .i64 (0 : Int), .str x4.1, .rs (0) 0 (([] : List Int).length) 1]], h10⟩ ((True) ∧ storeH Tryd.prog h9 4 (.ptr ad0 1) (.bool true) = some h10 ∧ True) (by kernel_rfl) ⟨trivial, ⟨e16, trivial⟩⟩ ?_
            refine sr [] [] ⟨.ptr ad0 0 :: .lp 2 0 :: .lp 3 0 :: Ay9 [.int .i64 (mn x5.1 (8 : Int)), .int .i64 (0 : Int), .any], [some [.int .i64 (0 : Int), .int .i64 (0 : Int), .str (ByteArray.mk #[]), .nils], some [.int .i64 (i64.wrap x0.1), .int .i64 (0 : Int), .str x4.1, .rs (0) 0 (([] : List Int).length) 1]], h10⟩ ((True) ∧ True) (by kernel_rfl) ⟨trivial, trivial⟩ ?_
            refine ends_block ?_
            obtain ⟨out0, e21, H⟩ := bsi H
            refine ends_mono (rd_node.l0_ok L ad0 r0 x5  S43_ (σ := ((0 : Int), i64.wrap x0.1, (0 : Int), x4.1, ([] : List Int), (Rdr.mk x5.2.f_b true))) ⟨.any, .any, .any, .any, .any, .any, .any, (0), h10, rfl, o11⟩ e21) ?_
            rintro e s ⟨rfl, x9, n4, n5, n6, n7, r2, rfl, g7, g8, g9, g10, g11, g12, g13, g14, g15, g16, ad3, h14, rfl, o15⟩
            try dsimp only at H
            refine ends_seq ?_
            obtain ⟨h15, e22, o16⟩ := fr_own (E := eInt) (l := n7) (q := 1) o15 rfl
            refine er [(eInt.fz n7, h15)] [] ⟨.any :: .lp 2 0 :: Ay13 [], [some [.int .i64 n4, .int .i64 n5, .str n6, eInt.fz n7], none], h15⟩ ((frzV 0 h14 (.rs ad3 0 n7.length 1) = some (eInt.fz n7, h15) ∧ True) ∧ True) (by kernel_rfl) ⟨⟨e22, trivial⟩, trivial⟩ ?_
            refine ends_ret ?_
            have H := Option.some.inj H
            subst H
            exact ⟨.inl rfl, ⟨by kernel_rfl, o16⟩⟩
          · have H := ifn c5 H
            refine ends_skip ?_
            refine sr [] [] ⟨.ptr ad0 0 :: .lp 2 0 :: .lp 3 0 :: Ay9 [.int .i64 (mn x5.1 (8 : Int)), .int .i64 (0 : Int), .any], [some [.int .i64 (0 : Int), .int .i64 (0 : Int), .str (ByteArray.mk #[]), .nils], some [.int .i64 (i64.wrap x0.1), .int .i64 (0 : Int), .str x4.1, .rs (0) 0 (([] : List Int).length) 1]], h9⟩ ((True) ∧ True) (by kernel_rfl) ⟨trivial, trivial⟩ ?_
            refine ends_block ?_
            obtain ⟨out1, e27, H⟩ := bsi H
            refine ends_mono (rd_node.l1_ok L ad0 r0 x5  S43_ (σ := ((0 : Int), i64.wrap x0.1, (0 : Int), x4.1, ([] : List Int), x5.2)) ⟨.any, .any, .any, .any, .any, .any, .any, (0), h9, rfl, o10⟩ e27) ?_
            rintro e s ⟨rfl, x13, n12, n13, n14, n15, r4, rfl, g24, g25, g26, g27, g28, g29, g30, g31, g32, g33, ad6, h19, rfl, o20⟩
            try dsimp only at H
            refine ends_seq ?_
            obtain ⟨h20, e28, o21⟩ := fr_own (E := eInt) (l := n15) (q := 1) o20 rfl
            refine er [(eInt.fz n15, h20)] [] ⟨.any :: .lp 2 0 :: Ay13 [], [some [.int .i64 n12, .int .i64 n13, .str n14, eInt.fz n15], none], h20⟩ ((frzV 0 h19 (.rs ad6 0 n15.length 1) = some (eInt.fz n15, h20) ∧ True) ∧ True) (by kernel_rfl) ⟨⟨e28, trivial⟩, trivial⟩ ?_
            refine ends_ret ?_
            have H := Option.some.inj H
            subst H
            exact ⟨.inl rfl, ⟨by kernel_rfl, o21⟩⟩
        · have H := ifn c4 H
          obtain ⟨h21, e29, o22⟩ := st_ob (P := Tryd.prog) (t := 4) (off := 1) (q := 1) (cs := [eByte.fz x0.2.f_b, .bool x0.2.f_bad]) (cs' := [eByte.fz x0.2.f_b, .bool true]) (x := .bool true) o1 rfl (by kernel_rfl)
          refine er [] [(3, .any, some h21)] ⟨.any :: .lp 2 0 :: .lp 3 0 :: Ay12 [], [some [.int .i64 (0 : Int), .int .i64 (0 : Int), .str (ByteArray.mk #[]), .nils], some [.int .i64 (i64.wrap x0.1), .int .i64 (0 : Int), .str (ByteArray.mk #[]), .rs (0) 0 (([] : List Int).length) 1]], h21⟩ ((True) ∧ storeH Tryd.prog h0 4 (.ptr ad0 1) (.bool true) = some h21 ∧ True) (by kernel_rfl) ⟨trivial, ⟨e29, trivial⟩⟩ ?_
          refine ends_seq ?_
          obtain ⟨h22, e30, o23⟩ := fr_own (E := eInt) (l := ([] : List Int)) (q := 0) o22 rfl
          refine er [(eInt.fz ([] : List Int), h22)] [] ⟨.any :: .lp 2 0 :: Ay13 [], [some [.int .i64 (i64.wrap x0.1), .int .i64 (0 : Int), .str (ByteArray.mk #[]), eInt.fz ([] : List Int)], none], h22⟩ ((frzV 0 h21 (.rs (0) 0 (([] : List Int).length) 1) = some (eInt.fz ([] : List Int), h22) ∧ True) ∧ True) (by kernel_rfl) ⟨⟨e30, trivial⟩, trivial⟩ ?_
          refine ends_ret ?_
          have H := Option.some.inj H
          subst H
          exact ⟨.inl rfl, ⟨by kernel_rfl, o23⟩⟩
end
end Go.Proofs.YtmekcfdllhphlaaDoor

namespace Go.Proofs.YtmekcfdllhphlaaDoor
open Go Go.R
open Go.IntKind (i64 u64 u8 u32)
theorem bytesStr_str (s : ByteArray) : bytesStr (strBytes s) = s := by
  unfold bytesStr strBytes
  rw [List.map_map]
  have : (List.map ((fun n : Int => UInt8.ofNat n.toNat) ∘ fun b : UInt8 => (b.toNat : Int)) s.data.toList) = s.data.toList := by
    conv => rhs; rw [← List.map_id s.data.toList]
    apply List.map_congr_left
    intro b _
    simp
  rw [this]
theorem strBytes_len (s : ByteArray) : (strBytes s).length = s.size := by simp [strBytes]
theorem encN_len : ∀ (k n : Nat), n < 128 ^ (k + 1) → (encN n).length ≤ k + 1
  | k, n, h => by
    by_cases h1 : n < 128
    · rw [encN_small h1]; simp
    · cases k with
      | zero => simp at h; omega
      | succ k =>
        have hd : n / 128 < 128 ^ (k + 1) := by
          rw [Nat.div_lt_iff_lt_mul (by omega)]
          calc n < 128 ^ (k + 1 + 1) := h
            _ = _ := by rw [Nat.pow_succ]
        have := encN_len k (n / 128) hd
        rw [encN_big h1]; simp; omega
theorem encN_len64 {n : Nat} (h : n < 2 ^ 64) : (encN n).length ≤ 10 := encN_len 9 n (by omega)
def encS (s : ByteArray) : List Int := encN s.size ++ strBytes s
theorem wtext {m : Nat} {w : List Int} {s : ByteArray} (hm : 11 ≤ m) (hs : s.size ≠ 0) (hw : w ≠ []) (hl : w.length + s.size + 20 ≤ 140737488355328) : wr_text.f m w s = some (w ++ encS s) := by
  unfold wr_text.f
  have h1 : s.size < 2 ^ 64 := by omega
  have h2 := encN_len64 h1
  rw [u64_id (by omega) (by omega), wnum hm h1 hw (by omega), Option.bind_some, wB1_some (by simp [hw]) (fun h => hs (by rw [← strBytes_len, h]; rfl)) (by simp [strBytes_len]; omega), Option.bind_some, List.append_assoc]
  rfl
theorem rtext {m : Nat} {s : ByteArray} {rest : List Int} (hm : 11 ≤ m) (hl : s.size < 2 ^ 63) : rd_text.f m ⟨encS s ++ rest, false⟩ = some (s, ⟨rest, false⟩) := by
  unfold rd_text.f encS
  rw [List.append_assoc, rnum hm hl, Option.bind_some, if_neg (by simp)]
  dsimp only
  have hlen := strBytes_len s
  rw [if_neg (by simp [hlen]; omega)]
  have h1 : slc (strBytes s ++ rest) 0 (s.size : Int) = some (strBytes s) := by
    unfold slc
    rw [if_pos ⟨Int.le_refl _, by omega, by simp [hlen]; omega⟩]
    simp [← hlen]
  have h2 : slc (strBytes s ++ rest) (s.size : Int) ((strBytes s ++ rest).length : Int) = some rest := by
    unfold slc
    rw [if_pos ⟨by omega, by simp [hlen]; omega, Int.le_refl _⟩, ← hlen]
    simp only [Int.toNat_natCast, List.drop_left]
    rw [List.take_of_length_le (by simp)]
  rw [h1, Option.bind_some, h2, Option.bind_some, bytesStr_str]
structure WNode (n : VNode) : Prop where
  kind : n.kind = 0 ∧ (0 ≤ n.int ∧ n.int < 2 ^ 63) ∧ n.label = ByteArray.mk #[] ∧ n.args = [] ∨ n.kind = 1 ∧ (-(2 ^ 62) ≤ n.int ∧ n.int < 2 ^ 62) ∧ n.label = ByteArray.mk #[] ∧ n.args = [] ∨ n.kind = 2 ∧ n.int = 0 ∧ n.args = [] ∨ n.kind = 3 ∧ n.int = 0
  label : 2 ≤ n.kind → n.label.size ≠ 0 ∧ n.label.size < 2 ^ 40
  args : n.args.length ≤ 8 ∧ ∀ a ∈ n.args, 0 ≤ a ∧ a < 2 ^ 63
def zig (x : Int) : Nat := if x < 0 then ((-x) * 2 - 1).toNat else (x * 2).toNat
def encNode (n : VNode) : List Int :=
  n.kind :: (if n.kind = 0 then encN n.int.toNat else if n.kind = 1 then encN (zig n.int) else if n.kind = 2 then encS n.label else encS n.label ++ encN n.args.length ++ (n.args.map fun a => encN a.toNat).flatten)
theorem wargs {m : Nat} (hm : 11 ≤ m) (n0 : VNode) (ha : ∀ a ∈ n0.args, 0 ≤ a ∧ a < 2 ^ 63) (hlen : n0.args.length ≤ 8) : ∀ (l : List Int) (f i : Nat) (w : List Int), l.length < f → n0.args.drop i = l → i ≤ 8 → w ≠ [] → w.length + 20 * l.length + 20 ≤ 140737488355328 →
    ∃ x, wr_node.l0 m n0 f (i : Int) w = some (x, w ++ (l.map fun a => encN a.toNat).flatten)
  | l, 0, i, w, hf, _, _, _, _ => absurd hf (by omega)
  | [], f + 1, i, w, hf, hd, hi, hw, hl => by
    have : n0.args.length ≤ i := by
      have := congrArg List.length hd
      simp at this
      omega
    refine ⟨i, ?_⟩
    unfold wr_node.l0
    rw [if_neg (by simp; omega)]
    simp
  | a :: l, f + 1, i, w, hf, hd, hi, hw, hl => by
    have hi2 : i < n0.args.length := by
      have := congrArg List.length hd
      simp at this
      omega
    have hg : n0.args[i]? = some a := by
      have := congrArg (·[0]?) hd
      simpa using this
    have ham : a ∈ n0.args := List.mem_of_getElem? hg
    obtain ⟨h1, h2⟩ := ha a ham
    obtain ⟨b, rfl⟩ : ∃ b : Nat, a = (b : Int) := ⟨a.toNat, by omega⟩
    have hd2 : n0.args.drop (i + 1) = l := by
      rw [← List.tail_drop, hd]; rfl
    have e1 : (encN b).length ≤ 10 := encN_len64 (by omega)
    simp only [List.length_cons] at hf hl
    obtain ⟨x, ih⟩ := wargs hm n0 ha hlen l f (i + 1) (w ++ encN b) (by omega) hd2 (by omega) (by simp [hw]) (by simp; omega)
    refine ⟨x, ?_⟩
    unfold wr_node.l0
    have hix : ix n0.args (i : Int) = some (b : Int) := by unfold ix; rw [if_pos (by omega)]; exact hg
    rw [if_pos (by simp; omega), hix, Option.bind_some, u64_id h1 (by omega), wnum hm (by omega) hw (by omega), Option.bind_some, i64_id (by omega) (by omega)]
    rw [show ((i : Int) + 1) = ((i + 1 : Nat) : Int) by omega]
    rw [ih, List.map_cons, List.flatten_cons, List.append_assoc, Int.toNat_natCast]
end Go.Proofs.YtmekcfdllhphlaaDoor

namespace Go.Proofs.YtmekcfdllhphlaaDoor
open Go Go.R
open Go.IntKind (i64 u64 u8 u32)
theorem zig_neg {x : Int} (h : x < 0) (h2 : -(2 ^ 62) ≤ x) : u64.wrap (u64.wrap (u64.wrap (i64.wrap (0 - x)) * 2) - 1) = (zig x : Int) := by
  have : (2 : Int) ^ 62 = 4611686018427387904 := by decide
  rw [i64_id (by omega) (by omega), u64_id (x := 0 - x) (by omega) (by omega), u64_id (x := (0 - x) * 2) (by omega) (by omega), u64_id (by omega) (by omega)]
  unfold zig
  rw [if_pos h]
  omega
theorem zig_pos {x : Int} (h : ¬ x < 0) (h2 : x < 2 ^ 62) : u64.wrap (u64.wrap x * 2) = (zig x : Int) := by
  have : (2 : Int) ^ 62 = 4611686018427387904 := by decide
  rw [u64_id (x := x) (by omega) (by omega), u64_id (by omega) (by omega)]
  unfold zig
  rw [if_neg h]
  omega
theorem zig_lt {x : Int} (h1 : -(2 ^ 62) ≤ x) (h2 : x < 2 ^ 62) : zig x < 2 ^ 63 := by
  have : (2 : Int) ^ 62 = 4611686018427387904 := by decide
  have : (2 : Nat) ^ 63 = 9223372036854775808 := by decide
  unfold zig
  split <;> omega
theorem wnode {m : Nat} {w : List Int} {n : VNode} (hm : 11 ≤ m) (W : WNode n) (hl : w.length + n.label.size + 1000 ≤ 140737488355328) (hw : w ≠ []) : wr_node.f m w n = some (w ++ encNode n) := by
  have p63 : (2 : Nat) ^ 63 = 9223372036854775808 := by decide
  have q63 : (2 : Int) ^ 63 = 9223372036854775808 := by decide
  have p64 : (2 : Nat) ^ 64 = 18446744073709551616 := by decide
  have hk : 0 ≤ n.kind ∧ n.kind ≤ 3 := by rcases W.kind with h | h | h | h <;> (have := h.1; omega)
  unfold wr_node.f
  rw [u8_wrap, show n.kind % 256 = n.kind by omega, wB1_some hw (by simp) (by simp; omega), Option.bind_some]
  rcases W.kind with ⟨h, hi, _, _⟩ | ⟨h, hi, _, _⟩ | ⟨h, hi, _⟩ | ⟨h, hi⟩
  · obtain ⟨b, hb⟩ : ∃ b : Nat, n.int = (b : Int) := ⟨n.int.toNat, by omega⟩
    rw [show encNode n = 0 :: encN b by simp [encNode, h, hb], h, if_pos (by decide), u64_id (by omega) (by omega), hb, wnum hm (by omega) (by simp) (by simp; omega), Option.bind_some]
    simp
  · have hz := zig_lt hi.1 hi.2
    rw [show encNode n = 1 :: encN (zig n.int) by simp [encNode, h], h, if_neg (by decide), if_pos (by decide)]
    by_cases hn : n.int < 0
    · rw [if_pos (by simpa using hn), zig_neg hn hi.1, wnum hm (by omega) (by simp) (by simp; omega), Option.bind_some]
      simp
    · rw [if_neg (by simpa using hn), zig_pos hn hi.2, wnum hm (by omega) (by simp) (by simp; omega), Option.bind_some]
      simp
  · obtain ⟨g1, g2⟩ := W.label (by omega)
    rw [show encNode n = 2 :: encS n.label by simp [encNode, h], h, if_neg (by decide), if_neg (by decide), if_pos (by decide), wtext hm g1 (by simp) (by simp; omega), Option.bind_some]
    simp
  · obtain ⟨g1, g2⟩ := W.label (by omega)
    obtain ⟨g3, g4⟩ := W.args
    have e1 : (encS n.label).length ≤ 10 + n.label.size := by
      unfold encS
      have := encN_len64 (n := n.label.size) (by omega)
      simp [strBytes_len]; omega
    have e2 : (encN n.args.length).length ≤ 10 := encN_len64 (by omega)
    rw [show encNode n = 3 :: (encS n.label ++ encN n.args.length ++ (n.args.map fun a => encN a.toNat).flatten) by simp [encNode, h], h, if_neg (by decide), if_neg (by decide), if_neg (by decide), if_pos (by decide), wtext hm g1 (by simp) (by simp; omega), Option.bind_some,
      u64_id (by omega) (by omega), wnum hm (by omega) (by simp) (by simp; omega), Option.bind_some]
    obtain ⟨x, hx⟩ := wargs hm n g4 g3 n.args m 0 (w ++ [3] ++ encS n.label ++ encN n.args.length) (by omega) rfl (by omega) (by simp) (by simp; omega)
    have hx : wr_node.l0 m n m (0 : Int) (w ++ [3] ++ encS n.label ++ encN n.args.length) = _ := hx
    rw [hx, Option.bind_some]
    simp
theorem rargs {m : Nat} (hm : 11 ≤ m) (x5 : Int × Rdr) (k0 : Int) (lb : ByteArray) (rest : List Int) (hx : 0 ≤ x5.1 ∧ x5.1 ≤ 8) : ∀ (l : List Int) (f i : Nat) (acc : List Int), l.length < f → (i : Int) + l.length = x5.1 → acc.length + l.length ≤ 8 → (∀ a ∈ l, 0 ≤ a ∧ a < 2 ^ 63) →
    ∃ x, rd_node.l1 m x5 f (i : Int) k0 0 lb acc ⟨(l.map fun a => encN a.toNat).flatten ++ rest, false⟩ = some (x, k0, 0, lb, acc ++ l, ⟨rest, false⟩)
  | l, 0, i, acc, hf, _, _, _ => absurd hf (by omega)
  | [], f + 1, i, acc, hf, hi, ha, hl => by
    refine ⟨i, ?_⟩
    unfold rd_node.l1
    simp only [List.length_nil] at hi
    rw [if_neg (by unfold mn; simp; split <;> omega)]
    simp
  | a :: l, f + 1, i, acc, hf, hi, ha, hl => by
    simp only [List.length_cons] at hf hi ha
    have q63 : (2 : Int) ^ 63 = 9223372036854775808 := by decide
    have p63 : (2 : Nat) ^ 63 = 9223372036854775808 := by decide
    obtain ⟨h1, h2⟩ := hl a (by simp)
    obtain ⟨b, rfl⟩ : ∃ b : Nat, a = (b : Int) := ⟨a.toNat, by omega⟩
    obtain ⟨x, ih⟩ := rargs hm x5 k0 lb rest hx l f (i + 1) (acc ++ [(b : Int)]) (by omega) (by omega) (by simp; omega) (fun c hc => hl c (by simp [hc]))
    refine ⟨x, ?_⟩
    unfold rd_node.l1
    rw [if_pos (by unfold mn; simp; split <;> omega), List.map_cons, List.flatten_cons, List.append_assoc, Int.toNat_natCast, rnum hm (by omega), Option.bind_some]
    have hap : app 8 acc [(b : Int)] = some (acc ++ [(b : Int)]) := by unfold app; rw [if_pos (by simp; omega)]
    dsimp only
    rw [hap, Option.bind_some, i64_id (by omega) (by omega), show ((i : Int) + 1) = ((i + 1 : Nat) : Int) by omega, ih]
    simp
end Go.Proofs.YtmekcfdllhphlaaDoor

namespace Go.Proofs.YtmekcfdllhphlaaDoor
open Go Go.R
open Go.IntKind (i64 u64 u8 u32)
theorem zig_even {x : Int} (h : ¬ x < 0) (h2 : x < 2 ^ 62) : ¬ (Int.tmod (zig x : Int) 2 == 1) = true ∧ i64.wrap (Int.tdiv (zig x : Int) 2) = x := by
  have hz : (zig x : Int) = x * 2 := by unfold zig; rw [if_neg h]; omega
  rw [hz, Int.mul_tmod_left, Int.mul_tdiv_cancel _ (by decide), i64_id (by omega) (by omega)]
  exact ⟨by decide, rfl⟩
theorem zig_odd {x : Int} (h : x < 0) (h2 : -(2 ^ 62) ≤ x) : (Int.tmod (zig x : Int) 2 == 1) = true ∧ i64.wrap (0 - i64.wrap (i64.wrap (Int.tdiv (zig x : Int) 2) + 1)) = x := by
  have hz : (zig x : Int) = ((-x - 1).toNat * 2 + 1 : Nat) := by unfold zig; rw [if_pos h]; omega
  have h3 : Int.tmod (((-x - 1).toNat * 2 + 1 : Nat) : Int) 2 = 1 := by
    rw [Int.tmod_eq_emod_of_nonneg (by omega)]; omega
  have h4 : Int.tdiv (((-x - 1).toNat * 2 + 1 : Nat) : Int) 2 = -x - 1 := by
    rw [Int.tdiv_eq_ediv_of_nonneg (by omega)]; omega
  rw [hz, h3, h4, i64_id (x := -x - 1) (by omega) (by omega), i64_id (x := -x - 1 + 1) (by omega) (by omega), i64_id (by omega) (by omega)]
  exact ⟨by decide, by omega⟩
theorem rnode {m : Nat} {n : VNode} {rest : List Int} (hm : 11 ≤ m) (W : WNode n) : rd_node.f m ⟨encNode n ++ rest, false⟩ = some (n, ⟨rest, false⟩) := by
  have p63 : (2 : Nat) ^ 63 = 9223372036854775808 := by decide
  have q63 : (2 : Int) ^ 63 = 9223372036854775808 := by decide
  obtain ⟨kd, nt, lb, ags⟩ := n
  unfold rd_node.f
  rcases W.kind with ⟨h, hi, hlb, ha⟩ | ⟨h, hi, hlb, ha⟩ | ⟨h, hi, ha⟩ | ⟨h, hi⟩
  · simp only at h hi hlb ha
    subst h hlb ha
    obtain ⟨b, rfl⟩ : ∃ b : Nat, nt = (b : Int) := ⟨nt.toNat, by omega⟩
    rw [show encNode ⟨0, (b : Int), ByteArray.mk #[], []⟩ = 0 :: encN b by simp [encNode], List.cons_append, rbyte, Option.bind_some]
    dsimp only
    rw [i64_id (by omega) (by omega), if_pos (by decide), rnum hm (by omega), Option.bind_some]
  · simp only at h hi hlb ha
    subst h hlb ha
    rw [show encNode ⟨1, nt, ByteArray.mk #[], []⟩ = 1 :: encN (zig nt) by simp [encNode], List.cons_append, rbyte, Option.bind_some]
    dsimp only
    rw [i64_id (x := 1) (by omega) (by omega), if_neg (by decide), if_pos (by decide), rnum hm (zig_lt hi.1 hi.2), Option.bind_some]
    by_cases hn : nt < 0
    · obtain ⟨z1, z2⟩ := zig_odd hn hi.1
      rw [if_pos z1, z2]
    · obtain ⟨z1, z2⟩ := zig_even hn hi.2
      rw [if_neg z1, z2]
  · simp only at h hi ha
    subst h hi ha
    obtain ⟨g1, g2⟩ := W.label (by simp)
    simp only at g1 g2
    rw [show encNode ⟨2, 0, lb, []⟩ = 2 :: encS lb by simp [encNode], List.cons_append, rbyte, Option.bind_some]
    dsimp only
    rw [i64_id (x := 2) (by omega) (by omega), if_neg (by decide), if_neg (by decide), if_pos (by decide), rtext hm (by omega), Option.bind_some]
  · simp only at h hi
    subst h hi
    obtain ⟨g1, g2⟩ := W.label (by simp)
    obtain ⟨g3, g4⟩ := W.args
    simp only at g1 g2 g3 g4
    rw [show encNode ⟨3, 0, lb, ags⟩ = 3 :: (encS lb ++ encN ags.length ++ (ags.map fun a => encN a.toNat).flatten) by simp [encNode], List.cons_append, rbyte, Option.bind_some]
    dsimp only
    rw [i64_id (x := 3) (by omega) (by omega), if_neg (by decide), if_neg (by decide), if_neg (by decide), if_pos (by decide)]
    rw [List.append_assoc, List.append_assoc, rtext hm (by omega), Option.bind_some]
    dsimp only
    rw [rnum hm (by omega), Option.bind_some, if_neg (by simp; omega)]
    obtain ⟨x, hx⟩ := rargs hm ((ags.length : Int), (⟨(ags.map fun a => encN a.toNat).flatten ++ rest, false⟩ : Rdr)) 3 lb rest (by simp; omega) ags m 0 [] (by omega) (by simp) (by simp; omega) g4
    have hx : rd_node.l1 m ((ags.length : Int), (⟨(ags.map fun a => encN a.toNat).flatten ++ rest, false⟩ : Rdr)) m (0 : Int) 3 0 lb [] ⟨(ags.map fun a => encN a.toNat).flatten ++ rest, false⟩ = _ := hx
    rw [hx, Option.bind_some]
    simp
end Go.Proofs.YtmekcfdllhphlaaDoor

namespace Go.Proofs.YtmekcfdllhphlaaDoor
open Go Go.R
open Go.IntKind (i64 u64 u8 u32)
def ann21 : Ann := { keep := [0, 2, 3, 5, 6, 7, 8, 9, 16, 17], locs := [], dead := [(0, [2, 3, 5, 6, 7, 8, 9, 16, 17]), (1, [2, 5, 6, 7, 8, 9, 16, 17]), (2, [0, 2, 5, 9, 16, 17]), (3, [0, 2, 5, 16, 17]), (4, [0, 2, 9, 16, 17]), (5, [0, 2, 5, 9, 16, 17]), (6, [0, 2, 5, 9, 17]), (7, [0, 2, 5, 9]), (8, [0, 2, 5, 9, 17]), (9, [0, 2, 5, 9, 17]), (10, [0, 2, 5, 9, 16, 17]), (11, [0, 3, 5, 6, 7, 8, 9, 16, 17])], frz := [], frz2 := [] }
noncomputable def g21R0 := sub [0] (codeOf Tryd.f21)
noncomputable def g21R1 := sub [1, 0] (codeOf Tryd.f21)
noncomputable def g21R2 := sub [1, 1, 0, 0] (codeOf Tryd.f21)
noncomputable def g21L0 := sub [1, 1, 0, 1, 0, 0] (codeOf Tryd.f21)
noncomputable def g21R3 := sub [1, 1, 0, 1, 0, 0, 0] (codeOf Tryd.f21)
noncomputable def g21R4 := sub [1, 1, 0, 1, 0, 0, 1, 1, 0, 0, 0] (codeOf Tryd.f21)
noncomputable def g21R5 := sub [1, 1, 0, 1, 0, 0, 1, 1, 0, 0, 1, 0] (codeOf Tryd.f21)
noncomputable def g21R6 := sub [1, 1, 0, 1, 0, 0, 1, 1, 0, 0, 1, 1, 0] (codeOf Tryd.f21)
noncomputable def g21L1 := sub [1, 1, 0, 1, 0, 0, 1, 1, 0, 0, 1, 1, 1, 0, 0] (codeOf Tryd.f21)
noncomputable def g21R7 := sub [1, 1, 0, 1, 0, 0, 1, 1, 0, 0, 1, 1, 1, 0, 0, 0] (codeOf Tryd.f21)
noncomputable def g21R8 := sub [1, 1, 0, 1, 0, 0, 1, 1, 0, 0, 1, 1, 1, 0, 0, 1, 1, 0, 0] (codeOf Tryd.f21)
noncomputable def g21R9 := sub [1, 1, 0, 1, 0, 0, 1, 1, 0, 0, 1, 1, 1, 0, 0, 1, 1, 1] (codeOf Tryd.f21)
noncomputable def g21R10 := sub [1, 1, 0, 1, 0, 0, 1, 1, 1] (codeOf Tryd.f21)
noncomputable def g21R11 := sub [1, 1, 1, 0] (codeOf Tryd.f21)
theorem g21L1_eq : g21L1 = (.seq g21R7 (.seq (.cond (.tmp 17) .skip (.exit 2)) (.seq (.block 3 g21R8) g21R9))) := by kernel_rfl
theorem g21L0_eq : g21L0 = (.seq g21R3 (.seq (.cond (.tmp 9) .skip (.exit 0)) (.seq (.block 1 (.seq g21R4 (.seq g21R5 (.seq g21R6 (.block 2 (.loop g21L1)))))) g21R10))) := by kernel_rfl
theorem g21_eq : codeOf Tryd.f21 = (.seq g21R0 (.seq g21R1 (.seq (.seq g21R2 (.block 0 (.loop g21L0))) (.seq g21R11 .ret)))) := by kernel_rfl
def pickle_Sum.l1 (m : Nat)  : Nat → Int → Int → Option (Int × Int)
  | 0, _, _ => none
  | k + 1, crc1, x1 => if (decide (x1 < (8 : Int))) = true then (pickle_Sum.l1 m k (bitsXor .u32 (shR .u32 crc1 1) (bitsAnd .u32 (3988292384 : Int) (u32.wrap (0 - (bitsAnd .u32 crc1 (1 : Int)))))) (i64.wrap (x1 + (1 : Int)))) else (some ((crc1, x1)))
def pickle_Sum.l0 (m : Nat) (b0 : List Int) : Nat → Int → Int → Option (Int × Int)
  | 0, _, _ => none
  | k + 1, crc0, x0 => if (decide (x0 < (b0.length : Int))) = true then ((ix b0 x0).bind fun v0 => (pickle_Sum.l1 m m (bitsXor .u32 crc0 (u32.wrap v0)) (0 : Int)).bind fun out0 => match out0 with | (crc2, x2) => pickle_Sum.l0 m b0 k crc2 (i64.wrap (x0 + (1 : Int)))) else (some ((crc0, x0)))
def pickle_Sum.f (m : Nat) (b0 : List Int) : Option (Int) := (pickle_Sum.l0 m b0 m (4294967295 : Int) (0 : Int)).bind fun out1 => match out1 with | (crc3, x3) => some (i64.wrap (compl .u32 crc3))
def pickle_Sum.fin (L : Mem) (r : Int) (s : St) : Prop := ∃ av, resultA Tryd.prog (s.open ann21) Tryd.f21.results.toList = some av ∧ Frb s.h av (.int .i64 r)
def S21 (cf : CallF) (m : Nat) : Prop := ∀ (b0 : List Int) (r : Int), pickle_Sum.f m b0 = some r → ∀ h xs, FrzS 1000 h xs [eByte.fz b0] → cf 21 xs h = some (.int .i64 r, h)
section
variable {cf : CallF} {m : Nat}
def pickle_Sum.l1.R (L : Mem) (b0 : List Int) (x0 : Int) (σ : Int × Int) (s : St) : Prop :=
  match σ with
  | (crc1, x1) => ∃ (g2 : AV) (g3 : AV) (h1 : AHeap), s = ⟨[.any, .any, .int .u32 crc1, .any, eByte.fz b0, .int .i64 (b0.length : Int), .int .i64 x0, g2, .int .i64 x1, g3], [], h1⟩ ∧ Has h1 (L)
def pickle_Sum.l1.Q (L : Mem) (b0 : List Int) (x0 : Int) (out : Int × Int) (e : Ex) (s : St) : Prop :=
  (e = .exit 2 ∧ ∃ (crc1 : Int) (x1 : Int), (crc1, x1) = out ∧ ∃ (x9_ : AV) (x16_ : AV) (x17_ : AV) (h1 : AHeap), s = ⟨[.any, .any, .int .u32 crc1, .any, eByte.fz b0, .int .i64 (b0.length : Int), .int .i64 x0, x9_, x16_, x17_], [], h1⟩ ∧ Has h1 (L))
theorem pickle_Sum.l1_ok (L : Mem) (b0 : List Int) (x0 : Int)   {σ : Int × Int} {s : St} {out : Int × Int} (hr : pickle_Sum.l1.R L b0 x0 σ s) (H : (fun k σ => pickle_Sum.l1 m k σ.1 σ.2) m σ = some out) : Enz Tryd.prog cf ann21 m (.loop g21L1) s (pickle_Sum.l1.Q L b0 x0 out) := by
  refine ends_loop (fun k σ => pickle_Sum.l1 m k σ.1 σ.2) (pickle_Sum.l1.R L b0 x0) (pickle_Sum.l1.Q L b0 x0) (fun _ => rfl) ?_ hr H (fun _ _ _ h => h)
  clear hr H σ s out
  rintro k ⟨crc1, x1⟩ s out ⟨g2, g3, h1, rfl, o1⟩ H
  have H : pickle_Sum.l1 m (k + 1) crc1 x1 = some out := H
  refine ends_of_eq g21L1_eq ?_
  refine sr [] [] ⟨[.any, .any, .int .u32 crc1, .any, eByte.fz b0, .int .i64 (b0.length : Int), .int .i64 x0, .any, .int .i64 x1, .bool (decide (x1 < (8 : Int)))], [], h1⟩ ((True) ∧ True) (by kernel_rfl) ⟨trivial, trivial⟩ ?_
  refine ends_seq ?_
  refine ends_cond (decide (x1 < (8 : Int))) (by kernel_rfl) (fun c1 => ?_) (fun c1 => ?_)
  · have H := ifp c1 H
    refine ends_skip ?_
    refine ends_seq ?_
    refine ends_block ?_
    refine er [] [] ⟨[.any, .any, .int .u32 (bitsXor .u32 (shR .u32 crc1 1) (bitsAnd .u32 (3988292384 : Int) (u32.wrap (0 - (bitsAnd .u32 crc1 (1 : Int)))))), .any, eByte.fz b0, .int .i64 (b0.length : Int), .int .i64 x0, .any, .int .i64 x1, .any], [], h1⟩ ((True) ∧ True) (by kernel_rfl) ⟨trivial, trivial⟩ ?_
    refine er [] [] ⟨[.any, .any, .int .u32 (bitsXor .u32 (shR .u32 crc1 1) (bitsAnd .u32 (3988292384 : Int) (u32.wrap (0 - (bitsAnd .u32 crc1 (1 : Int)))))), .any, eByte.fz b0, .int .i64 (b0.length : Int), .int .i64 x0, .any, .int .i64 (i64.wrap (x1 + (1 : Int))), .any], [], h1⟩ ((True) ∧ True) (by kernel_rfl) ⟨trivial, trivial⟩ ?_
    exact ⟨(bitsXor .u32 (shR .u32 crc1 1) (bitsAnd .u32 (3988292384 : Int) (u32.wrap (0 - (bitsAnd .u32 crc1 (1 : Int))))), i64.wrap (x1 + (1 : Int))), ⟨.any, .any, h1, rfl, o1⟩, H⟩
  · have H := ifn c1 H
    refine ends_exit ?_
    have H := Option.some.inj H
    exact ⟨rfl, crc1, x1, H, .any, .int .i64 x1, .bool (decide (x1 < (8 : Int))), h1, rfl, o1⟩
def pickle_Sum.l0.R (L : Mem) (b0 : List Int) (σ : Int × Int) (s : St) : Prop :=
  match σ with
  | (crc0, x0) => ∃ (g0 : AV) (g1 : AV) (h0 : AHeap), s = ⟨[.any, .any, .int .u32 crc0, .any, eByte.fz b0, .int .i64 (b0.length : Int), .int .i64 x0, g0, .any, g1], [], h0⟩ ∧ Has h0 (L)
def pickle_Sum.l0.Q (L : Mem) (b0 : List Int) (out : Int × Int) (e : Ex) (s : St) : Prop :=
  (e = .exit 0 ∧ ∃ (crc0 : Int) (x0 : Int), (crc0, x0) = out ∧ ∃ (x6_ : AV) (x7_ : AV) (x8_ : AV) (x9_ : AV) (x17_ : AV) (h0 : AHeap), s = ⟨[.any, .any, .int .u32 crc0, .any, x6_, x7_, x8_, x9_, .any, x17_], [], h0⟩ ∧ Has h0 (L))
theorem pickle_Sum.l0_ok (L : Mem) (b0 : List Int)   {σ : Int × Int} {s : St} {out : Int × Int} (hr : pickle_Sum.l0.R L b0 σ s) (H : (fun k σ => pickle_Sum.l0 m b0 k σ.1 σ.2) m σ = some out) : Enz Tryd.prog cf ann21 m (.loop g21L0) s (pickle_Sum.l0.Q L b0 out) := by
  refine ends_loop (fun k σ => pickle_Sum.l0 m b0 k σ.1 σ.2) (pickle_Sum.l0.R L b0) (pickle_Sum.l0.Q L b0) (fun _ => rfl) ?_ hr H (fun _ _ _ h => h)
  clear hr H σ s out
  rintro k ⟨crc0, x0⟩ s out ⟨g0, g1, h0, rfl, o0⟩ H
  have H : pickle_Sum.l0 m b0 (k + 1) crc0 x0 = some out := H
  refine ends_of_eq g21L0_eq ?_
  refine sr [] [] ⟨[.any, .any, .int .u32 crc0, .any, eByte.fz b0, .int .i64 (b0.length : Int), .int .i64 x0, .bool (decide (x0 < (b0.length : Int))), .any, .any], [], h0⟩ ((True) ∧ True) (by kernel_rfl) ⟨trivial, trivial⟩ ?_
  refine ends_seq ?_
  refine ends_cond (decide (x0 < (b0.length : Int))) (by kernel_rfl) (fun c0 => ?_) (fun c0 => ?_)
  · have H := ifp c0 H
    refine ends_skip ?_
    refine ends_seq ?_
    refine ends_block ?_
    refine ends_seq ?_
    obtain ⟨v0, e0, H⟩ := bsi H
    refine er [] [(0, .fp (eByte.l b0) (x0.toNat * 1), none), (1, .int .u8 v0, none)] ⟨.any :: .any :: .int .u32 crc0 :: .int .u8 v0 :: eByte.fz b0 :: .int .i64 (b0.length : Int) :: .int .i64 x0 :: Ay3 [], [], h0⟩ ((True) ∧ indexAddrA Tryd.prog 25 (eByte.fz b0) (.int .i64 x0) = some (.fp (eByte.l b0) (x0.toNat * 1)) ∧ loadH Tryd.prog h0 5 (.fp (eByte.l b0) (x0.toNat * 1)) = some (.int .u8 v0) ∧ True) (by kernel_rfl) ⟨trivial, ⟨ia_fz (E := eByte) (l := b0) T25 e0, ld_fz0 (E := eByte) (l := b0) h0 A5 e0 rfl, trivial⟩⟩ ?_
    refine sr [] [] ⟨.any :: .any :: .int .u32 (bitsXor .u32 crc0 (u32.wrap v0)) :: .any :: eByte.fz b0 :: .int .i64 (b0.length : Int) :: .int .i64 x0 :: Ay3 [], [], h0⟩ ((True) ∧ True) (by kernel_rfl) ⟨trivial, trivial⟩ ?_
    refine sr [] [] ⟨[.any, .any, .int .u32 (bitsXor .u32 crc0 (u32.wrap v0)), .any, eByte.fz b0, .int .i64 (b0.length : Int), .int .i64 x0, .any, .int .i64 (0 : Int), .any], [], h0⟩ ((True) ∧ True) (by kernel_rfl) ⟨trivial, trivial⟩ ?_
    refine ends_block ?_
    obtain ⟨out0, e1, H⟩ := bsi H
    refine ends_mono (pickle_Sum.l1_ok L b0 x0   (σ := (bitsXor .u32 crc0 (u32.wrap v0), (0 : Int))) ⟨.any, .any, h0, rfl, o0⟩ e1) ?_
    rintro e s ⟨rfl, crc2, x2, rfl, g4, g5, g6, h2, rfl, o2⟩
    try dsimp only at H
    refine er [] [] ⟨.any :: .any :: .int .u32 crc2 :: .any :: eByte.fz b0 :: .int .i64 (b0.length : Int) :: .int .i64 (i64.wrap (x0 + (1 : Int))) :: Ay3 [], [], h2⟩ ((True) ∧ True) (by kernel_rfl) ⟨trivial, trivial⟩ ?_
    exact ⟨(crc2, i64.wrap (x0 + (1 : Int))), ⟨.any, .any, h2, rfl, o2⟩, H⟩
  · have H := ifn c0 H
    refine ends_exit ?_
    have H := Option.some.inj H
    exact ⟨rfl, crc0, x0, H, eByte.fz b0, .int .i64 (b0.length : Int), .int .i64 x0, .bool (decide (x0 < (b0.length : Int))), .any, h0, rfl, o0⟩
theorem pickle_Sum_body {ann : FuncId → Ann} (ha : ann 21 = ann21)  (b0 : List Int) (h : AHeap) (L : Mem)  (o : Has h (L)) {out : Int} (H : pickle_Sum.f m b0 = some out) :
    ∃ r h', bodyA Tryd.prog ann cf m 21 [eByte.fz b0] h = some (r, h') ∧ Frb h' r (.int .i64 out) := by
  refine body_of_ends2 (fn := Tryd.f21) ha Tryd.func21 (by kernel_rfl) (by kernel_rfl) ?_
  refine ends_fin (Q := fun s => pickle_Sum.fin L out s) (fun _ _ h => h) ?_
  refine ends_of_eq g21_eq ?_
  have H : _ = some out := H
  unfold pickle_Sum.f at H
  show Enz _ cf ann21 m _ ⟨eByte.fz b0 :: Ay9 [], [], h⟩ _
  refine sr [] [] ⟨eByte.fz b0 :: Ay9 [], [], h⟩ ((True) ∧ True) (by kernel_rfl) ⟨trivial, trivial⟩ ?_
  refine sr [] [] ⟨eByte.fz b0 :: .any :: .int .u32 (4294967295 : Int) :: Ay7 [], [], h⟩ ((True) ∧ True) (by kernel_rfl) ⟨trivial, trivial⟩ ?_
  refine ends_seq ?_
  refine sr [] [] ⟨.any :: .any :: .int .u32 (4294967295 : Int) :: .any :: eByte.fz b0 :: .int .i64 (b0.length : Int) :: .int .i64 (0 : Int) :: Ay3 [], [], h⟩ ((True) ∧ True) (by kernel_rfl) ⟨trivial, trivial⟩ ?_
  refine ends_block ?_
  obtain ⟨out1, e2, H⟩ := bsi H
  refine ends_mono (pickle_Sum.l0_ok L b0   (σ := ((4294967295 : Int), (0 : Int))) ⟨.any, .any, h, rfl, o⟩ e2) ?_
  rintro e s ⟨rfl, crc3, x3, rfl, g7, g8, g9, g10, g11, h3, rfl, o3⟩
  try dsimp only at H
  refine sr [] [] ⟨.any :: .int .i64 (i64.wrap (compl .u32 crc3)) :: Ay8 [], [], h3⟩ ((True) ∧ True) (by kernel_rfl) ⟨trivial, trivial⟩ ?_
  refine ends_ret ?_
  have H := Option.some.inj H
  subst H
  exact ⟨.inl rfl, ⟨.int .i64 (i64.wrap (compl .u32 crc3)), by kernel_rfl, frb (fb_int)⟩⟩
end
end Go.Proofs.YtmekcfdllhphlaaDoor

namespace Go.Proofs.YtmekcfdllhphlaaDoor
open Go Go.R
open Go.IntKind (i64 u64 u8 u32)
def ann42 : Ann := { keep := [0, 2, 3], locs := [17], dead := [(0, [2, 3]), (1, [0, 2]), (2, [0, 3])], frz := [], frz2 := [(0, [(2, none, 1)])] }
noncomputable def g42R0 := sub [0] (codeOf Tryd.f42)
noncomputable def g42R1 := sub [1, 0] (codeOf Tryd.f42)
noncomputable def g42R2 := sub [1, 1, 0] (codeOf Tryd.f42)
theorem g42_eq : codeOf Tryd.f42 = (.seq g42R0 (.seq g42R1 (.seq g42R2 .ret))) := by kernel_rfl
def pickle_check.f (m : Nat) (b0 : List Int) : Option ((List Int)) := (pickle_Sum.f m b0).bind fun x0 => some ([u8.wrap x0, u8.wrap (shR .i64 x0 8), u8.wrap (shR .i64 x0 16), u8.wrap (shR .i64 x0 24)])
def pickle_check.fin (L : Mem) (r : (List Int)) (s : St) : Prop := ∃ av, resultA Tryd.prog (s.open ann42) Tryd.f42.results.toList = some av ∧ Frb s.h av (eByte.fz r)
def S42 (cf : CallF) (m : Nat) : Prop := ∀ (b0 : List Int) (r : (List Int)), pickle_check.f m b0 = some r → ∀ h xs, FrzS 1000 h xs [eByte.fz b0] → cf 42 xs h = some (eByte.fz r, h)
section
variable {cf : CallF} {m : Nat}
theorem pickle_check_body {ann : FuncId → Ann} (ha : ann 42 = ann42) (S21_ : S21 cf m) (b0 : List Int) (h : AHeap) (L : Mem)  (o : Has h (L)) {out : (List Int)} (H : pickle_check.f m b0 = some out) :
    ∃ r h', bodyA Tryd.prog ann cf m 42 [eByte.fz b0] h = some (r, h') ∧ Frb h' r (eByte.fz out) := by
  refine body_of_ends2 (fn := Tryd.f42) ha Tryd.func42 (by kernel_rfl) (by kernel_rfl) ?_
  refine ends_fin (Q := fun s => pickle_check.fin L out s) (fun _ _ h => h) ?_
  refine ends_of_eq g42_eq ?_
  have H : _ = some out := H
  unfold pickle_check.f at H
  show Enz _ cf ann42 m _ ⟨[eByte.fz b0, .any, .any], [none], h⟩ _
  refine sr [] [] ⟨[eByte.fz b0, .any, .any], [none], h⟩ ((True) ∧ True) (by kernel_rfl) ⟨trivial, trivial⟩ ?_
  refine ends_seq ?_
  obtain ⟨x0, e0, H⟩ := bsi H
  refine er [] [(1, .int .i64 x0, some h)] ⟨[.any, .any, .int .i64 x0], [none], h⟩ ((True) ∧ callO cf (.fn 21 []) [eByte.fz b0] h = some (.int .i64 x0, h) ∧ True) (by kernel_rfl) ⟨trivial, ⟨callO_of (by kernel_rfl) (S21_ _ _ e0 _ _ (frs (fr_cons (fr_fz (E := eByte)) (fr_nil)))), trivial⟩⟩ ?_
  refine ends_seq ?_
  obtain ⟨ad0, h0, e1, o0⟩ := lit_new (E := eByte) (l := [u8.wrap x0, u8.wrap (shR .i64 x0 8), u8.wrap (shR .i64 x0 16), u8.wrap (shR .i64 x0 24)]) (cs := [.int .u8 (u8.wrap x0), .int .u8 (u8.wrap (shR .i64 x0 8)), .int .u8 (u8.wrap (shR .i64 x0 16)), .int .u8 (u8.wrap (shR .i64 x0 24))]) o (by kernel_rfl)
  refine er [] [(11, .rs ad0 0 (([u8.wrap x0, u8.wrap (shR .i64 x0 8), u8.wrap (shR .i64 x0 16), u8.wrap (shR .i64 x0 24)] : List Int).length) 1, some h0)] ⟨[.any, .rs ad0 0 (([u8.wrap x0, u8.wrap (shR .i64 x0 8), u8.wrap (shR .i64 x0 16), u8.wrap (shR .i64 x0 24)] : List Int).length) 1, .any], [none], h0⟩ ((True) ∧ some (AV.rs h.next 0 4 1, h.alloc (.cells [.int .u8 (u8.wrap x0), .int .u8 (u8.wrap (shR .i64 x0 8)), .int .u8 (u8.wrap (shR .i64 x0 16)), .int .u8 (u8.wrap (shR .i64 x0 24))])) = some (.rs ad0 0 (([u8.wrap x0, u8.wrap (shR .i64 x0 8), u8.wrap (shR .i64 x0 16), u8.wrap (shR .i64 x0 24)] : List Int).length) 1, h0) ∧ True) (by kernel_rfl) ⟨trivial, ⟨e1, trivial⟩⟩ ?_
  refine ends_ret ?_
  have H := Option.some.inj H
  subst H
  exact ⟨.inl rfl, ⟨.rs ad0 0 (([u8.wrap x0, u8.wrap (shR .i64 x0 8), u8.wrap (shR .i64 x0 16), u8.wrap (shR .i64 x0 24)] : List Int).length) 1, by kernel_rfl, frb (fb_rs (E := eByte) (l := ([u8.wrap x0, u8.wrap (shR .i64 x0 8), u8.wrap (shR .i64 x0 16), u8.wrap (shR .i64 x0 24)])) (q := 0) o0 rfl (fun _ => rfl))⟩⟩
end
end Go.Proofs.YtmekcfdllhphlaaDoor

namespace Go.Proofs.YtmekcfdllhphlaaDoor
open Go Go.R
open Go.IntKind (i64 u64 u8 u32)
def ann36 : Ann := { keep := [0, 2, 3, 5, 7, 8, 24, 25, 26, 27, 37, 38, 39, 40], locs := [5, 7], dead := [(0, [2, 3, 5, 7, 8, 24, 25, 26, 27, 37, 38, 39, 40]), (1, [2, 5, 7, 8, 24, 25, 26, 27, 37, 38, 39, 40]), (2, [2, 5, 7, 8, 24, 25, 26, 27, 37, 38, 39, 40]), (3, [2, 5, 7, 8, 24, 25, 26, 27, 37, 38, 39, 40]), (4, [2, 5, 7, 8, 24, 25, 26, 27, 37, 38, 39, 40]), (5, [0, 2, 5, 7, 8, 27, 37, 38, 39, 40]), (6, [0, 2, 5, 7, 8, 37, 38, 39, 40]), (7, [0, 2, 7, 8, 27, 37, 38, 39, 40]), (8, [0, 2, 7, 8, 27, 37, 38, 39, 40]), (9, [0, 2, 5, 7, 8, 27, 40]), (10, [0, 2, 5, 7, 8, 27]), (11, [0, 2, 5, 8, 27, 40]), (12, [0, 2, 5, 7, 8, 27, 40]), (13, [0, 2, 5, 7, 8, 27, 40]), (14, [0, 2, 5, 7, 8, 27, 37, 38, 39, 40]), (15, [0, 2, 3, 5, 7, 24, 25, 26, 27, 37, 38, 39, 40]), (16, [0, 3, 5, 7, 8, 24, 25, 26, 27, 37, 38, 39, 40])], frz := [], frz2 := [] }
noncomputable def g36R0 := sub [0] (codeOf Tryd.f36)
noncomputable def g36R1 := sub [1, 0] (codeOf Tryd.f36)
noncomputable def g36R2 := sub [1, 1, 0] (codeOf Tryd.f36)
noncomputable def g36R3 := sub [1, 1, 1, 0] (codeOf Tryd.f36)
noncomputable def g36R4 := sub [1, 1, 1, 1, 0] (codeOf Tryd.f36)
noncomputable def g36R5 := sub [1, 1, 1, 1, 1, 0, 0] (codeOf Tryd.f36)
noncomputable def g36L0 := sub [1, 1, 1, 1, 1, 0, 1, 0, 0] (codeOf Tryd.f36)
noncomputable def g36R6 := sub [1, 1, 1, 1, 1, 0, 1, 0, 0, 0] (codeOf Tryd.f36)
noncomputable def g36R7 := sub [1, 1, 1, 1, 1, 0, 1, 0, 0, 1, 1, 0, 0, 0] (codeOf Tryd.f36)
noncomputable def g36R8 := sub [1, 1, 1, 1, 1, 0, 1, 0, 0, 1, 1, 0, 0, 1, 0] (codeOf Tryd.f36)
noncomputable def g36R9 := sub [1, 1, 1, 1, 1, 0, 1, 0, 0, 1, 1, 0, 0, 1, 1, 0] (codeOf Tryd.f36)
noncomputable def g36L1 := sub [1, 1, 1, 1, 1, 0, 1, 0, 0, 1, 1, 0, 0, 1, 1, 1, 0, 0] (codeOf Tryd.f36)
noncomputable def g36R10 := sub [1, 1, 1, 1, 1, 0, 1, 0, 0, 1, 1, 0, 0, 1, 1, 1, 0, 0, 0] (codeOf Tryd.f36)
noncomputable def g36R11 := sub [1, 1, 1, 1, 1, 0, 1, 0, 0, 1, 1, 0, 0, 1, 1, 1, 0, 0, 1, 1, 0, 0, 0] (codeOf Tryd.f36)
noncomputable def g36R12 := sub [1, 1, 1, 1, 1, 0, 1, 0, 0, 1, 1, 0, 0, 1, 1, 1, 0, 0, 1, 1, 0, 0, 1] (codeOf Tryd.f36)
noncomputable def g36R13 := sub [1, 1, 1, 1, 1, 0, 1, 0, 0, 1, 1, 0, 0, 1, 1, 1, 0, 0, 1, 1, 1] (codeOf Tryd.f36)
noncomputable def g36R14 := sub [1, 1, 1, 1, 1, 0, 1, 0, 0, 1, 1, 1] (codeOf Tryd.f36)
noncomputable def g36R15 := sub [1, 1, 1, 1, 1, 1, 0] (codeOf Tryd.f36)
noncomputable def g36R16 := sub [1, 1, 1, 1, 1, 1, 1, 0] (codeOf Tryd.f36)
theorem g36L1_eq : g36L1 = (.seq g36R10 (.seq (.cond (.tmp 40) .skip (.exit 2)) (.seq (.block 3 (.seq g36R11 g36R12)) g36R13))) := by kernel_rfl
theorem g36L0_eq : g36L0 = (.seq g36R6 (.seq (.cond (.tmp 27) .skip (.exit 0)) (.seq (.block 1 (.seq g36R7 (.seq g36R8 (.seq g36R9 (.block 2 (.loop g36L1)))))) g36R14))) := by kernel_rfl
theorem g36_eq : codeOf Tryd.f36 = (.seq g36R0 (.seq g36R1 (.seq g36R2 (.seq g36R3 (.seq g36R4 (.seq (.seq g36R5 (.block 0 (.loop g36L0))) (.seq g36R15 (.seq g36R16 .ret)))))))) := by kernel_rfl
def pickle_write.l1 (m : Nat) (v0 : VTree) : Nat → Int → (List Int) → Option (Int × (List Int))
  | 0, _, _ => none
  | k + 1, x3, buf1 => if (decide (x3 < (v0.nodes.length : Int))) = true then ((ix v0.nodes x3).bind fun v1 => (wr_node.f m buf1 v1).bind fun x4 => pickle_write.l1 m v0 k (i64.wrap (x3 + (1 : Int))) x4) else (some ((x3, buf1)))
def pickle_write.l0 (m : Nat) (list0 : List VTree) : Nat → Int → (List Int) → Option (Int × (List Int))
  | 0, _, _ => none
  | k + 1, x1, buf0 => if (decide (x1 < (list0.length : Int))) = true then ((ix list0 x1).bind fun v0 => (wr_number.f m buf0 (u64.wrap (v0.nodes.length : Int))).bind fun x2 => (pickle_write.l1 m v0 m (0 : Int) x2).bind fun out0 => match out0 with | (x5, buf2) => pickle_write.l0 m list0 k (i64.wrap (x1 + (1 : Int))) buf2) else (some ((x1, buf0)))
def pickle_write.f (m : Nat) (list0 : List VTree) : Option ((List Int)) := (wB ([]) ([(76 : Int)])).bind fun bs0 => (wB1 bs0 ([(1 : Int)])).bind fun bs1 => (wr_number.f m bs1 (u64.wrap (list0.length : Int))).bind fun x0 => (pickle_write.l0 m list0 m (0 : Int) x0).bind fun out1 => match out1 with | (x6, buf3) => (bufLen buf3).bind fun u0 => (pickle_check.f m buf3).bind fun x7 => (app 1 buf3 x7).bind fun x8 => some x8
def pickle_write.fin (L : Mem) (r : (List Int)) (s : St) : Prop := ∃ av, resultA Tryd.prog (s.open ann36) Tryd.f36.results.toList = some av ∧ Frb s.h av (eByte.fz r)
def S36 (cf : CallF) (m : Nat) : Prop := ∀ (list0 : List VTree) (r : (List Int)), pickle_write.f m list0 = some r → ∀ h xs, FrzS 1000 h xs [eTree.fz list0] → cf 36 xs h = some (eByte.fz r, h)
section
variable {cf : CallF} {m : Nat}
def pickle_write.l1.R (L : Mem) (list0 : List VTree) (ad0 : Nat) (x1 : Int) (v0 : VTree) (σ : Int × (List Int)) (s : St) : Prop :=
  match σ with
  | (x3, buf1) => ∃ (g2 : AV) (g3 : AV) (ad6 : Nat) (h6 : AHeap), s = ⟨.any :: .any :: .ptr ad0 0 :: Ay3 [eTree.fz list0, .int .i64 (list0.length : Int), .int .i64 x1, g2, eNode.fz v0.nodes, .int .i64 (v0.nodes.length : Int), .int .i64 x3, g3], [none, none], h6⟩ ∧ Has h6 ((ad0, .ob [.rs ad6 0 buf1.length 1, .int .i64 (0 : Int), .int .i8 (0 : Int)]) :: (ad6, .row 5 (eByte.l buf1)) :: L)
def pickle_write.l1.Q (L : Mem) (list0 : List VTree) (ad0 : Nat) (x1 : Int) (v0 : VTree) (out : Int × (List Int)) (e : Ex) (s : St) : Prop :=
  (e = .exit 2 ∧ ∃ (x3 : Int) (buf1 : List Int), (x3, buf1) = out ∧ ∃ (x27_ : AV) (x37_ : AV) (x38_ : AV) (x39_ : AV) (x40_ : AV) (ad6 : Nat) (h6 : AHeap), s = ⟨.any :: .any :: .ptr ad0 0 :: Ay3 [eTree.fz list0, .int .i64 (list0.length : Int), .int .i64 x1, x27_, x37_, x38_, x39_, x40_], [none, none], h6⟩ ∧ Has h6 ((ad0, .ob [.rs ad6 0 buf1.length 1, .int .i64 (0 : Int), .int .i8 (0 : Int)]) :: (ad6, .row 5 (eByte.l buf1)) :: L))
theorem pickle_write.l1_ok (L : Mem) (list0 : List VTree) (ad0 : Nat) (x1 : Int) (v0 : VTree)  (S55_ : S55 cf m) {σ : Int × (List Int)} {s : St} {out : Int × (List Int)} (hr : pickle_write.l1.R L list0 ad0 x1 v0 σ s) (H : (fun k σ => pickle_write.l1 m v0 k σ.1 σ.2) m σ = some out) : Enz Tryd.prog cf ann36 m (.loop g36L1) s (pickle_write.l1.Q L list0 ad0 x1 v0 out) := by
  refine ends_loop (fun k σ => pickle_write.l1 m v0 k σ.1 σ.2) (pickle_write.l1.R L list0 ad0 x1 v0) (pickle_write.l1.Q L list0 ad0 x1 v0) (fun _ => rfl) ?_ hr H (fun _ _ _ h => h)
  clear hr H σ s out
  rintro k ⟨x3, buf1⟩ s out ⟨g2, g3, ad6, h6, rfl, o6⟩ H
  have H : pickle_write.l1 m v0 (k + 1) x3 buf1 = some out := H
  refine ends_of_eq g36L1_eq ?_
  refine sr [] [] ⟨.any :: .any :: .ptr ad0 0 :: Ay3 [eTree.fz list0, .int .i64 (list0.length : Int), .int .i64 x1, .any, eNode.fz v0.nodes, .int .i64 (v0.nodes.length : Int), .int .i64 x3, .bool (decide (x3 < (v0.nodes.length : Int)))], [none, none], h6⟩ ((True) ∧ True) (by kernel_rfl) ⟨trivial, trivial⟩ ?_
  refine ends_seq ?_
  refine ends_cond (decide (x3 < (v0.nodes.length : Int))) (by kernel_rfl) (fun c1 => ?_) (fun c1 => ?_)
  · have H := ifp c1 H
    refine ends_skip ?_
    refine ends_seq ?_
    refine ends_block ?_
    refine ends_seq ?_
    obtain ⟨v1, e10, H⟩ := bsi H
    refine er [] [(0, .fp (eNode.l v0.nodes) (x3.toNat * 4), none), (1, .agg [.int .i64 v1.kind, .int .i64 v1.int, .str v1.label, eInt.fz v1.args], none)] ⟨[.any, .any, .ptr ad0 0, .any, .lp 7 0, .any, eTree.fz list0, .int .i64 (list0.length : Int), .int .i64 x1, .any, eNode.fz v0.nodes, .int .i64 (v0.nodes.length : Int), .int .i64 x3, .any], [none, some [.int .i64 v1.kind, .int .i64 v1.int, .str v1.label, eInt.fz v1.args]], h6⟩ ((True) ∧ indexAddrA Tryd.prog 29 (eNode.fz v0.nodes) (.int .i64 x3) = some (.fp (eNode.l v0.nodes) (x3.toNat * 4)) ∧ loadH Tryd.prog h6 48 (.fp (eNode.l v0.nodes) (x3.toNat * 4)) = some (.agg [.int .i64 v1.kind, .int .i64 v1.int, .str v1.label, eInt.fz v1.args]) ∧ True) (by kernel_rfl) ⟨trivial, ⟨ia_fz (E := eNode) (l := v0.nodes) T29 e10, ld_fzA (E := eNode) (l := v0.nodes) h6 A48 Z48 e10, trivial⟩⟩ ?_
    obtain ⟨x4, e11, H⟩ := bsi H
    obtain ⟨ad7, h7, e12, o7⟩ := S55_ _ _ _ e11 h6 _ _ _ (o6)  [.ptr ad0 0, .agg [.int .i64 v1.kind, .int .i64 v1.int, .str v1.label, eInt.fz v1.args]] (can_cons (rfl) (can_cons (can_pure (pu_agg (pu_cons (pu_int) (pu_cons (pu_int) (pu_cons (pu_str) (pu_cons (pu_fz (E := eInt)) (pu_nil))))))) (can_nil)))
    refine er [] [(2, .tup [], some h7)] ⟨.any :: .any :: .ptr ad0 0 :: Ay3 [eTree.fz list0, .int .i64 (list0.length : Int), .int .i64 x1, .any, eNode.fz v0.nodes, .int .i64 (v0.nodes.length : Int), .int .i64 x3, .any], [none, none], h7⟩ ((True) ∧ callO cf (.fn 55 []) [.ptr ad0 0, .agg [.int .i64 v1.kind, .int .i64 v1.int, .str v1.label, eInt.fz v1.args]] h6 = some (.tup [], h7) ∧ True) (by kernel_rfl) ⟨trivial, ⟨callO_of (by kernel_rfl) e12, trivial⟩⟩ ?_
    refine er [] [] ⟨.any :: .any :: .ptr ad0 0 :: Ay3 [eTree.fz list0, .int .i64 (list0.length : Int), .int .i64 x1, .any, eNode.fz v0.nodes, .int .i64 (v0.nodes.length : Int), .int .i64 (i64.wrap (x3 + (1 : Int))), .any], [none, none], h7⟩ ((True) ∧ True) (by kernel_rfl) ⟨trivial, trivial⟩ ?_
    exact ⟨(i64.wrap (x3 + (1 : Int)), x4), ⟨.any, .any, ad7, h7, rfl, o7⟩, H⟩
  · have H := ifn c1 H
    refine ends_exit ?_
    have H := Option.some.inj H
    exact ⟨rfl, x3, buf1, H, .any, eNode.fz v0.nodes, .int .i64 (v0.nodes.length : Int), .int .i64 x3, .bool (decide (x3 < (v0.nodes.length : Int))), ad6, h6, rfl, o6⟩
def pickle_write.l0.R (L : Mem) (list0 : List VTree) (ad0 : Nat) (σ : Int × (List Int)) (s : St) : Prop :=
  match σ with
  | (x1, buf0) => ∃ (g0 : AV) (g1 : AV) (ad4 : Nat) (h4 : AHeap), s = ⟨.any :: .any :: .ptr ad0 0 :: Ay3 (eTree.fz list0 :: .int .i64 (list0.length : Int) :: .int .i64 x1 :: g0 :: Ay3 [g1]), [none, none], h4⟩ ∧ Has h4 ((ad0, .ob [.rs ad4 0 buf0.length 1, .int .i64 (0 : Int), .int .i8 (0 : Int)]) :: (ad4, .row 5 (eByte.l buf0)) :: L)
def pickle_write.l0.Q (L : Mem) (list0 : List VTree) (ad0 : Nat) (out : Int × (List Int)) (e : Ex) (s : St) : Prop :=
  (e = .exit 0 ∧ ∃ (x1 : Int) (buf0 : List Int), (x1, buf0) = out ∧ ∃ (x24_ : AV) (x25_ : AV) (x26_ : AV) (x27_ : AV) (x40_ : AV) (ad4 : Nat) (h4 : AHeap), s = ⟨.any :: .any :: .ptr ad0 0 :: Ay3 (x24_ :: x25_ :: x26_ :: x27_ :: Ay3 [x40_]), [none, none], h4⟩ ∧ Has h4 ((ad0, .ob [.rs ad4 0 buf0.length 1, .int .i64 (0 : Int), .int .i8 (0 : Int)]) :: (ad4, .row 5 (eByte.l buf0)) :: L))
theorem pickle_write.l0_ok (L : Mem) (list0 : List VTree) (ad0 : Nat)  (S54_ : S54 cf m) (S55_ : S55 cf m) {σ : Int × (List Int)} {s : St} {out : Int × (List Int)} (hr : pickle_write.l0.R L list0 ad0 σ s) (H : (fun k σ => pickle_write.l0 m list0 k σ.1 σ.2) m σ = some out) : Enz Tryd.prog cf ann36 m (.loop g36L0) s (pickle_write.l0.Q L list0 ad0 out) := by
  refine ends_loop (fun k σ => pickle_write.l0 m list0 k σ.1 σ.2) (pickle_write.l0.R L list0 ad0) (pickle_write.l0.Q L list0 ad0) (fun _ => rfl) ?_ hr H (fun _ _ _ h => h)
  clear hr H σ s out
  rintro k ⟨x1, buf0⟩ s out ⟨g0, g1, ad4, h4, rfl, o4⟩ H
  have H : pickle_write.l0 m list0 (k + 1) x1 buf0 = some out := H
  refine ends_of_eq g36L0_eq ?_
  refine sr [] [] ⟨.any :: .any :: .ptr ad0 0 :: Ay3 (eTree.fz list0 :: .int .i64 (list0.length : Int) :: .int .i64 x1 :: .bool (decide (x1 < (list0.length : Int))) :: Ay4 []), [none, none], h4⟩ ((True) ∧ True) (by kernel_rfl) ⟨trivial, trivial⟩ ?_
  refine ends_seq ?_
  refine ends_cond (decide (x1 < (list0.length : Int))) (by kernel_rfl) (fun c0 => ?_) (fun c0 => ?_)
  · have H := ifp c0 H
    refine ends_skip ?_
    refine ends_seq ?_
    refine ends_block ?_
    refine ends_seq ?_
    obtain ⟨v0, e7, H⟩ := bsi H
    refine er [] [(0, .fp (eTree.l list0) (x1.toNat * 2), none), (1, .agg [eNode.fz v0.nodes, .int .i64 v0.root], none)] ⟨.any :: .any :: .ptr ad0 0 :: .lp 5 0 :: .any :: .any :: eTree.fz list0 :: .int .i64 (list0.length : Int) :: .int .i64 x1 :: Ay5 [], [some [eNode.fz v0.nodes, .int .i64 v0.root], none], h4⟩ ((True) ∧ indexAddrA Tryd.prog 22 (eTree.fz list0) (.int .i64 x1) = some (.fp (eTree.l list0) (x1.toNat * 2)) ∧ loadH Tryd.prog h4 31 (.fp (eTree.l list0) (x1.toNat * 2)) = some (.agg [eNode.fz v0.nodes, .int .i64 v0.root]) ∧ True) (by kernel_rfl) ⟨trivial, ⟨ia_fz (E := eTree) (l := list0) T22 e7, ld_fzA (E := eTree) (l := list0) h4 A31 Z31 e7, trivial⟩⟩ ?_
    refine ends_seq ?_
    obtain ⟨x2, e8, H⟩ := bsi H
    obtain ⟨ad5, h5, e9, o5⟩ := S54_ _ _ _ e8 h4 _ _ _ (o4)  [.ptr ad0 0, .int .u64 (u64.wrap (v0.nodes.length : Int))] (can_cons (rfl) (can_cons (can_pure (pu_int)) (can_nil)))
    refine er [] [(5, .tup [], some h5)] ⟨.any :: .any :: .ptr ad0 0 :: .lp 5 0 :: .any :: .any :: eTree.fz list0 :: .int .i64 (list0.length : Int) :: .int .i64 x1 :: Ay5 [], [some [eNode.fz v0.nodes, .int .i64 v0.root], none], h5⟩ ((True) ∧ callO cf (.fn 54 []) [.ptr ad0 0, .int .u64 (u64.wrap (v0.nodes.length : Int))] h4 = some (.tup [], h5) ∧ True) (by kernel_rfl) ⟨trivial, ⟨callO_of (by kernel_rfl) e9, trivial⟩⟩ ?_
    refine sr [] [] ⟨.any :: .any :: .ptr ad0 0 :: Ay3 [eTree.fz list0, .int .i64 (list0.length : Int), .int .i64 x1, .any, eNode.fz v0.nodes, .int .i64 (v0.nodes.length : Int), .int .i64 (0 : Int), .any], [none, none], h5⟩ ((True) ∧ True) (by kernel_rfl) ⟨trivial, trivial⟩ ?_
    refine ends_block ?_
    obtain ⟨out0, e13, H⟩ := bsi H
    refine ends_mono (pickle_write.l1_ok L list0 ad0 x1 v0  S55_ (σ := ((0 : Int), x2)) ⟨.any, .any, ad5, h5, rfl, o5⟩ e13) ?_
    rintro e s ⟨rfl, x5, buf2, rfl, g4, g5, g6, g7, g8, ad8, h8, rfl, o8⟩
    try dsimp only at H
    refine er [] [] ⟨.any :: .any :: .ptr ad0 0 :: Ay3 (eTree.fz list0 :: .int .i64 (list0.length : Int) :: .int .i64 (i64.wrap (x1 + (1 : Int))) :: Ay5 []), [none, none], h8⟩ ((True) ∧ True) (by kernel_rfl) ⟨trivial, trivial⟩ ?_
    exact ⟨(i64.wrap (x1 + (1 : Int)), buf2), ⟨.any, .any, ad8, h8, rfl, o8⟩, H⟩
  · have H := ifn c0 H
    refine ends_exit ?_
    have H := Option.some.inj H
    exact ⟨rfl, x1, buf0, H, eTree.fz list0, .int .i64 (list0.length : Int), .int .i64 x1, .bool (decide (x1 < (list0.length : Int))), .any, ad4, h4, rfl, o4⟩
theorem pickle_write_body {ann : FuncId → Ann} (ha : ann 36 = ann36) (S42_ : S42 cf m) (S53_ : S53 cf m) (S54_ : S54 cf m) (S55_ : S55 cf m) (S56_ : S56 cf m) (list0 : List VTree) (h : AHeap) (L : Mem)  (o : Has h (L)) {out : (List Int)} (H : pickle_write.f m list0 = some out) :
    ∃ r h', bodyA Tryd.prog ann cf m 36 [eTree.fz list0] h = some (r, h') ∧ Frb h' r (eByte.fz out) := by
  refine body_of_ends2 (fn := Tryd.f36) ha Tryd.func36 (by kernel_rfl) (by kernel_rfl) ?_
  refine ends_fin (Q := fun s => pickle_write.fin L out s) (fun _ _ h => h) ?_
  refine ends_of_eq g36_eq ?_
  have H : _ = some out := H
  unfold pickle_write.f at H
  show Enz _ cf ann36 m _ ⟨eTree.fz list0 :: Ay13 [], [none, none], h⟩ _
  refine sr [] [] ⟨eTree.fz list0 :: Ay13 [], [none, none], h⟩ ((True) ∧ True) (by kernel_rfl) ⟨trivial, trivial⟩ ?_
  refine ends_seq ?_
  obtain ⟨ad0, h0, e0, o0⟩ := bx_new (cs := [.nils, .int .i64 (0 : Int), .int .i8 (0 : Int)]) o (by kernel_rfl)
  refine er [] [(1, .ptr ad0 0, some h0)] ⟨eTree.fz list0 :: .any :: .ptr ad0 0 :: Ay11 [], [none, none], h0⟩ ((True) ∧ boxH h [.nils, .int .i64 (0 : Int), .int .i8 (0 : Int)] = some (.ptr ad0 0, h0) ∧ True) (by kernel_rfl) ⟨trivial, ⟨e0, trivial⟩⟩ ?_
  refine ends_seq ?_
  obtain ⟨bs0, e1, H⟩ := bsi H
  obtain ⟨ad1, h1, e2, o1⟩ := wb_new S53_ o0 e1
  refine er [] [(3, .any, some h1)] ⟨eTree.fz list0 :: .any :: .ptr ad0 0 :: Ay11 [], [none, none], h1⟩ ((True) ∧ callO cf (.fn 53 []) [.ptr ad0 0, .int .u8 (76 : Int)] h0 = some (.any, h1) ∧ True) (by kernel_rfl) ⟨trivial, ⟨callO_of (by kernel_rfl) e2, trivial⟩⟩ ?_
  refine ends_seq ?_
  obtain ⟨bs1, e3, H⟩ := bsi H
  obtain ⟨ad2, h2, e4, o2⟩ := wb_own1 (bs := bs0) S53_ o1 e3
  refine er [] [(3, .any, some h2)] ⟨eTree.fz list0 :: .any :: .ptr ad0 0 :: Ay11 [], [none, none], h2⟩ ((True) ∧ callO cf (.fn 53 []) [.ptr ad0 0, .int .u8 (1 : Int)] h1 = some (.any, h2) ∧ True) (by kernel_rfl) ⟨trivial, ⟨callO_of (by kernel_rfl) e4, trivial⟩⟩ ?_
  refine ends_seq ?_
  obtain ⟨x0, e5, H⟩ := bsi H
  obtain ⟨ad3, h3, e6, o3⟩ := S54_ _ _ _ e5 h2 _ _ _ (o2)  [.ptr ad0 0, .int .u64 (u64.wrap (list0.length : Int))] (can_cons (rfl) (can_cons (can_pure (pu_int)) (can_nil)))
  refine er [] [(4, .tup [], some h3)] ⟨eTree.fz list0 :: .any :: .ptr ad0 0 :: Ay11 [], [none, none], h3⟩ ((True) ∧ callO cf (.fn 54 []) [.ptr ad0 0, .int .u64 (u64.wrap (list0.length : Int))] h2 = some (.tup [], h3) ∧ True) (by kernel_rfl) ⟨trivial, ⟨callO_of (by kernel_rfl) e6, trivial⟩⟩ ?_
  refine ends_seq ?_
  refine sr [] [] ⟨.any :: .any :: .ptr ad0 0 :: Ay3 (eTree.fz list0 :: .int .i64 (list0.length : Int) :: .int .i64 (0 : Int) :: Ay5 []), [none, none], h3⟩ ((True) ∧ True) (by kernel_rfl) ⟨trivial, trivial⟩ ?_
  refine ends_block ?_
  obtain ⟨out1, e14, H⟩ := bsi H
  refine ends_mono (pickle_write.l0_ok L list0 ad0  S54_ S55_ (σ := ((0 : Int), x0)) ⟨.any, .any, ad3, h3, rfl, o3⟩ e14) ?_
  rintro e s ⟨rfl, x6, buf3, rfl, g9, g10, g11, g12, g13, ad9, h9, rfl, o9⟩
  try dsimp only at H
  refine ends_seq ?_
  obtain ⟨u0, e15, H⟩ := bsi H
  obtain ⟨h10, e16, o10⟩ := by_own1 (bs := buf3) S56_ o9 e15
  refine er [] [(3, .rs ad9 0 buf3.length 1, some h10)] ⟨Ay5 (.rs ad9 0 buf3.length 1 :: Ay8 []), [none, none], h10⟩ ((True) ∧ callO cf (.fn 56 []) [.ptr ad0 0] h9 = some (.rs ad9 0 buf3.length 1, h10) ∧ True) (by kernel_rfl) ⟨trivial, ⟨callO_of (by kernel_rfl) e16, trivial⟩⟩ ?_
  have o11 : Has h10 ((ad9, .sl buf3.length 1 (eByte.l buf3)) :: L) := Has.del o10 0
  refine ends_seq ?_
  obtain ⟨x7, e17, H⟩ := bsi H
  obtain ⟨x8, e18, H⟩ := bsi H
  obtain ⟨ad10, h11, e19, o12⟩ := ap_own (P := Tryd.prog) (E := eByte) (l := buf3) (q := 0) (t2 := 25) (x := eByte.fz x7) (l2 := x7) T25 o11 rfl (cells_fz (E := eByte) (l2 := x7) _) rfl e18
  refine er [] [(2, eByte.fz x7, some h10), (3, .rs ad10 0 x8.length 1, some h11)] ⟨.any :: .rs ad10 0 x8.length 1 :: Ay12 [], [none, none], h11⟩ ((True) ∧ callO cf (.fn 42 []) [.rs ad9 0 buf3.length 1] h10 = some (eByte.fz x7, h10) ∧ appendA Tryd.prog h10 25 25 (.rs ad9 0 buf3.length 1) (eByte.fz x7) = some (.rs ad10 0 x8.length 1, h11) ∧ True) (by kernel_rfl) ⟨trivial, ⟨callO_of (by kernel_rfl) (S42_ _ _ e17 _ _ (frs (fr_cons (fr_rs (E := eByte) (l := buf3) (q := 0) o11 rfl (fun _ => rfl)) (fr_nil)))), e19, trivial⟩⟩ ?_
  refine ends_ret ?_
  have H := Option.some.inj H
  subst H
  exact ⟨.inl rfl, ⟨.rs ad10 0 x8.length 1, by kernel_rfl, frb (fb_rs (E := eByte) (l := x8) (q := 0) o12 rfl (fun _ => rfl))⟩⟩
end
end Go.Proofs.YtmekcfdllhphlaaDoor

namespace Go.Proofs.YtmekcfdllhphlaaDoor
open Go Go.R
open Go.IntKind (i64 u64 u8 u32)
def ann31 : Ann := { keep := [0, 1, 2, 3, 6], locs := [1, 2], dead := [(0, [0, 3, 6]), (1, [0, 3]), (2, [0, 1, 6]), (3, [0, 1, 6])], frz := [], frz2 := [] }
noncomputable def g31R0 := sub [0] (codeOf Tryd.f31)
noncomputable def g31R1 := sub [1, 0, 0] (codeOf Tryd.f31)
noncomputable def g31R2 := sub [1, 0, 1, 0, 0] (codeOf Tryd.f31)
noncomputable def g31R3 := sub [1, 1, 0] (codeOf Tryd.f31)
theorem g31_eq : codeOf Tryd.f31 = (.seq g31R0 (.seq (.seq g31R1 (.cond (.tmp 6) (.seq g31R2 .ret) .skip)) (.seq g31R3 .ret))) := by kernel_rfl
def tree_Least.f (m : Nat) (t0 : VTree) : Option (VTree × Int) := (tree_Valid.f m t0).bind fun x0 => if (!x0) = true then (some ((VTree.mk ([]) (0 : Int)), (2 : Int))) else ((tree_least.f m t0).bind fun x1 => some (x1, (0 : Int)))
def tree_Least.fin (L : Mem) (r : VTree × Int) (s : St) : Prop := ∃ av, resultA Tryd.prog (s.open ann31) Tryd.f31.results.toList = some av ∧ Frz s.h av (.tup [.agg [eNode.fz r.1.nodes, .int .i64 r.1.root], .int .i64 r.2])
def S31 (cf : CallF) (m : Nat) : Prop := ∀ (t0 : VTree) (r : VTree × Int), tree_Least.f m t0 = some r → ∀ h xs, PureS xs [.agg [eNode.fz t0.nodes, .int .i64 t0.root]] → cf 31 xs h = some (.tup [.agg [eNode.fz r.1.nodes, .int .i64 r.1.root], .int .i64 r.2], h)
section
variable {cf : CallF} {m : Nat}
theorem tree_Least_body {ann : FuncId → Ann} (ha : ann 31 = ann31) (S45_ : S45 cf m) (S47_ : S47 cf m) (t0 : VTree) (h : AHeap) (L : Mem)  (o : Has h (L)) {out : VTree × Int} (H : tree_Least.f m t0 = some out) :
    ∃ r h', bodyA Tryd.prog ann cf m 31 [.agg [eNode.fz t0.nodes, .int .i64 t0.root]] h = some (r, h') ∧ Frz h' r (.tup [.agg [eNode.fz out.1.nodes, .int .i64 out.1.root], .int .i64 out.2]) := by
  refine body_of_ends2 (fn := Tryd.f31) ha Tryd.func31 (by kernel_rfl) (by kernel_rfl) ?_
  refine ends_fin (Q := fun s => tree_Least.fin L out s) (fun _ _ h => h) ?_
  refine ends_of_eq g31_eq ?_
  have H : _ = some out := H
  unfold tree_Least.f at H
  show Enz _ cf ann31 m _ ⟨.agg [eNode.fz t0.nodes, .int .i64 t0.root] :: Ay4 [], [none, none], h⟩ _
  refine sr [] [] ⟨[.any, .lp 1 0, .lp 2 0, .any, .any], [some [eNode.fz t0.nodes, .int .i64 t0.root], some [.nils, .int .i64 (0 : Int)]], h⟩ ((True) ∧ True) (by kernel_rfl) ⟨trivial, trivial⟩ ?_
  refine ends_seq ?_
  refine ends_seq ?_
  obtain ⟨x0, e0, H⟩ := bsi H
  refine er [] [(1, .bool x0, some h)] ⟨[.any, .lp 1 0, .lp 2 0, .any, .bool (!x0)], [some [eNode.fz t0.nodes, .int .i64 t0.root], some [.nils, .int .i64 (0 : Int)]], h⟩ ((True) ∧ callO cf (.fn 45 []) [.agg [eNode.fz t0.nodes, .int .i64 t0.root]] h = some (.bool x0, h) ∧ True) (by kernel_rfl) ⟨trivial, ⟨callO_of (by kernel_rfl) (S45_ _ _ e0 _ _ (frs (fr_cons (fr_agg (fr_cons (fr_fz (E := eNode)) (fr_cons (fr_int) (fr_nil)))) (fr_nil)))), trivial⟩⟩ ?_
  refine ends_cond (!x0) (by kernel_rfl) (fun c0 => ?_) (fun c0 => ?_)
  · have H := ifp c0 H
    refine sr [] [] ⟨[.any, .any, .lp 2 0, .int .i64 (2 : Int), .any], [none, some [.nils, .int .i64 (0 : Int)]], h⟩ ((True) ∧ True) (by kernel_rfl) ⟨trivial, trivial⟩ ?_
    refine ends_ret ?_
    have H := Option.some.inj H
    subst H
    exact ⟨.inl rfl, ⟨.tup [.agg [.nils, .int .i64 (0 : Int)], .int .i64 (2 : Int)], by kernel_rfl, frz (fr_tup (fr_cons (fr_agg (fr_cons (fr_nils) (fr_cons (fr_int) (fr_nil)))) (fr_cons (fr_int) (fr_nil))))⟩⟩
  · have H := ifn c0 H
    refine ends_skip ?_
    refine ends_seq ?_
    obtain ⟨x1, e1, H⟩ := bsi H
    refine er [] [(1, .agg [eNode.fz x1.nodes, .int .i64 x1.root], some h)] ⟨[.any, .any, .lp 2 0, .int .i64 (0 : Int), .any], [none, some [eNode.fz x1.nodes, .int .i64 x1.root]], h⟩ ((True) ∧ callO cf (.fn 47 []) [.agg [eNode.fz t0.nodes, .int .i64 t0.root]] h = some (.agg [eNode.fz x1.nodes, .int .i64 x1.root], h) ∧ True) (by kernel_rfl) ⟨trivial, ⟨callO_of (by kernel_rfl) (S47_ _ _ e1 _ _ (pu_cons (pu_agg (pu_cons (pu_fz (E := eNode)) (pu_cons (pu_int) (pu_nil)))) (pu_nil))), trivial⟩⟩ ?_
    refine ends_ret ?_
    have H := Option.some.inj H
    subst H
    exact ⟨.inl rfl, ⟨.tup [.agg [eNode.fz x1.nodes, .int .i64 x1.root], .int .i64 (0 : Int)], by kernel_rfl, frz (fr_tup (fr_cons (fr_agg (fr_cons (fr_fz) (fr_cons (fr_int) (fr_nil)))) (fr_cons (fr_int) (fr_nil))))⟩⟩
end
end Go.Proofs.YtmekcfdllhphlaaDoor

namespace Go.Proofs.YtmekcfdllhphlaaDoor
open Go Go.R
open Go.IntKind (i64 u64 u8 u32)
def ann35 : Ann := { keep := [0, 1, 2], locs := [1], dead := [(0, [0, 2]), (1, [0, 1])], frz := [], frz2 := [] }
noncomputable def g35R0 := sub [0] (codeOf Tryd.f35)
noncomputable def g35R1 := sub [1, 0] (codeOf Tryd.f35)
theorem g35_eq : codeOf Tryd.f35 = (.seq g35R0 (.seq g35R1 .ret)) := by kernel_rfl
def pickle_named.f (m : Nat) (n0 : VNode) : Option (Bool) := some (n0.kind == (4 : Int))
def pickle_named.fin (L : Mem) (r : Bool) (s : St) : Prop := ∃ av, resultA Tryd.prog (s.open ann35) Tryd.f35.results.toList = some av ∧ Frb s.h av (.bool r)
def S35 (cf : CallF) (m : Nat) : Prop := ∀ (n0 : VNode) (r : Bool), pickle_named.f m n0 = some r → ∀ h xs, FrzS 1000 h xs [.agg [.int .i64 n0.kind, .int .i64 n0.int, .str n0.label, eInt.fz n0.args]] → cf 35 xs h = some (.bool r, h)
section
variable {cf : CallF} {m : Nat}
theorem pickle_named_body {ann : FuncId → Ann} (ha : ann 35 = ann35)  (n0 : VNode) (h : AHeap) (L : Mem)  (o : Has h (L)) {out : Bool} (H : pickle_named.f m n0 = some out) :
    ∃ r h', bodyA Tryd.prog ann cf m 35 [.agg [.int .i64 n0.kind, .int .i64 n0.int, .str n0.label, eInt.fz n0.args]] h = some (r, h') ∧ Frb h' r (.bool out) := by
  refine body_of_ends2 (fn := Tryd.f35) ha Tryd.func35 (by kernel_rfl) (by kernel_rfl) ?_
  refine ends_fin (Q := fun s => pickle_named.fin L out s) (fun _ _ h => h) ?_
  refine ends_of_eq g35_eq ?_
  have H : _ = some out := H
  unfold pickle_named.f at H
  show Enz _ cf ann35 m _ ⟨[.agg [.int .i64 n0.kind, .int .i64 n0.int, .str n0.label, eInt.fz n0.args], .any, .any], [none], h⟩ _
  refine sr [] [] ⟨[.any, .lp 1 0, .any], [some [.int .i64 n0.kind, .int .i64 n0.int, .str n0.label, eInt.fz n0.args]], h⟩ ((True) ∧ True) (by kernel_rfl) ⟨trivial, trivial⟩ ?_
  refine sr [] [] ⟨[.any, .any, .bool (n0.kind == (4 : Int))], [none], h⟩ ((True) ∧ True) (by kernel_rfl) ⟨trivial, trivial⟩ ?_
  refine ends_ret ?_
  have H := Option.some.inj H
  subst H
  exact ⟨.inl rfl, ⟨.bool (n0.kind == (4 : Int)), by kernel_rfl, frb (fb_bool)⟩⟩
end
end Go.Proofs.YtmekcfdllhphlaaDoor

namespace Go.Proofs.YtmekcfdllhphlaaDoor
open Go Go.R
open Go.IntKind (i64 u64 u8 u32)
def ann33 : Ann := { keep := [0, 1, 2], locs := [1], dead := [(0, [0, 2]), (1, [0, 1])], frz := [], frz2 := [] }
noncomputable def g33R0 := sub [0] (codeOf Tryd.f33)
noncomputable def g33R1 := sub [1, 0] (codeOf Tryd.f33)
theorem g33_eq : codeOf Tryd.f33 = (.seq g33R0 (.seq g33R1 .ret)) := by kernel_rfl
def pickle_Put_1.f (m : Nat) (t0 : VTree) : Option (Bool) := (ContainsFN.f m t0.nodes (fun y0 => pickle_named.f m y0)).bind fun x0 => some x0
def pickle_Put_1.fin (L : Mem) (r : Bool) (s : St) : Prop := ∃ av, resultA Tryd.prog (s.open ann33) Tryd.f33.results.toList = some av ∧ Frb s.h av (.bool r)
def S33 (cf : CallF) (m : Nat) : Prop := ∀ (t0 : VTree) (r : Bool), pickle_Put_1.f m t0 = some r → ∀ h xs, FrzS 1000 h xs [.agg [eNode.fz t0.nodes, .int .i64 t0.root]] → cf 33 xs h = some (.bool r, h)
section
variable {cf : CallF} {m : Nat}
theorem pickle_Put_1_body {ann : FuncId → Ann} (ha : ann 33 = ann33) (S34_ : S34 cf m) (S35_ : S35 cf m) (t0 : VTree) (h : AHeap) (L : Mem)  (o : Has h (L)) {out : Bool} (H : pickle_Put_1.f m t0 = some out) :
    ∃ r h', bodyA Tryd.prog ann cf m 33 [.agg [eNode.fz t0.nodes, .int .i64 t0.root]] h = some (r, h') ∧ Frb h' r (.bool out) := by
  refine body_of_ends2 (fn := Tryd.f33) ha Tryd.func33 (by kernel_rfl) (by kernel_rfl) ?_
  refine ends_fin (Q := fun s => pickle_Put_1.fin L out s) (fun _ _ h => h) ?_
  refine ends_of_eq g33_eq ?_
  have H : _ = some out := H
  unfold pickle_Put_1.f at H
  show Enz _ cf ann33 m _ ⟨[.agg [eNode.fz t0.nodes, .int .i64 t0.root], .any, .any], [none], h⟩ _
  refine sr [] [] ⟨[.any, .lp 1 0, .any], [some [eNode.fz t0.nodes, .int .i64 t0.root]], h⟩ ((True) ∧ True) (by kernel_rfl) ⟨trivial, trivial⟩ ?_
  refine ends_seq ?_
  obtain ⟨x0, e0, H⟩ := bsi H
  refine er [] [(2, .bool x0, some h)] ⟨[.any, .any, .bool x0], [none], h⟩ ((True) ∧ callO cf (.fn 34 []) [eNode.fz t0.nodes, .fn 35 []] h = some (.bool x0, h) ∧ True) (by kernel_rfl) ⟨trivial, ⟨callO_of (by kernel_rfl) (S34_ _ _ _ e0 h (Has.pos o) 35 [] rfl (fun y0 r hr => S35_ y0 r hr h _ (frs (fr_cons (fr_agg (fr_cons (fr_int) (fr_cons (fr_int) (fr_cons (fr_str) (fr_cons (fr_fz (E := eInt)) (fr_nil)))))) (fr_nil)))) _ (can_cons (can_pure (pu_fz (E := eNode))) (can_cons (rfl) (can_nil)))), trivial⟩⟩ ?_
  refine ends_ret ?_
  have H := Option.some.inj H
  subst H
  exact ⟨.inl rfl, ⟨.bool x0, by kernel_rfl, frb (fb_bool)⟩⟩
end
end Go.Proofs.YtmekcfdllhphlaaDoor

