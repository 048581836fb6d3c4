/- PickleLong: the check of many zeros. -/
import Derived.Test.YtmekcfdllhphlaaDoorPd4
import Derived.Test.YtmekcfdllhphlaaDoorPd1
import Derived.Test.YtmekcfdllhphlaaDoorCrcPow
import Derived.Test.YtmekcfdllhphlaaDoorRWalk
set_option linter.unusedVariables false
set_option linter.unusedSimpArgs false
namespace Go.Proofs.YtmekcfdllhphlaaDoor
open Go Go.R Go.Proofs Go.RowKit Go.Shelf
set_option maxRecDepth 100000
noncomputable def g42R0 : Code := sub [0] (codeOf Tryd.f42)
noncomputable def g42R1 : Code := sub [1, 0] (codeOf Tryd.f42)
noncomputable def g42R2 : Code := sub [1, 1, 0] (codeOf Tryd.f42)

theorem g42_eq : codeOf Tryd.f42 = (.seq g42R0 (.seq g42R1 (.seq g42R2 .ret))) := by kernel_rfl
noncomputable def g41R0 : Code := sub [0] (codeOf Tryd.f41)
noncomputable def g41R1 : Code := sub [1, 0] (codeOf Tryd.f41)

theorem g41_eq : codeOf Tryd.f41 = (.seq g41R0 (.seq g41R1 .ret)) := by kernel_rfl
noncomputable def g19R0 : Code := sub [0] (codeOf Tryd.f19)
noncomputable def g19R1 : Code := sub [1, 0, 0] (codeOf Tryd.f19)
noncomputable def g19R2 : Code := sub [1, 0, 1, 0, 0] (codeOf Tryd.f19)
noncomputable def g19R3 : Code := sub [1, 1, 0, 0] (codeOf Tryd.f19)
noncomputable def g19R4 : Code := sub [1, 1, 0, 1, 0, 0] (codeOf Tryd.f19)
noncomputable def g19T : Code := sub [1, 1, 1] (codeOf Tryd.f19)
theorem g19_eq : codeOf Tryd.f19 = (.seq g19R0 (.seq (.seq g19R1 (.cond (.tmp 15) (.seq g19R2 .ret) .skip)) (.seq (.seq g19R3 (.cond (.tmp 33) (.seq g19R4 .ret) .skip)) g19T))) := by kernel_rfl
/-- Bytes at the beginning of a row. -/
theorem holds_head {h : AHeap} {id n : Nat} {cs : List AV} {l : List (BitVec 8)} (hg : h.get id = some (.cells cs)) (ht : cs.take n = l.map B8) (hn : n = l.length) : Holds h (.rs id 0 n 1) l := by
  subst hn
  have a5 : isAggT Tryd.prog 5 = some false := by kernel_rfl
  have s5 : szOf Tryd.prog 5 = some 1 := by kernel_rfl
  refine ⟨?_, fun i hi => ⟨.ptr id i, ?_, fun bx => ?_⟩, fun _ => rfl⟩
  · simp [lenA, Tryd.underlying25]
  · simp [indexAddrA, Tryd.underlying25, s5]
    omega
  · have h1 : cs[i]? = some (B8 l[i]) := by
      have := congrArg (fun x => x[i]?) ht
      simp only [List.getElem?_take, hi, if_true, List.getElem?_map] at this
      rw [this]
      simp [hi]
    simp [loadA, hg, readCs, a5, h1]

section
variable {cf : CallF} {m : Nat} {x : AV} {l : List (BitVec 8)} {h : AHeap}
theorem check42 (h21 : cf 21 [x] h = some (I32 (Crc.sum l), h)) (hk : Kp [] x) (hx : x.argOK = true) :
    bodyA Tryd.prog annL cf m 42 [x] h = some (.fz ((four (Crc.sum l)).map B8) 4 true, h) := by
  have hbs : ∀ a b c d, buildSliceA Tryd.prog 25 4 [(0, B8 a), (1, B8 b), (2, B8 c), (3, B8 d)] = some (.fz [B8 a, B8 b, B8 c, B8 d] 4 true) := fun a b c d => by kernel_rfl
  have hb : ∃ s'', execA Tryd.prog cf (annL 42) m (codeOf Tryd.f42) { vars := argsVars (annL 42).keep [x], bxs := (annL 42).locs.map fun _ => none, h } = some (.ret, s'') ∧ resultA Tryd.prog (s''.open (annL 42)) Tryd.f42.results.toList = some (.fz ((four (Crc.sum l)).map B8) 4 true) ∧ s''.h = h := by
    rw [g42_eq]
    simp [g42R0, g42R1, g42R2, sub, codeOf, Tryd.f42, annL, argsVars, execA_seq, execA_region, hk _, hx, h21, hbs, keepI, shr8, shr16, shr24, conv_i_8, resultA, resA, (show AV.argOK (.fz [B8 ((Crc.sum l).setWidth 8), B8 ((Crc.sum l >>> 8).setWidth 8), B8 ((Crc.sum l >>> 16).setWidth 8), B8 ((Crc.sum l >>> 24).setWidth 8)] 4 true) = true from rfl), four]
  obtain ⟨s'', g1, g2, g3⟩ := hb
  rw [body_ret Tryd.func42 (by kernel_rfl) (by show 1 ≤ Tryd.f42.ntmps; decide) g1 g2, g3]
end

/-- The chapter's examples, without a run. -/
def g13 (args : List AV) (h : AHeap) : Option (AV × AHeap) := match args with | [] => some (.bool true, h) | _ => none
theorem g13_ok (args : List AV) (h : AHeap) (r : AV × AHeap) (hr : g13 args h = some r) : callA Tryd.prog toldC 10000 99 13 args h = some r := by
  unfold g13 at hr
  split at hr
  · cases hr; exact awake0' h
  · cases hr
theorem g13_call : CallOK Tryd.prog fun f' args h => if f' = 13 then g13 args h else none := by
  intro f args h r h' hc
  dsimp only at hc
  split at hc
  · rename_i hf
    subst hf
    exact callA_ok fits (T := toldC) intrC_ok 10000 99 13 args h r h' (g13_ok args h _ hc)
  · cases hc
theorem g13_steady (args : List AV) (h : AHeap) (r : AV) (h' : AHeap) (hr : g13 args h = some (r, h')) : Steady h h' :=
  callA_steady (T := toldC) intrC_ok 10000 99 13 args h r h' (g13_ok args h _ hr)



/-- An atom's least graph, without a run. -/
def atomA (ex : Bool) : AV := .agg [.fz [.int .i64 2, .int .i64 0, .str ⟨#[97]⟩, .nils] 1 ex, .int .i64 0]
noncomputable def toldC2 : Tells := { ann := annL, intr := intrC, pure := fun f => if f = 31 then some 40 else none }
theorem atom_run (ex : Bool) (h : AHeap) : callA Tryd.prog toldC2 10000 99 31 [atomA ex] h = some (.tup [atomA false, .int .i64 0], h) := by kernel_rfl
def g31 (args : List AV) (h : AHeap) : Option (AV × AHeap) :=
  match args with
  | [.agg [.fz [.int .i64 a, .int .i64 b, .str s, .nils] 1 _, .int .i64 c]] => if a = 2 ∧ b = 0 ∧ c = 0 ∧ s.data.toList = [97] then some (.tup [atomA false, .int .i64 0], h) else none
  | _ => none
theorem g31_ok (args : List AV) (h : AHeap) (r : AV × AHeap) (hr : g31 args h = some r) : callA Tryd.prog toldC2 10000 99 31 args h = some r := by
  unfold g31 at hr
  split at hr
  · rename_i a b s ex c
    split at hr
    · rename_i hh
      obtain ⟨rfl, rfl, rfl, hs⟩ := hh
      have : s = ⟨#[97]⟩ := by
        cases s with
        | mk d => congr 1; exact Array.toList_inj.1 hs
      subst this
      cases hr
      exact atom_run ex h
    · cases hr
  · cases hr
theorem g31_call : CallOK Tryd.prog fun f' args h => if f' = 31 then g31 args h else none := by
  intro f args h r h' hc
  dsimp only at hc
  split at hc
  · rename_i hf
    subst hf
    exact callA_ok fits (T := toldC2) intrC_ok 10000 99 31 args h r h' (g31_ok args h _ hc)
  · cases hc
theorem g31_steady (args : List AV) (h : AHeap) (r : AV) (h' : AHeap) (hr : g31 args h = some (r, h')) : Steady h h' :=
  callA_steady (T := toldC2) intrC_ok 10000 99 31 args h r h' (g31_ok args h _ hr)

noncomputable def intrL : FuncId → Option (List AV → AHeap → Option (AV × AHeap)) := fun f => if f = 13 then some g13 else if f = 31 then some g31 else intrC f
theorem intrL_ok : IntrOK Tryd.prog intrL := intr_cons (f0 := 13) g13_call g13_steady (intr_cons (f0 := 31) g31_call g31_steady intrC_ok)
noncomputable def toldL : Tells := { ann := annL, intr := intrL, pure := fun _ => none }

def z8 : AV := .int .u8 0
def K4 : AV := .fz [.int .u8 46, .int .u8 232, .int .u8 4, .int .u8 152] 4 true
section
variable {h : AHeap} {id : Nat}
theorem z42 (hg : h.get id = some (.cells (List.replicate 200000 z8))) : callA Tryd.prog toldL 300000 98 42 [.rs id 0 199996 1] h = some (K4, h) := by
  have ht : (List.replicate 200000 z8).take 199996 = (List.replicate 199996 0#8).map B8 := by
    rw [List.take_replicate, List.map_replicate]
    rfl
  have H : Holds h (.rs id 0 199996 1) (List.replicate 199996 0#8) := holds_head hg ht List.length_replicate.symm
  have h21 : callA Tryd.prog toldL 300000 97 21 [.rs id 0 199996 1] h = some (I32 (Crc.sum (List.replicate 199996 0#8)), h) := by
    have : callA Tryd.prog toldL 300000 97 21 [.rs id 0 199996 1] h = bodyA Tryd.prog annL (callA Tryd.prog toldL 300000 96) 300000 21 [.rs id 0 199996 1] h := rfl
    rw [this]
    exact sum21 H (by rw [List.length_replicate]; omega) (by rw [List.length_replicate]; omega) (by omega)
  have e : callA Tryd.prog toldL 300000 98 42 [.rs id 0 199996 1] h = bodyA Tryd.prog annL (callA Tryd.prog toldL 300000 97) 300000 42 [.rs id 0 199996 1] h := rfl
  have := check42 (m := 300000) h21 (fun _ => rfl) rfl
  rw [Crc.zeros_sum] at this
  rw [e]
  exact this

theorem z41 (hg : h.get id = some (.cells (List.replicate 200000 z8))) : callA Tryd.prog toldL 300000 98 41 [K4, .rs id 199996 4 1] h = some (.bool false, h) := by
  have e : callA Tryd.prog toldL 300000 98 41 [K4, .rs id 199996 4 1] h = bodyA Tryd.prog annL (callA Tryd.prog toldL 300000 97) 300000 41 [K4, .rs id 199996 4 1] h := rfl
  rw [e]
  have c1 : convertA Tryd.prog h 25 9 K4 = some (.str ⟨#[46, 232, 4, 152]⟩) := by kernel_rfl
  have hc : cellsOfA h 1 (.rs id 199996 4 1) = some ([z8, z8, z8, z8], 4) := by
    unfold cellsOfA
    simp only [hg, Option.bind_some]
    rw [if_pos ⟨trivial, by rw [List.length_replicate]; omega⟩, List.drop_replicate, List.take_replicate]
    rfl
  have hu : isU8 Tryd.prog 5 = true := by kernel_rfl
  have c2 : convertA Tryd.prog h 25 9 (.rs id 199996 4 1) = some (.str ⟨#[0, 0, 0, 0]⟩) := by
    unfold convertA
    rw [Tryd.underlying25, Tryd.underlying9]
    simp only [hu, if_true, hc, Option.bind_some]
    rfl
  have c3 : binOpA Tryd.prog .eql 9 (.str ⟨#[46, 232, 4, 152]⟩) (.str ⟨#[0, 0, 0, 0]⟩) = some (.bool false) := by kernel_rfl
  have k4 : Kp [] K4 := fun _ => rfl
  have hb : ∃ s'', execA Tryd.prog (callA Tryd.prog toldL 300000 97) (annL 41) 300000 (codeOf Tryd.f41) { vars := argsVars (annL 41).keep [K4, .rs id 199996 4 1], bxs := (annL 41).locs.map fun _ => none, h } = some (.ret, s'') ∧ resultA Tryd.prog (s''.open (annL 41)) Tryd.f41.results.toList = some (.bool false) ∧ s''.h = h := by
    rw [g41_eq]
    simp [g41R0, g41R1, sub, codeOf, Tryd.f41, annL, argsVars, execA_seq, execA_region, k4 _, c1, c2, c3, resultA, resA, AV.argOK]
  obtain ⟨s'', g1, g2, g3⟩ := hb
  rw [body_ret Tryd.func41 (by kernel_rfl) (by show 2 ≤ Tryd.f41.ntmps; decide) g1 g2, g3]

theorem get_zero (hg : h.get id = some (.cells (List.replicate 200000 z8))) : callA Tryd.prog toldL 300000 99 19 [.rs id 0 200000 1] h = some (.tup [.nils, .int .i64 2], h) := by
  have e : callA Tryd.prog toldL 300000 99 19 [.rs id 0 200000 1] h = bodyA Tryd.prog annL (callA Tryd.prog toldL 300000 98) 300000 19 [.rs id 0 200000 1] h := rfl
  rw [e]
  have h42 := z42 hg
  have h41 := z41 hg
  generalize callA Tryd.prog toldL 300000 98 = cf at h42 h41
  have sl1 : sliceA Tryd.prog 25 (.rs id 0 200000 1) none (some (.int .i64 199996)) none = some (.rs id 0 199996 1) := by kernel_rfl
  have sl2 : sliceA Tryd.prog 25 (.rs id 0 200000 1) (some (.int .i64 199996)) none none = some (.rs id 199996 4 1) := by kernel_rfl
  have e0 : execA Tryd.prog cf (annL 19) 300000 (.seq g19R0 (.seq g19R1 (.cond (.tmp 15) (.seq g19R2 .ret) .skip))) { vars := argsVars (annL 19).keep [.rs id 0 200000 1], bxs := (annL 19).locs.map fun _ => none, h } =
      some (.norm, ⟨[.rs id 0 200000 1, .nils, .int .i64 0, .any, .any, .any, .any, .any, .any, .any, .any, .any, .bool false, .any, .any, .any, .any, .any], [none], h⟩) := by kernel_rfl
  have e3 : execA Tryd.prog cf (annL 19) 300000 g19R3 ⟨[.rs id 0 200000 1, .nils, .int .i64 0, .any, .any, .any, .any, .any, .any, .any, .any, .any, .bool false, .any, .any, .any, .any, .any], [none], h⟩ =
      some (.norm, ⟨[.rs id 0 200000 1, .nils, .int .i64 0, .any, .any, .any, .any, .any, .any, .any, .any, .any, .bool false, .bool true, .any, .any, .any, .any], [none], h⟩) := by
    have hcode : g19R3 = .region 3 (opsOf g19R3) true := by kernel_rfl
    rw [hcode]
    refine execA_undraw (by kernel_rfl) ?_
    have l1 : lenA Tryd.prog h 25 (.rs id 0 200000 1) = some (.int .i64 200000) := by kernel_rfl
    have w1 : IntKind.i64.wrap 199996 = 199996 := by decide
    have ak : AV.argOK K4 = true := rfl
    have ar : ∀ i o n z, AV.argOK (.rs i o n z) = true := fun _ _ _ _ => rfl
    have nt : (pureRun Tryd.prog (Op.unary .not (.bool false))).bind ofV1 = some (.bool true) := by kernel_rfl
    simp [opsOf, g19R3, sub, codeOf, Tryd.f19, annL, execA_region, l1, w1, sl1, sl2, h42, h41, ak, ar, nt, AV.conc1]
  have e4 : execA Tryd.prog cf (annL 19) 300000 (.cond (.tmp 33) (.seq g19R4 .ret) .skip) ⟨[.rs id 0 200000 1, .nils, .int .i64 0, .any, .any, .any, .any, .any, .any, .any, .any, .any, .bool false, .bool true, .any, .any, .any, .any], [none], h⟩ =
      some (.ret, ⟨[.rs id 0 200000 1, .nils, .int .i64 2, .any, .any, .any, .any, .any, .any, .any, .any, .any, .bool false, .bool true, .any, .any, .any, .any], [none], h⟩) := by kernel_rfl
  have hz : ∀ (a b c : Code) (s : St), execA Tryd.prog cf (annL 19) 300000 (.seq a (.seq b c)) s = execA Tryd.prog cf (annL 19) 300000 (.seq (.seq a b) c) s := by
    intro a b c s
    simp only [execA_seq]
    cases execA Tryd.prog cf (annL 19) 300000 a s with
    | none => rfl
    | some r => obtain ⟨e, s'⟩ := r; cases e <;> rfl
  have hall : execA Tryd.prog cf (annL 19) 300000 (codeOf Tryd.f19) { vars := argsVars (annL 19).keep [.rs id 0 200000 1], bxs := (annL 19).locs.map fun _ => none, h } = some (.ret, ⟨[.rs id 0 200000 1, .nils, .int .i64 2, .any, .any, .any, .any, .any, .any, .any, .any, .any, .bool false, .bool true, .any, .any, .any, .any], [none], h⟩) := by
    rw [g19_eq, hz, seq_norm e0]
    exact seq_ex ((seq_norm e3).trans e4) (by intro h; cases h)
  exact body_ret Tryd.func19 (by kernel_rfl) (by show 1 ≤ Tryd.f19.ntmps; decide) hall (by kernel_rfl)
end
end Go.Proofs.YtmekcfdllhphlaaDoor
