/- Proved: PickleRead returns true for every input, over the card of its one listed variable; no condition. -/
import Derived.Test.YtmekcfdllhphlaaDoorK14
import Derived.Test.YtmekcfdllhphlaaDoorRows
import Derived.Test.YtmekcfdllhphlaaDoorCards
import Derived.Test.YtmekcfdllhphlaaDoorTie
import Derived.ChangeSame
import Derived.ChangeVars
import Derived.JoinedOf
import Derived.LaidLaws
import Derived.LaidHandle
import Derived.Lay
import Derived.Stop.Joined
import Derived.SevenTiedAt
set_option linter.unusedVariables false
set_option linter.unusedSimpArgs false
set_option maxRecDepth 100000
namespace Go.Proofs.YtmekcfdllhphlaaDoor
open Go Go.R Go.Proofs Go.RowKit Go.ChangeShapes Go.WideShapes
theorem fit_u8 {n : Nat} {xs : List AV} (h : Fits Tryd.prog (n + 1) 5 xs) : ∃ z : Int, xs = [.int .u8 z] ∧ 0 ≤ z ∧ z < 256 := by
  unfold Fits at h
  rw [Tryd.underlying5] at h
  obtain ⟨z, rfl, h1, h2⟩ := h
  have g1 : (0 : Int) ≤ z := h1
  have g2 : z ≤ 255 := h2
  exact ⟨z, rfl, g1, by omega⟩
theorem flat_u8 : ∀ els : List (List AV), (∀ el ∈ els, ∃ z : Int, el = [.int .u8 z] ∧ 0 ≤ z ∧ z < 256) → ∃ l : List Int, els.flatten = eByte.l l ∧ l.length = els.length ∧ Bytes l
  | [], _ => ⟨[], rfl, rfl, fun x hx => by cases hx⟩
  | el :: els, h => by
    obtain ⟨z, rfl, z0, z1⟩ := h el (by simp)
    obtain ⟨l, h1, h2, h3⟩ := flat_u8 els fun e he => h e (by simp [he])
    refine ⟨z :: l, ?_, by simp [h2], fun x hx => ?_⟩
    · rw [List.flatten_cons, h1, Enc.l_cons]; rfl
    · rcases List.mem_cons.1 hx with rfl | hx
      · exact ⟨z0, z1⟩
      · exact h3 x hx
theorem fit_bytes {n : Nat} {xs : List AV} (h : Fits Tryd.prog (n + 2) 25 xs) : ∃ (x : AV) (l : List Int), xs = [x] ∧ Bytes l ∧ ((x = .nils ∧ l = []) ∨ x = eByte.fz l) := by
  unfold Fits at h
  rw [Tryd.underlying25] at h
  rcases h with rfl | ⟨els, rfl, _, h⟩
  · exact ⟨_, [], rfl, (fun x hx => by cases hx), Or.inl ⟨rfl, rfl⟩⟩
  · obtain ⟨l, h1, h2, h3⟩ := flat_u8 els fun el he => fit_u8 (h el he).2
    exact ⟨_, l, rfl, h3, .inr (by rw [h1, ← h2]; rfl)⟩
theorem argsFit_one {P : Program} {m : Nat} {t : TypeId} {avs : List AV} (h : ArgsFit P m [t] avs) : ∃ xs, avs = [argAV P t xs] ∧ Fits P m t xs := by
  cases avs with
  | nil => exact h.elim
  | cons x avs =>
    obtain ⟨⟨xs, hx, hf⟩, h⟩ := h
    cases avs with
    | nil => exact ⟨xs, by rw [hx], hf⟩
    | cons _ _ => exact h.elim
theorem arg_bytes {h : AHeap} {x : AV} {l : List Int} (hx : (x = .nils ∧ l = []) ∨ x = eByte.fz l) : FrzS 1000 h [x] [eByte.fz l] := by
  rcases hx with ⟨rfl, rfl⟩ | rfl
  · exact frs (fr_cons (fr_nils (E := eByte)) fr_nil)
  · exact frs (fr_cons (fr_fz (E := eByte)) fr_nil)
theorem all_true (avs : List AV) (h : ArgsFit Tryd.prog 6 Tryd.f4.params.toList avs) : ∃ cf h', CallOK Tryd.prog cf ∧ cf 4 avs heap0 = some (.bool true, h') := by
  rw [show Tryd.f4.params.toList = [25] from by rw [Tryd.params4]] at h
  obtain ⟨xs, rfl, hx⟩ := argsFit_one h
  obtain ⟨x, l, rfl, hb, hx'⟩ := fit_bytes hx
  refine ⟨cfQ, heap0, cfQ_ok, ?_⟩
  have e1 : argAV Tryd.prog 25 [x] = x := by unfold argAV; rw [Tryd.underlying25]; rfl
  rw [e1]
  exact j4 l true (read_true (by decide) hb) heap0 [x] (arg_bytes hx')
noncomputable def laidL : List (String × DataW Unit) := [("bytes.ErrTooLarge", Rows.laid_bytes_ErrTooLarge)]
theorem own : ownKnob Tryd.prog.godebug = none := by kernel_rfl
noncomputable def laidWorld (os : Os) : World := World.laidAll Tryd.prog os laidL
theorem laidWorld_met (os : Os) (args : Array Value) : laidMetH Tryd.prog laidL ((laidWorld os).forCall (fun _ _ => 0) ⟨#[], args, []⟩).memory := by
  refine laidMetH_of_parts ?_ (by kernel_rfl)
  rw [show (laidL.filter fun x => x.2.handleName?.isNone) = laidL from by kernel_rfl]
  exact laidMet_laidAll args (by kernel_rfl) (by kernel_rfl)
theorem pickleRead_lifted (os : Os) (started : os.Started) (H : Type) (enc : TypeId × Value → H) :
    ReturnsInHanded {} Tryd.checked os 4 .any (fun w args => (Rows.pickleReadSpec.pre enc Tryd.prog Tryd.f4 [] false w args ∧ laidMetH Tryd.prog laidL w) ∧ sizedMet enc Tryd.prog Tryd.f4 (OpenSpec.ofChange Rows.pickleReadSpec) false w args)
      (Rows.pickleReadSpec.post enc Tryd.prog Tryd.f4 false true false false) := by
  refine returnsInHanded_of_change_and (C := Tryd.checked) (X := fun w _ => laidMetH Tryd.prog laidL w) (fun _ _ _ hh h => h.of_heap hh) own started (by kernel_rfl) Tryd.func4
    (ChangeSpec.witness_at (enc := enc) (C := Tryd.checked) (os := os) (X := fun w _ => laidMetH Tryd.prog laidL w) false (laidWorld os) #[.slice none 0 0] 8 (World.laidAll_os _ _ _) (by kernel_rfl) (by kernel_rfl) (by kernel_rfl) (by kernel_rfl) (by kernel_rfl) (laidWorld_met os _)) ?_
  intro W base args ds gs before hval hW _ _ hL _
  exact contract_true (cf := fun _ _ _ => none) (P := Tryd.prog) (m := 6) (tb := 4) (by kernel_rfl)
    (by rw [show Tryd.f4.params.toList = [25] from by rw [Tryd.params4]]; intro t ht; simp at ht; rcases ht with rfl; exact ⟨by kernel_rfl, of_decide_eq_true (by kernel_rfl)⟩)
    (by rw [show Tryd.f4.params.toList = [25] from by rw [Tryd.params4]]; intro t ht; simp at ht; rcases ht with rfl; kernel_rfl) rfl rfl Tryd.underlying4
    (fun ds hds => by
      have : ds.length = 1 := by rw [hds]; rfl
      match ds, this with
      | [d], _ => rfl) all_true hval hW
theorem pickleRead_row : Rows.PickleReadSaid :=
  OpenClaim.holds_of_wide 4 Tryd.f4 rfl rfl rfl rfl rfl rfl rfl ⟨rfl, rfl, rfl, rfl, rfl⟩ rfl rfl rfl rfl rfl (by kernel_rfl) Tryd.func4 (by kernel_rfl)
    (of_decide_eq_true (by kernel_rfl)) (by unfold Func.isWrapper; first | (rw [if_pos (by decide +kernel)]; kernel_rfl) | (rw [if_neg (by decide +kernel)]; exact ⟨rfl, rfl⟩))
    (fun os started H enc _ => pickleRead_lifted os started H enc)
theorem pickleRead_holds : Rows.PickleReadCardSaid :=
  Claim7.holds_tied_plain_at .later [] [.sentinel] true (true, "5c7c24f3f163267658839de8cc9f4545a02ccfedb2900f3b8e61d73ca287aaae") false
    pickleRead_row (fun _ h => by cases h) (by kernel_rfl) (fun _ h => by cases h) pickleRead_row_tie rfl ⟨rfl, rfl⟩ (by kernel_rfl) rfl
    (fun f fn hf hfn => by
      obtain rfl : f = 4 := Option.some.inj ((show Tryd.prog.funcNamed "leatwork/leatworklaw20.PickleRead" = some 4 by kernel_rfl).symm.trans hf) |>.symm
      obtain rfl : fn = Tryd.f4 := (Option.some.inj (Tryd.func4.symm.trans hfn)).symm
      exact ⟨by kernel_rfl, fun j t ht => by
        rw [Tryd.params4] at ht
        have h3 : t = 25 := by
          rcases j with _ | j
          · simpa using ht.symm
          · simp at ht
        rcases h3 with rfl
        exact (show Tryd.prog.wantsStandIn 25 = false by kernel_rfl)⟩)
    (by kernel_rfl)
end Go.Proofs.YtmekcfdllhphlaaDoor

