/- Proved: StoreNone returns true for every input; no condition. -/
import Derived.Test.YtifafejidnjckaaGreatSn3
set_option linter.unusedVariables false
set_option linter.unusedSimpArgs false
namespace Go.Proofs.YtifafejidnjckaaGreat
open Go Go.R
set_option maxRecDepth 100000
def isRet (o : Option (Ex × St)) : Bool := match o with | some (.ret, _) => true | _ => false
theorem isRet_spec {o : Option (Ex × St)} (h : isRet o = true) : ∀ st e, o = some (e, st) → e = .ret := by
  rintro st e rfl
  cases e <;> first | rfl | (simp [isRet] at h)
section
variable (k a b r : Int) (l : ByteArray) (csA csT : List AV) (nA nT m : Nat) (f : Nat → Int)
theorem e6ff : isRet (ex (thn c2) (s2 (X k a b r l (.fz csA nA false) (.fz csT nT false)))) = true := by kernel_rfl
theorem rff (hm : nA ≤ 40) : fin (ex rest (s2 (X k a b r l (.fz ((List.range nA).map fun i => .int .i64 (f i)) nA false) (.fz csT nT false)))) = some (.bool true) :=
  match k with
  | .ofNat 0 => e4ff0 a b r l ((List.range nA).map fun i => .int .i64 (f i)) csT nA nT 
  | .ofNat 1 => e4ff1 a b r l ((List.range nA).map fun i => .int .i64 (f i)) csT nA nT 
  | .ofNat 2 => e4ff2 a b r l ((List.range nA).map fun i => .int .i64 (f i)) csT nA nT 
  | .ofNat 3 => e5ff a b r l csT nT f nA hm
  | .ofNat 4 => e4ff4 a b r l ((List.range nA).map fun i => .int .i64 (f i)) csT nA nT 
  | .ofNat 5 => e4ff5 a b r l ((List.range nA).map fun i => .int .i64 (f i)) csT nA nT 
  | .ofNat 6 => e4ff6 a b r l ((List.range nA).map fun i => .int .i64 (f i)) csT nA nT 
  | .ofNat 7 => e4ff7 a b r l ((List.range nA).map fun i => .int .i64 (f i)) csT nA nT 
  | .ofNat (m + 8) => e4ff8 a b r l ((List.range nA).map fun i => .int .i64 (f i)) csT nA nT m
  | .negSucc m => e4ff9 a b r l ((List.range nA).map fun i => .int .i64 (f i)) csT nA nT m
theorem allff : fin (ex (.seq r0 (.seq (.seq r1 c2) rest)) (s0 (X k a b r l (.fz ((List.range nA).map fun i => .int .i64 (f i)) nA false) (.fz csT nT false)))) = some (.bool true) :=
  parts (g := G nA nT) (e0ff k a b r l ((List.range nA).map fun i => .int .i64 (f i)) csT nA nT ) (e1ff k a b r l ((List.range nA).map fun i => .int .i64 (f i)) csT nA nT ) (e2ff k a b r l ((List.range nA).map fun i => .int .i64 (f i)) csT nA nT ) (e3ff k a b r l ((List.range nA).map fun i => .int .i64 (f i)) csT nA nT ) (isRet_spec (e6ff k a b r l ((List.range nA).map fun i => .int .i64 (f i)) csT nA nT )) (fun hg => rff k a b r l csT nA nT f (by simp only [G, Bool.or_eq_false_iff, decide_eq_false_iff_not] at hg; omega))
theorem e6fn : isRet (ex (thn c2) (s2 (X k a b r l (.fz csA nA false) .nils))) = true := by kernel_rfl
theorem rfn (hm : nA ≤ 40) : fin (ex rest (s2 (X k a b r l (.fz ((List.range nA).map fun i => .int .i64 (f i)) nA false) .nils))) = some (.bool true) :=
  match k with
  | .ofNat 0 => e4fn0 a b r l ((List.range nA).map fun i => .int .i64 (f i)) nA 
  | .ofNat 1 => e4fn1 a b r l ((List.range nA).map fun i => .int .i64 (f i)) nA 
  | .ofNat 2 => e4fn2 a b r l ((List.range nA).map fun i => .int .i64 (f i)) nA 
  | .ofNat 3 => e5fn a b r l f nA hm
  | .ofNat 4 => e4fn4 a b r l ((List.range nA).map fun i => .int .i64 (f i)) nA 
  | .ofNat 5 => e4fn5 a b r l ((List.range nA).map fun i => .int .i64 (f i)) nA 
  | .ofNat 6 => e4fn6 a b r l ((List.range nA).map fun i => .int .i64 (f i)) nA 
  | .ofNat 7 => e4fn7 a b r l ((List.range nA).map fun i => .int .i64 (f i)) nA 
  | .ofNat (m + 8) => e4fn8 a b r l ((List.range nA).map fun i => .int .i64 (f i)) nA m
  | .negSucc m => e4fn9 a b r l ((List.range nA).map fun i => .int .i64 (f i)) nA m
theorem allfn : fin (ex (.seq r0 (.seq (.seq r1 c2) rest)) (s0 (X k a b r l (.fz ((List.range nA).map fun i => .int .i64 (f i)) nA false) .nils))) = some (.bool true) :=
  parts (g := G nA 0) (e0fn k a b r l ((List.range nA).map fun i => .int .i64 (f i)) nA ) (e1fn k a b r l ((List.range nA).map fun i => .int .i64 (f i)) nA ) (e2fn k a b r l ((List.range nA).map fun i => .int .i64 (f i)) nA ) (e3fn k a b r l ((List.range nA).map fun i => .int .i64 (f i)) nA ) (isRet_spec (e6fn k a b r l ((List.range nA).map fun i => .int .i64 (f i)) nA )) (fun hg => rfn k a b r l nA f (by simp only [G, Bool.or_eq_false_iff, decide_eq_false_iff_not] at hg; omega))
theorem e6nf : isRet (ex (thn c2) (s2 (X k a b r l .nils (.fz csT nT false)))) = true := by kernel_rfl
theorem rnf : fin (ex rest (s2 (X k a b r l .nils (.fz csT nT false)))) = some (.bool true) :=
  match k with
  | .ofNat 0 => e4nf0 a b r l csT nT 
  | .ofNat 1 => e4nf1 a b r l csT nT 
  | .ofNat 2 => e4nf2 a b r l csT nT 
  | .ofNat 3 => e4nf3 a b r l csT nT 
  | .ofNat 4 => e4nf4 a b r l csT nT 
  | .ofNat 5 => e4nf5 a b r l csT nT 
  | .ofNat 6 => e4nf6 a b r l csT nT 
  | .ofNat 7 => e4nf7 a b r l csT nT 
  | .ofNat (m + 8) => e4nf8 a b r l csT nT m
  | .negSucc m => e4nf9 a b r l csT nT m
theorem allnf : fin (ex (.seq r0 (.seq (.seq r1 c2) rest)) (s0 (X k a b r l .nils (.fz csT nT false)))) = some (.bool true) :=
  parts (g := G 0 nT) (e0nf k a b r l csT nT ) (e1nf k a b r l csT nT ) (e2nf k a b r l csT nT ) (e3nf k a b r l csT nT ) (isRet_spec (e6nf k a b r l csT nT )) (fun _ => rnf k a b r l csT nT )
theorem e6nn : isRet (ex (thn c2) (s2 (X k a b r l .nils .nils))) = true := by kernel_rfl
theorem rnn : fin (ex rest (s2 (X k a b r l .nils .nils))) = some (.bool true) :=
  match k with
  | .ofNat 0 => e4nn0 a b r l 
  | .ofNat 1 => e4nn1 a b r l 
  | .ofNat 2 => e4nn2 a b r l 
  | .ofNat 3 => e4nn3 a b r l 
  | .ofNat 4 => e4nn4 a b r l 
  | .ofNat 5 => e4nn5 a b r l 
  | .ofNat 6 => e4nn6 a b r l 
  | .ofNat 7 => e4nn7 a b r l 
  | .ofNat (m + 8) => e4nn8 a b r l m
  | .negSucc m => e4nn9 a b r l m
theorem allnn : fin (ex (.seq r0 (.seq (.seq r1 c2) rest)) (s0 (X k a b r l .nils .nils))) = some (.bool true) :=
  parts (g := G 0 0) (e0nn k a b r l ) (e1nn k a b r l ) (e2nn k a b r l ) (e3nn k a b r l ) (isRet_spec (e6nn k a b r l )) (fun _ => rnn k a b r l )
end
theorem one_true (x : AV) (xs : List AV) (hx : x = argAV Tryz.prog 27 xs) (hf : Fits Tryz.prog 6 27 xs) : ∃ cf h', CallOK Tryz.prog cf ∧ cf 6 [x] heap0 = some (.bool true, h') := by
  have hx' : x = .agg xs := by rw [hx]; unfold argAV; rw [Tryz.underlying27]
  subst hx'
  obtain ⟨k, a, b, r, l, A, T, rfl, hA, hT⟩ := fit_act hf
  have key : fin (ex (.seq r0 (.seq (.seq r1 c2) rest)) (s0 (X k a b r l A T))) = some (.bool true) := by
    rcases hA with rfl | ⟨m, f, rfl⟩ <;> rcases hT with rfl | ⟨cs, mT, rfl⟩
    · exact allnn k a b r l
    · exact allnf k a b r l cs mT
    · exact allfn k a b r l m f
    · exact allff k a b r l cs m mT f
  obtain ⟨h', hh⟩ := call_of_fin key
  exact ⟨_, h', callA_ok fits intr2_ok 10000 100, hh⟩
theorem argsFit_one {P : Program} {m : Nat} {t : TypeId} {avs : List AV} (h : ArgsFit P m [t] avs) : ∃ x xs, avs = [x] ∧ x = argAV P t xs ∧ Fits P m t xs := by
  cases avs with
  | nil => exact h.elim
  | cons x avs =>
    obtain ⟨⟨xs, hx, hf⟩, h2⟩ := h
    cases avs with
    | nil => exact ⟨x, xs, rfl, hx, hf⟩
    | cons y avs => exact h2.elim
theorem all_true (avs : List AV) (h : ArgsFit Tryz.prog 6 Tryz.f6.params.toList avs) : ∃ cf h', CallOK Tryz.prog cf ∧ cf 6 avs heap0 = some (.bool true, h') := by
  rw [show Tryz.f6.params.toList = [27] from by rw [Tryz.params6]] at h
  obtain ⟨x, xs, rfl, hx, hf⟩ := argsFit_one h
  exact one_true x xs hx hf

theorem storeNone_lifted (os : Os) (started : os.Started) (H : Type) (enc : TypeId × Value → H) :
    ReturnsInHanded {} Tryz.checked os 6 .any (Rows.storeNoneSpec.pre6 enc Tryz.prog Tryz.f6 Rows.storeNoneRow.domain false) (Rows.storeNoneSpec.post enc Tryz.prog Tryz.f6 false true false false) := by
  refine returnsInHanded_of_change (C := Tryz.checked) (by kernel_rfl) started (by kernel_rfl) Tryz.func6
    (ChangeSpec.witness6 (enc := enc) (C := Tryz.checked) false ⟨#[], #[.agg #[.int .i64 0, .int .i64 0, .int .i64 0, .string ByteArray.empty, .slice none 0 0, .slice none 0 0, .int .i64 0]], []⟩ 8 (by kernel_rfl) (by kernel_rfl) (by kernel_rfl) (by kernel_rfl)) ?_
  intro W base args ds gs before hval hW hcnd _
  exact contract_true (cf := fun _ _ _ => none) (P := Tryz.prog) (m := 6) (tb := 4) (by kernel_rfl) (by rw [show Tryz.f6.params.toList = [27] from by rw [Tryz.params6]]; intro t ht; simp at ht; subst ht; exact ⟨by kernel_rfl, of_decide_eq_true (by kernel_rfl)⟩)
    (by rw [show Tryz.f6.params.toList = [27] from by rw [Tryz.params6]]; intro t ht; simp at ht; subst ht; kernel_rfl) rfl rfl Tryz.underlying4
    (fun ds hds => by
      have : ds.length = 1 := by rw [hds]; rfl
      match ds, this with
      | [d], _ => rfl) all_true hval hW

/-- StoreNone -/
theorem storeNone_holds : Rows.StoreNoneSaid :=
  OpenClaim.holds_of_wide 6 Tryz.f6 rfl rfl rfl rfl rfl rfl rfl ⟨rfl, rfl, rfl, rfl, rfl⟩ rfl rfl rfl rfl rfl (by kernel_rfl) Tryz.func6 (by kernel_rfl)
    (of_decide_eq_true (by kernel_rfl)) (by unfold Func.isWrapper; first | (rw [if_pos (by decide +kernel)]; kernel_rfl) | (rw [if_neg (by decide +kernel)]; exact ⟨rfl, rfl⟩))
    (fun os started H enc _ => storeNone_lifted os started H enc)
end Go.Proofs.YtifafejidnjckaaGreat
