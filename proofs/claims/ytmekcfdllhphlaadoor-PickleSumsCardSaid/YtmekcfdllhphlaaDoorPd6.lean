/- Proved: PickleSums returns true for every input, over the card of its one listed variable; no condition. -/
import Derived.Test.YtmekcfdllhphlaaDoorPd5
import Derived.Test.YtmekcfdllhphlaaDoorPd1
import Derived.Test.YtmekcfdllhphlaaDoorRows
import Derived.Test.YtmekcfdllhphlaaDoorCards
import Derived.Test.YtmekcfdllhphlaaDoorTie
import Derived.ChangeSame
import Derived.ChangeVars
import Derived.JoinedOf
import Derived.LaidLaws
import Derived.LaidHandle
import Derived.Lay
import Derived.Stop.Joined
import Derived.SevenTiedAt
set_option linter.unusedVariables false
set_option linter.unusedSimpArgs false
namespace Go.Proofs.YtmekcfdllhphlaaDoor
open Go Go.R Go.Proofs Go.RowKit Go.ChangeShapes Go.WideShapes
set_option maxRecDepth 100000

noncomputable def cf99 : CallF := callA Tryd.prog toldC 10000 99
theorem calls6 : Calls6 cf99 where
  h21 h x l H hl := by
    have : cf99 21 [x] h = bodyA Tryd.prog annL (callA Tryd.prog toldC 10000 98) 10000 21 [x] h := rfl
    rw [this]
    exact sum21 H (by omega) (by omega) (by omega)
  h23 h x l H hl := by
    have : cf99 23 [x] h = bodyA Tryd.prog annL (callA Tryd.prog toldC 10000 98) 10000 23 [x] h := rfl
    rw [this]
    exact sum23 H (by omega) (by omega) (by omega)
  h13 h := awake0' h
  h22 h n := by
    have : cf99 22 [.fz [.int .i64 n] 1 true, .fz [.int .i64 n] 1 true] h = bodyA Tryd.prog annL (callA Tryd.prog toldC 10000 98) 10000 22 [.fz [.int .i64 n] 1 true, .fz [.int .i64 n] 1 true] h := rfl
    rw [this]
    exact ints22 n (by omega)

theorem sums_run (x : AV) (at_ : Int) (b : BitVec 8) (l : List (BitVec 8)) (hx : (x = .nils ∧ l = []) ∨ x = .fz (l.map B8) l.length false) :
    ∃ h', callA Tryd.prog toldC 10000 100 6 [x, .int .i64 at_, B8 b] heap0 = some (.bool true, h') := by
  have e : callA Tryd.prog toldC 10000 100 6 [x, .int .i64 at_, B8 b] heap0 = bodyA Tryd.prog annL cf99 10000 6 [x, .int .i64 at_, B8 b] heap0 := rfl
  rw [e]
  have Hx : ∀ h, Holds h x l := fun h => by
    rcases hx with ⟨rfl, rfl⟩ | rfl
    · exact holds_nil
    · exact holds_fz
  have hok : x.argOK = true := by rcases hx with ⟨rfl, _⟩ | rfl <;> rfl
  have fin : (∃ s', execA Tryd.prog cf99 (annL 6) 10000 (codeOf Tryd.f6) { vars := argsVars (annL 6).keep [x, .int .i64 at_, B8 b], bxs := (annL 6).locs.map fun _ => none, h := heap0 } = some (.ret, s') ∧ resultA Tryd.prog (s'.open (annL 6)) Tryd.f6.results.toList = some (.bool true)) →
      ∃ h', bodyA Tryd.prog annL cf99 10000 6 [x, .int .i64 at_, B8 b] heap0 = some (.bool true, h') := by
    rintro ⟨s', h1, h2⟩
    exact ⟨_, body_ret Tryd.func6 (by kernel_rfl) (by show 3 ≤ Tryd.f6.ntmps; decide) h1 h2⟩
  apply fin
  by_cases hl : l.length ≤ 2000
  rotate_left
  · exact long6 calls6 (Hx heap0) hok hl
  have h4 : (four (Crc.sum l)).length = 4 := rfl
  by_cases hl0 : l = []
  · have hc : x = .nils ∨ x = .fz [] 0 false := by
      subst hl0
      rcases hx with ⟨rfl, _⟩ | rfl
      · exact .inl rfl
      · exact .inr rfl
    have ha := copy_nil (h := heap0) hc
    have hb := copy_some (h := heap0) (l := four (Crc.sum l)) (ex := true) (by simp [four]) (by rw [h4]; omega) [] 0 rfl (by omega) (.inl rfl)
    have H2 : Holds (heap0.alloc (.cells ([] ++ (four (Crc.sum l)).map B8))) (.rs heap0.next 0 (0 + (four (Crc.sum l)).length) 1) (l ++ four (Crc.sum l)) := by
      subst hl0
      exact holds_rs (by simp [AHeap.alloc, AHeap.put, beq_nat]) (by simp [h4])
    rw [show (B8 b) = .int .u8 (b.toNat : Int) from rfl]
    rw [mid6 calls6 (Hx heap0) hl hok (fun _ => rfl) rfl ha hb H2]
    exact none6 calls6 (Hx heap0) (Hx _) hl0 (fun _ => rfl) (.int .u8 (b.toNat : Int)) (fun _ => rfl) _
  · have hxf : x = .fz (l.map B8) l.length false := by
      rcases hx with ⟨_, h⟩ | h
      · exact absurd h hl0
      · exact h
    have ha : appendA Tryd.prog heap0 25 25 (.fz [] 0 true) x = some (.rs heap0.next 0 (0 + l.length) 1, heap0.alloc (.cells ([] ++ l.map B8))) := by
      rw [hxf]; exact copy_some hl0 (by omega) [] 0 rfl (by omega) (.inl rfl)
    have hg1 : (heap0.alloc (.cells ([] ++ l.map B8))).get heap0.next = some (.cells (l.map B8)) := by simp [AHeap.alloc, AHeap.put, beq_nat]
    have hb := more (h := heap0.alloc (.cells ([] ++ l.map B8))) (id := heap0.next) (n := 0 + l.length) (l := l) (m := four (Crc.sum l)) (ex := true) hg1 (by omega) (by simp [four]) (by rw [h4]; omega)
    have H2 := holds_rs (h := ((heap0.alloc (.cells ([] ++ l.map B8))).kill heap0.next).put (heap0.alloc (.cells ([] ++ l.map B8))).next (.cells ((l ++ four (Crc.sum l)).map B8))) (id := (heap0.alloc (.cells ([] ++ l.map B8))).next) (n := 0 + l.length + (four (Crc.sum l)).length) (l := l ++ four (Crc.sum l))
      (by simp [AHeap.put, beq_nat]) (by simp)
    rw [show (B8 b) = .int .u8 (b.toNat : Int) from rfl]
    rw [mid6 calls6 (Hx heap0) hl hok (fun _ => rfl) rfl ha hb H2]
    generalize hh2 : ((heap0.alloc (.cells ([] ++ l.map B8))).kill heap0.next).put (heap0.alloc (.cells ([] ++ l.map B8))).next (.cells ((l ++ four (Crc.sum l)).map B8)) = h2
    have ha2 : appendA Tryd.prog h2 25 25 (.fz [] 0 true) x = some (.rs h2.next 0 l.length 1, h2.alloc (.cells (l.map B8))) := by
      rw [hxf]
      have := copy_some (h := h2) (l := l) (ex := false) hl0 (by omega) [] 0 rfl (by omega) (.inl rfl)
      simpa using this
    exact last6 calls6 Hx hok hl0 hl (fun _ => rfl) ha2 (by simp [AHeap.alloc, AHeap.put, beq_nat])

theorem fit_i64 {n : Nat} {xs : List AV} (h : Fits Tryd.prog (n + 1) 3 xs) : ∃ z : Int, xs = [.int .i64 z] := by
  unfold Fits at h
  rw [Tryd.underlying3] at h
  obtain ⟨z, hz, _⟩ := h
  exact ⟨z, hz⟩
theorem fit_u8 {n : Nat} {xs : List AV} (h : Fits Tryd.prog (n + 1) 5 xs) : ∃ b : BitVec 8, xs = [B8 b] := by
  unfold Fits at h
  rw [Tryd.underlying5] at h
  obtain ⟨z, rfl, h1, h2⟩ := h
  have g1 : (0 : Int) ≤ z := h1
  have g2 : z ≤ 255 := h2
  refine ⟨BitVec.ofNat 8 z.toNat, ?_⟩
  unfold B8
  rw [BitVec.toNat_ofNat]
  congr 2
  omega
theorem flat_u8 : ∀ els : List (List AV), (∀ el ∈ els, ∃ b : BitVec 8, el = [B8 b]) → ∃ l : List (BitVec 8), els.flatten = l.map B8 ∧ l.length = els.length
  | [], _ => ⟨[], rfl, rfl⟩
  | el :: els, h => by
    obtain ⟨b, rfl⟩ := h el (by simp)
    obtain ⟨l, h1, h2⟩ := flat_u8 els fun e he => h e (by simp [he])
    exact ⟨b :: l, by simp [h1], by simp [h2]⟩
theorem fit_bytes {n : Nat} {xs : List AV} (h : Fits Tryd.prog (n + 2) 25 xs) : ∃ (x : AV) (l : List (BitVec 8)), xs = [x] ∧ ((x = .nils ∧ l = []) ∨ x = .fz (l.map B8) l.length false) := by
  unfold Fits at h
  rw [Tryd.underlying25] at h
  rcases h with rfl | ⟨els, rfl, _, h⟩
  · exact ⟨_, [], rfl, .inl ⟨rfl, rfl⟩⟩
  · obtain ⟨l, h1, h2⟩ := flat_u8 els fun el he => fit_u8 (h el he).2
    exact ⟨_, l, rfl, .inr (by rw [h1, h2])⟩

theorem argsFit_three {P : Program} {m : Nat} {t u v : TypeId} {avs : List AV} (h : ArgsFit P m [t, u, v] avs) : ∃ xs ys zs, avs = [argAV P t xs, argAV P u ys, argAV P v zs] ∧ Fits P m t xs ∧ Fits P m u ys ∧ Fits P m v zs := by
  cases avs with
  | nil => exact h.elim
  | cons x avs =>
    obtain ⟨⟨xs, hx, hf⟩, h⟩ := h
    cases avs with
    | nil => exact h.elim
    | cons y avs =>
      obtain ⟨⟨ys, hy, hg⟩, h⟩ := h
      cases avs with
      | nil => exact h.elim
      | cons z avs =>
        obtain ⟨⟨zs, hz, hk⟩, h⟩ := h
        cases avs with
        | nil => exact ⟨xs, ys, zs, by rw [hx, hy, hz], hf, hg, hk⟩
        | cons _ _ => exact h.elim

theorem all_true (avs : List AV) (h : ArgsFit Tryd.prog 6 Tryd.f6.params.toList avs) : ∃ cf h', CallOK Tryd.prog cf ∧ cf 6 avs heap0 = some (.bool true, h') := by
  rw [show Tryd.f6.params.toList = [25, 3, 5] from by rw [Tryd.params6]] at h
  obtain ⟨xs, ys, zs, rfl, hx, hy, hz⟩ := argsFit_three h
  obtain ⟨x, l, rfl, hx'⟩ := fit_bytes hx
  obtain ⟨a, rfl⟩ := fit_i64 hy
  obtain ⟨b, rfl⟩ := fit_u8 hz
  obtain ⟨h', hh⟩ := sums_run x a b l hx'
  refine ⟨_, h', callA_ok fits (T := toldC) intrC_ok 10000 100, ?_⟩
  have e1 : argAV Tryd.prog 25 [x] = x := by unfold argAV; rw [Tryd.underlying25]; rfl
  have e2 : argAV Tryd.prog 3 [.int .i64 a] = .int .i64 a := by unfold argAV; rw [Tryd.underlying3]; rfl
  have e3 : argAV Tryd.prog 5 [B8 b] = B8 b := by unfold argAV; rw [Tryd.underlying5]; rfl
  rw [e1, e2, e3]
  exact hh

/-- What the row lists. -/
noncomputable def laidL : List (String × DataW Unit) := [("bytes.ErrTooLarge", Rows.laid_bytes_ErrTooLarge)]
theorem own : ownKnob Tryd.prog.godebug = none := by kernel_rfl
noncomputable def laidWorld (os : Os) : World := World.laidAll Tryd.prog os laidL
theorem laidWorld_met (os : Os) (args : Array Value) : laidMetH Tryd.prog laidL ((laidWorld os).forCall (fun _ _ => 0) ⟨#[], args, []⟩).memory := by
  refine laidMetH_of_parts ?_ (by kernel_rfl)
  rw [show (laidL.filter fun x => x.2.handleName?.isNone) = laidL from by kernel_rfl]
  exact laidMet_laidAll args (by kernel_rfl) (by kernel_rfl)

theorem pickleSums_lifted (os : Os) (started : os.Started) (H : Type) (enc : TypeId × Value → H) :
    ReturnsInHanded {} Tryd.checked os 6 .any (fun w args => (Rows.pickleSumsSpec.pre enc Tryd.prog Tryd.f6 [] false w args ∧ laidMetH Tryd.prog laidL w) ∧ sizedMet enc Tryd.prog Tryd.f6 (OpenSpec.ofChange Rows.pickleSumsSpec) false w args)
      (Rows.pickleSumsSpec.post enc Tryd.prog Tryd.f6 false true false false) := by
  refine returnsInHanded_of_change_and (C := Tryd.checked) (X := fun w _ => laidMetH Tryd.prog laidL w) (fun _ _ _ hh h => h.of_heap hh) own started (by kernel_rfl) Tryd.func6
    (ChangeSpec.witness_at (enc := enc) (C := Tryd.checked) (os := os) (X := fun w _ => laidMetH Tryd.prog laidL w) false (laidWorld os) #[.slice none 0 0, .int .i64 0, .int .u8 0] 8 (World.laidAll_os _ _ _) (by kernel_rfl) (by kernel_rfl) (by kernel_rfl) (by kernel_rfl) (by kernel_rfl) (laidWorld_met os _)) ?_
  intro W base args ds gs before hval hW _ _ hL _
  exact contract_true (cf := fun _ _ _ => none) (P := Tryd.prog) (m := 6) (tb := 4) (by kernel_rfl)
    (by rw [show Tryd.f6.params.toList = [25, 3, 5] from by rw [Tryd.params6]]; intro t ht; simp at ht; rcases ht with rfl | rfl | rfl <;> exact ⟨by kernel_rfl, of_decide_eq_true (by kernel_rfl)⟩)
    (by rw [show Tryd.f6.params.toList = [25, 3, 5] from by rw [Tryd.params6]]; intro t ht; simp at ht; rcases ht with rfl | rfl | rfl <;> kernel_rfl) rfl rfl Tryd.underlying4
    (fun ds hds => by
      have : ds.length = 3 := by rw [hds]; rfl
      match ds, this with
      | [d, e, f], _ => rfl) all_true hval hW

/-- The row. -/
theorem pickleSums_row : Rows.PickleSumsSaid :=
  OpenClaim.holds_of_wide 6 Tryd.f6 rfl rfl rfl rfl rfl rfl rfl ⟨rfl, rfl, rfl, rfl, rfl⟩ rfl rfl rfl rfl rfl (by kernel_rfl) Tryd.func6 (by kernel_rfl)
    (of_decide_eq_true (by kernel_rfl)) (by unfold Func.isWrapper; first | (rw [if_pos (by decide +kernel)]; kernel_rfl) | (rw [if_neg (by decide +kernel)]; exact ⟨rfl, rfl⟩))
    (fun os started H enc _ => pickleSums_lifted os started H enc)

/-- PickleSums: the tied card. -/
theorem pickleSums_holds : Rows.PickleSumsCardSaid :=
  Claim7.holds_tied_plain_at .later [] [.sentinel] true (true, "5c7c24f3f163267658839de8cc9f4545a02ccfedb2900f3b8e61d73ca287aaae") false
    pickleSums_row (fun _ h => by cases h) (by kernel_rfl) (fun _ h => by cases h) pickleSums_row_tie rfl ⟨rfl, rfl⟩ (by kernel_rfl) rfl
    (fun f fn hf hfn => by
      obtain rfl : f = 6 := Option.some.inj ((show Tryd.prog.funcNamed "leatwork/leatworklaw20.PickleSums" = some 6 by kernel_rfl).symm.trans hf) |>.symm
      obtain rfl : fn = Tryd.f6 := (Option.some.inj (Tryd.func6.symm.trans hfn)).symm
      exact ⟨by kernel_rfl, fun j t ht => by
        rw [Tryd.params6] at ht
        have h3 : t = 25 ∨ t = 3 ∨ t = 5 := by
          rcases j with _ | _ | _ | j
          · exact .inl (by simpa using ht.symm)
          · exact .inr (.inl (by simpa using ht.symm))
          · exact .inr (.inr (by simpa using ht.symm))
          · simp at ht
        rcases h3 with rfl | rfl | rfl
        · exact (show Tryd.prog.wantsStandIn 25 = false by kernel_rfl)
        · exact (show Tryd.prog.wantsStandIn 3 = false by kernel_rfl)
        · exact (show Tryd.prog.wantsStandIn 5 = false by kernel_rfl)⟩)
    (by kernel_rfl)
end Go.Proofs.YtmekcfdllhphlaaDoor
