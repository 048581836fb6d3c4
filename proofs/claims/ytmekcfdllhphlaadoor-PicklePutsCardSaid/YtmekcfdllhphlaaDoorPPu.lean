/- Proved: PicklePuts returns true for every input, over the card of its one listed variable; no condition. -/
import Derived.Test.YtmekcfdllhphlaaDoorK12
import Derived.Test.YtmekcfdllhphlaaDoorChecked
import Derived.Test.YtmekcfdllhphlaaDoorRows
import Derived.Test.YtmekcfdllhphlaaDoorCards
import Derived.Test.YtmekcfdllhphlaaDoorTie
import Derived.ChangeSame
import Derived.ChangeVars
import Derived.JoinedOf
import Derived.LaidLaws
import Derived.LaidHandle
import Derived.Lay
import Derived.Stop.Joined
import Derived.SevenTiedAt
set_option linter.unusedVariables false
set_option linter.unusedSimpArgs false
set_option maxRecDepth 100000
namespace Go.Proofs.YtmekcfdllhphlaaDoor
open Go Go.R
open Go.IntKind (i64 u64 u8 u32)
theorem least_both {m : Nat} (hm : 2 ^ 41 ≤ m) {t : VTree} (h0 : Ok0 t) : ∃ s e, tree_Least.f m t = some (s, e) ∧ ref01_Least.f m t = some (s, e) ∧ (e = 0 → LTree s) ∧ (e = 0 ↔ validB t = true) ∧ (e ≠ 0 → e = 2 ∧ s = ⟨[], 0⟩) := by
  have p30 : (2 : Nat) ^ 30 = 1073741824 := by decide
  have p41 : (2 : Nat) ^ 41 = 2199023255552 := by decide
  unfold tree_Least.f ref01_Least.f
  rw [valid_spec (by omega), rvalid_spec (by omega), Option.bind_some, Option.bind_some]
  cases h : validB t with
  | false => exact ⟨_, _, rfl, rfl, fun h => absurd h (by decide), by simp, fun _ => ⟨rfl, rfl⟩⟩
  | true =>
    obtain ⟨s, k1, k2⟩ := least_eq hm h
    obtain ⟨s', k3, L⟩ := least_tot hm h h0
    rw [k1] at k3
    cases k3
    rw [if_neg (by simp), if_neg (by simp), k1, k2]
    exact ⟨_, _, rfl, rfl, fun _ => L, by simp, fun h => absurd rfl h⟩
theorem put_l0_both {m : Nat} (hm : 2 ^ 41 ≤ m) {L : List VTree} (hL : L.length ≤ 8) (h0 : ∀ t ∈ L, Ok0 t) : ∀ (f i : Nat) (acc : List VTree), L.length - i < f → i ≤ L.length → acc.length ≤ i → (∀ s ∈ acc, LTree s) →
    ∃ o, pickle_Put.l0 m L f acc (i : Int) = some o ∧ ref20_Put.l0 m L f acc (i : Int) = some o ∧ (o = .inl ([], 2) ∨ ∃ ls x, o = .inr (ls, x) ∧ ls.length ≤ 8 ∧ ∀ s ∈ ls, LTree s)
  | 0, i, acc, hf, _, _, _ => absurd hf (by omega)
  | f + 1, i, acc, hf, hi, ha, hacc => by
    unfold pickle_Put.l0 ref20_Put.l0
    by_cases h : i < L.length
    · have hx : ix L (i : Int) = some L[i] := by unfold ix; rw [if_pos (by omega)]; simp [h]
      obtain ⟨s, e, k1, k2, k3, _, _⟩ := least_both hm (h0 _ (List.getElem_mem h))
      rw [if_pos (by simp only [decide_eq_true_eq]; omega), if_pos (by simp only [decide_eq_true_eq]; omega), hx, Option.bind_some, Option.bind_some, k1, k2, Option.bind_some, Option.bind_some]
      dsimp only
      by_cases he : e = 0
      · subst he
        have hap : app 32 acc [s] = some (acc ++ [s]) := by unfold app; rw [if_pos (by simp; omega)]
        rw [if_neg (by simp), if_neg (by simp), hap, Option.bind_some, Option.bind_some, i64_id (by omega) (by omega), show (i : Int) + 1 = ((i + 1 : Nat) : Int) by omega]
        refine put_l0_both hm hL h0 f (i + 1) _ (by omega) (by omega) (by simp; omega) fun x hx => ?_
        rcases List.mem_append.1 hx with hx | hx
        · exact hacc x hx
        · simp only [List.mem_singleton] at hx; subst hx; exact k3 rfl
      · rw [if_pos (by simpa using he), if_pos (by simpa using he)]
        exact ⟨_, rfl, rfl, .inl rfl⟩
    · refine ⟨.inr (acc, (i : Int)), ?_, ?_, .inr ⟨acc, _, rfl, by omega, hacc⟩⟩
      · rw [if_neg (by simp only [decide_eq_true_eq]; omega)]
      · rw [if_neg (by simp only [decide_eq_true_eq]; omega)]
theorem named_l0 {m : Nat} {t : VTree} (hl : t.nodes.length ≤ 8000) : ∀ (f i : Nat), t.nodes.length - i < f → i ≤ t.nodes.length →
    ∃ o, ref20_named.l0 m t f (i : Int) = some o ∧ ((∃ x, o = .inr x) ∧ (t.nodes.drop i).any (fun n => n.kind == 4) = false ∨ o = .inl true ∧ (t.nodes.drop i).any (fun n => n.kind == 4) = true)
  | 0, i, hf, _ => absurd hf (by omega)
  | f + 1, i, hf, hi => by
    unfold ref20_named.l0
    by_cases h : i < t.nodes.length
    · have hx : ix t.nodes (i : Int) = some t.nodes[i] := by unfold ix; rw [if_pos (by omega)]; simp [h]
      rw [if_pos (by simp only [decide_eq_true_eq]; omega), hx, Option.bind_some, List.drop_eq_getElem_cons h, List.any_cons]
      cases hb : t.nodes[i].kind == (4 : Int) with
      | true => exact ⟨_, rfl, .inr ⟨rfl, rfl⟩⟩
      | false =>
        obtain ⟨o, k1, k2⟩ := named_l0 (m := m) hl f (i + 1) (by omega) (by omega)
        rw [if_neg (by simp), i64_id (by omega) (by omega), show (i : Int) + 1 = ((i + 1 : Nat) : Int) by omega, k1]
        exact ⟨o, rfl, by simpa using k2⟩
    · refine ⟨.inr (i : Int), by rw [if_neg (by simp only [decide_eq_true_eq]; omega)], .inl ⟨⟨_, rfl⟩, ?_⟩⟩
      rw [List.drop_eq_nil_of_le (by omega)]; rfl
theorem named_spec {m : Nat} (hm : 2 ^ 30 ≤ m) {t : VTree} (hl : t.nodes.length ≤ 8000) : ref20_named.f m t = some (t.nodes.any fun n => n.kind == 4) := by
  have p30 : (2 : Nat) ^ 30 = 1073741824 := by decide
  obtain ⟨o, k1, k2⟩ := named_l0 (m := m) hl m 0 (by omega) (by omega)
  have k1 : ref20_named.l0 m t m 0 = _ := k1
  rw [List.drop_zero] at k2
  unfold ref20_named.f
  rw [k1, Option.bind_some]
  rcases k2 with ⟨⟨x, rfl⟩, k⟩ | ⟨rfl, k⟩
  · rw [k]
  · rw [k]
theorem put_l2 {m : Nat} (hm : 2 ^ 30 ≤ m) {ls : List VTree} {i : Nat} (hi : i < ls.length) (L : LTree ls[i]) (W : WTree ls[i]) : ∀ (f k : Nat) (out : List Int), ls[i].nodes.length - k < f → k ≤ ls[i].nodes.length → out.length + 200 * (ls[i].nodes.length - k) ≤ 300000000000 →
    ∃ x, ref20_Put.l2 m ls (i : Int) f out (k : Int) = some (out ++ encNodes (ls[i].nodes.drop k), x)
  | 0, k, out, hf, _, _ => absurd hf (by omega)
  | f + 1, k, out, hf, hk, hb => by
    have p30 : (2 : Nat) ^ 30 = 1073741824 := by decide
    have hfew := L.few
    have hx : ix ls (i : Int) = some ls[i] := by unfold ix; rw [if_pos (by omega)]; simp [hi]
    unfold ref20_Put.l2
    rw [hx, Option.bind_some]
    by_cases h : k < ls[i].nodes.length
    · have hn : ix ls[i].nodes (k : Int) = some ls[i].nodes[k] := by unfold ix; rw [if_pos (by omega)]; simp [h]
      have hm' := List.getElem_mem h
      have hen := encNode_len (W.nodes _ hm') (L.nodes _ hm').1
      obtain ⟨x, ih⟩ := put_l2 hm hi L W f (k + 1) (out ++ encNode ls[i].nodes[k]) (by omega) (by omega) (by simp; omega)
      refine ⟨x, ?_⟩
      rw [if_pos (by simp only [decide_eq_true_eq]; omega), Option.bind_some, hn, Option.bind_some, rnodeW (by omega) (W.nodes _ hm') (L.nodes _ hm').1, Option.bind_some, app1 (by omega), Option.bind_some, i64_id (by omega) (by omega), show (k : Int) + 1 = ((k + 1 : Nat) : Int) by omega, ih, List.drop_eq_getElem_cons h, encNodes_cons, List.append_assoc]
    · refine ⟨(k : Int), ?_⟩
      rw [if_neg (by simp only [decide_eq_true_eq]; omega), List.drop_eq_nil_of_le (by omega)]
      simp [encNodes]
theorem put_l1 {m : Nat} (hm : 2 ^ 30 ≤ m) {ls : List VTree} (h8 : ls.length ≤ 8) (L : ∀ t ∈ ls, LTree t) : ∀ (f i : Nat) (out : List Int), ls.length - i < f → i ≤ ls.length → out.length + 2000000 * (ls.length - i) ≤ 200000000000 →
    ∃ o, ref20_Put.l1 m ls f out (i : Int) = some o ∧ ((ls.drop i).any (fun t => t.nodes.any fun n => n.kind == 4) = true ∧ o = .inl ([], 4) ∨ (ls.drop i).any (fun t => t.nodes.any fun n => n.kind == 4) = false ∧ ∃ x, o = .inr (out ++ encTrees (ls.drop i), x))
  | 0, i, out, hf, _, _ => absurd hf (by omega)
  | f + 1, i, out, hf, hi, hb => by
    have p30 : (2 : Nat) ^ 30 = 1073741824 := by decide
    have p64 : (2 : Nat) ^ 64 = 18446744073709551616 := by decide
    unfold ref20_Put.l1
    by_cases h : i < ls.length
    · have hx : ix ls (i : Int) = some ls[i] := by unfold ix; rw [if_pos (by omega)]; simp [h]
      have Li := L _ (List.getElem_mem h)
      have hfew := Li.few
      rw [if_pos (by simp only [decide_eq_true_eq]; omega), hx, Option.bind_some, named_spec hm hfew, Option.bind_some, List.drop_eq_getElem_cons h, List.any_cons]
      cases hn : ls[i].nodes.any fun n => n.kind == 4 with
      | true => exact ⟨_, rfl, .inl ⟨rfl, rfl⟩⟩
      | false =>
        have Wi := Li.w hn
        have het := encTree_len Li Wi
        have hl1 := encN_len64 (n := ls[i].nodes.length) (by omega)
        obtain ⟨x, q1⟩ := put_l2 (m := m) hm h Li Wi m 0 (out ++ encN ls[i].nodes.length) (by omega) (by omega) (by simp; omega)
        have q1 : ref20_Put.l2 m ls (i : Int) m (out ++ encN ls[i].nodes.length) 0 = _ := q1
        have hE : out ++ encN ls[i].nodes.length ++ encNodes ls[i].nodes = out ++ encTree ls[i] := by unfold encTree; rw [List.append_assoc]
        rw [List.drop_zero, hE] at q1
        obtain ⟨o, k1, k2⟩ := put_l1 hm h8 L f (i + 1) (out ++ encTree ls[i]) (by omega) (by omega) (by simp; omega)
        rw [if_neg (by simp), Option.bind_some, u64_id (x := (ls[i].nodes.length : Int)) (by omega) (by omega), rn (by omega) (by omega), Option.bind_some, app1 (by omega), Option.bind_some, q1, Option.bind_some]
        dsimp only
        rw [i64_id (by omega) (by omega), show (i : Int) + 1 = ((i + 1 : Nat) : Int) by omega, k1]
        refine ⟨o, rfl, ?_⟩
        rw [encTrees_cons, ← List.append_assoc]
        simpa using k2
    · refine ⟨.inr (out, (i : Int)), by rw [if_neg (by simp only [decide_eq_true_eq]; omega)], .inr ⟨?_, (i : Int), ?_⟩⟩
      · rw [List.drop_eq_nil_of_le (by omega)]; rfl
      · rw [List.drop_eq_nil_of_le (by omega)]; simp [encTrees]
theorem put_l3 {m : Nat} (hm : 10 ≤ m) {s : Nat} (hs : s < 4294967296) {out : List Int} (ho : out.length ≤ 200000000000) : ∃ c x, ref20_Put.l3 m m out (s : Int) 0 = some (out ++ [((s % 256 : Nat) : Int), ((s / 256 % 256 : Nat) : Int), ((s / 65536 % 256 : Nat) : Int), ((s / 16777216 % 256 : Nat) : Int)], c, x) := by
  have step : ∀ (f : Nat) (out : List Int) (n i : Nat), i < 4 → out.length ≤ 300000000000 → n < 4294967296 → ref20_Put.l3 m (f + 1) out (n : Int) (i : Int) = ref20_Put.l3 m f (out ++ [((n % 256 : Nat) : Int)]) ((n / 256 : Nat) : Int) ((i + 1 : Nat) : Int) := fun f out n i hi hl hn => by
    have e1 : u8.wrap (Int.tmod (n : Int) 256) = ((n % 256 : Nat) : Int) := by rw [Int.tmod_eq_emod_of_nonneg (by omega), u8_wrap]; omega
    have e2 : i64.wrap (Int.tdiv (n : Int) 256) = ((n / 256 : Nat) : Int) := by rw [Int.tdiv_eq_ediv_of_nonneg (by omega), i64_id (by omega) (by omega)]; omega
    show (if (decide ((i : Int) < (4 : Int))) = true then _ else _) = _
    rw [if_pos (by simp only [decide_eq_true_eq]; omega), e1, e2, app1 (by simp; omega), Option.bind_some, i64_id (by omega) (by omega), show (i : Int) + 1 = ((i + 1 : Nat) : Int) by omega]
  obtain ⟨k, rfl⟩ : ∃ k, m = k + 1 + 1 + 1 + 1 + 1 := ⟨m - 5, by omega⟩
  have d1 : s / 256 / 256 = s / 65536 := by omega
  have d2 : s / 65536 / 256 = s / 16777216 := by omega
  have h0 := step (k + 1 + 1 + 1 + 1) out s 0 (by omega) (by omega) hs
  have h0 : ref20_Put.l3 (k + 1 + 1 + 1 + 1 + 1) (k + 1 + 1 + 1 + 1 + 1) out (s : Int) 0 = _ := h0
  rw [h0, step _ _ _ _ (by omega) (by simp; omega) (by omega), step _ _ _ _ (by omega) (by simp; omega) (by omega), step _ _ _ _ (by omega) (by simp; omega) (by omega), d1, d2]
  unfold ref20_Put.l3
  rw [if_neg (by simp)]
  exact ⟨_, _, by simp; exact ⟨rfl, rfl⟩⟩
theorem check_val {m : Nat} {b : List Int} {s : Nat} (h : pickle_Sum.f m b = some (s : Int)) (hs : s < 4294967296) : pickle_check.f m b = some [((s % 256 : Nat) : Int), ((s / 256 % 256 : Nat) : Int), ((s / 65536 % 256 : Nat) : Int), ((s / 16777216 % 256 : Nat) : Int)] := by
  have sh : ∀ k, k ≤ 24 → shR .i64 (s : Int) k = ((s / 2 ^ k : Nat) : Int) := fun k hk => by
    unfold shR
    have : min k IntKind.i64.bits = k := by show min k 64 = k; omega
    rw [this, Int.fdiv_eq_ediv_of_nonneg _ (by exact_mod_cast Nat.zero_le (2 ^ k))]
    norm_cast
  unfold pickle_check.f
  rw [h, Option.bind_some, sh 8 (by omega), sh 16 (by omega), sh 24 (by omega), u8_wrap, u8_wrap, u8_wrap, u8_wrap]
  have p8 : (2 : Nat) ^ 8 = 256 := by decide
  have p16 : (2 : Nat) ^ 16 = 65536 := by decide
  have p24 : (2 : Nat) ^ 24 = 16777216 := by decide
  rw [p8, p16, p24]
  congr 1
theorem put_both {m : Nat} (hm : 2 ^ 41 ≤ m) {L : List VTree} (h0 : ∀ t ∈ L, Ok0 t) : ∃ r, pickle_Put.f m L = some r ∧ ref20_Put.f m L = some r := by
  have p30 : (2 : Nat) ^ 30 = 1073741824 := by decide
  have p41 : (2 : Nat) ^ 41 = 2199023255552 := by decide
  have p40 : (2 : Nat) ^ 40 = 1099511627776 := by decide
  have p42 : (2 : Nat) ^ 42 = 4398046511104 := by decide
  have p64 : (2 : Nat) ^ 64 = 18446744073709551616 := by decide
  unfold pickle_Put.f ref20_Put.f
  by_cases h : L.length ≤ 8
  · rw [if_neg (by simp only [decide_eq_true_eq]; omega), if_neg (by simp only [decide_eq_true_eq]; omega)]
    obtain ⟨o, k1, k2, k3⟩ := put_l0_both hm h h0 m 0 [] (by omega) (by omega) (by simp) (fun s hs => by cases hs)
    have k1 : pickle_Put.l0 m L m [] 0 = _ := k1
    have k2 : ref20_Put.l0 m L m [] 0 = _ := k2
    rw [k1, k2, Option.bind_some, Option.bind_some]
    rcases k3 with rfl | ⟨ls, x, rfl, hl, hLT⟩
    · exact ⟨_, rfl, rfl⟩
    · dsimp only
      obtain ⟨o, q1, q2⟩ := put_l1 (m := m) (by omega) hl hLT m 0 ([76, 1] ++ encN ls.length) (by omega) (by omega) (by have := encN_len64 (n := ls.length) (by omega); simp; omega)
      have q1 : ref20_Put.l1 m ls m ([76, 1] ++ encN ls.length) 0 = _ := q1
      rw [List.drop_zero] at q2
      have hen := encN_len64 (n := ls.length) (by omega)
      rw [containsT (f0 := fun y0 => pickle_Put_1.f m y0) (g := fun t => t.nodes.any fun n => n.kind == 4) (by omega) (by omega) (fun t ht => put1_spec (by have := (hLT t ht).few; omega) (by have := (hLT t ht).few; omega)), Option.bind_some,
        u64_id (x := (ls.length : Int)) (by omega) (by omega), rn (by omega) (by omega), Option.bind_some, app1 (by simp; omega), Option.bind_some, q1, Option.bind_some]
      rcases q2 with ⟨hc, rfl⟩ | ⟨hc, x, rfl⟩
      · rw [hc]; exact ⟨_, rfl, rfl⟩
      · rw [hc]
        have hW : ∀ t ∈ ls, LTree t ∧ WTree t := fun t ht => ⟨hLT t ht, (hLT t ht).w (by simpa using List.any_eq_false.1 hc t ht)⟩
        have hel := encTrees_len hW
        have hE : [76, 1] ++ encN ls.length ++ encTrees ls = encList ls := by unfold encList; simp
        have hlist : (encList ls).length ≤ 100000000 := by
          unfold encList
          simp only [List.length_append, List.length_cons, List.length_nil]; omega
        obtain ⟨s, s1, s2, s3⟩ := sum_eq (m := m) (by omega) (b := encList ls) (by omega) (by omega)
        obtain ⟨c, y, s4⟩ := put_l3 (m := m) (by omega) s3 (out := encList ls) (by omega)
        have hap : app 1 (encList ls) [((s % 256 : Nat) : Int), ((s / 256 % 256 : Nat) : Int), ((s / 65536 % 256 : Nat) : Int), ((s / 16777216 % 256 : Nat) : Int)] = some (encList ls ++ [((s % 256 : Nat) : Int), ((s / 256 % 256 : Nat) : Int), ((s / 65536 % 256 : Nat) : Int), ((s / 16777216 % 256 : Nat) : Int)]) := app1 (by simp; omega)
        dsimp only
        rw [if_neg (by simp), wlist (by omega) (fun t ht => (hW t ht).2) (by omega) (by omega), check_val s1 s3, Option.bind_some, hap, Option.bind_some, hE, s2, Option.bind_some, s4, Option.bind_some]
        dsimp only
        split
        · exact ⟨_, rfl, rfl⟩
        · exact ⟨_, rfl, rfl⟩
  · rw [if_pos (by simp only [decide_eq_true_eq]; omega), if_pos (by simp only [decide_eq_true_eq]; omega)]
    exact ⟨_, rfl, rfl⟩
end Go.Proofs.YtmekcfdllhphlaaDoor

namespace Go.Proofs.YtmekcfdllhphlaaDoor
open Go Go.R
open Go.IntKind (i64 u64 u8 u32)
def ann12 : Ann := mkA [0, 2, 3, 4, 5, 8, 12, 24, 32, 58] [] [1022, 990, 1021, 1018, 1010, 946, 1010, 1010, 882, 1021, 994, 738, 994, 482, 1021, 1021] [] []
def law20_Great.l1 (m : Nat) (l0 : List VTree) (i0 : Int) : Nat → Int → Option (Sum Bool (Int))
  | 0, _ => none
  | k + 1, k0 => (ix l0 i0).bind fun v1 => if (decide (k0 < (v1.nodes.length : Int))) = true then ((ix l0 i0).bind fun v2 => (ix v2.nodes k0).bind fun v3 => if (decide ((v3.args.length : Int) > (20 : Int))) = true then (some (.inl true)) else ((ix l0 i0).bind fun v4 => (ix v4.nodes k0).bind fun v5 => if (decide ((v5.label.size : Int) > (40 : Int))) = true then (some (.inl true)) else (law20_Great.l1 m l0 i0 k (i64.wrap (k0 + (1 : Int)))))) else (some (.inr k0))
def law20_Great.l0 (m : Nat) (l0 : List VTree) : Nat → Int → Int → Option (Sum Bool (Int × Int))
  | 0, _, _ => none
  | k + 1, n0, i0 => if (decide (i0 < (l0.length : Int))) = true then ((ix l0 i0).bind fun v0 => if (decide ((i64.wrap (n0 + (v0.nodes.length : Int))) > (300 : Int))) = true then (some (.inl true)) else ((law20_Great.l1 m l0 i0 m (0 : Int)).bind fun out0 => match out0 with | .inl r0 => some (.inl r0) | .inr k1 => law20_Great.l0 m l0 k (i64.wrap (n0 + (v0.nodes.length : Int))) (i64.wrap (i0 + (1 : Int))))) else (some (.inr (n0, i0)))
def law20_Great.f (m : Nat) (l0 : List VTree) : Option (Bool) := if (decide ((l0.length : Int) > (12 : Int))) = true then (some true) else ((law20_Great.l0 m l0 m (0 : Int) (0 : Int)).bind fun out1 => match out1 with | .inl r1 => some r1 | .inr (n1, i1) => some false)
def law20_Great.fin (L : Mem) (r : Bool) (s : St) : Prop := ∃ av, resultA Tryd.prog (s.open ann12) Tryd.f12.results.toList = some av ∧ Frb s.h av (.bool r)
def S12 (cf : CallF) (m : Nat) : Prop := ∀ (l0 : List VTree) (r : Bool), law20_Great.f m l0 = some r → ∀ h xs, FrzS bigK h xs [eTree.fz l0] → cf 12 xs h = some (.bool r, h)
section
variable {cf : CallF} {m : Nat}
theorem law20_Great.l1_ok (L : Mem) (l0 : List VTree) (n0 : Int) (i0 : Int) (v0 : VTree)   : LoopT Tryd.prog cf ann12 m (sub [1, 1, 1, 0, 1, 0, 0, 1, 0, 0, 1, 1, 1, 0, 0] (codeOf Tryd.f12)) (fun k (σ : Int) => law20_Great.l1 m l0 i0 k σ) (fun σ s => match σ with | k0 => ∃ h1, s = ⟨eTree.fz l0 :: .any :: .int .i64 (i64.wrap (n0 + (v0.nodes.length : Int))) :: .int .i64 i0 :: .int .i64 k0 :: Ay5 [], [], h1⟩ ∧ Has h1 (L)) (fun out e s => (e = .exit 2 ∧ ∃ k0, .inr k0 = out ∧ ∃ x5_ x32_ h1, s = ⟨eTree.fz l0 :: .any :: .int .i64 (i64.wrap (n0 + (v0.nodes.length : Int))) :: .int .i64 i0 :: x5_ :: Ay3 [x32_, .any], [], h1⟩ ∧ Has h1 (L)) ∨ (e = .ret ∧ ∃ r, .inl r = out ∧ law20_Great.fin L r s)) := by
  refine lpT (fun _ => rfl) ?_
  rintro k k0 s out ⟨h1, rfl, o1⟩ H
  have H : law20_Great.l1 m l0 i0 (k + 1) k0 = some out := H
  refine qq <| qq ?_
  obtain ⟨v1, e1, H⟩ := bsi H
  refine qr [.v 3 (ia_fz (k := .i64) (E := eTree) (l := l0) T22 e1), .v 5 (ld_fz1  (E := eTree) (l := l0) (off := 0) h1 A29 e1 rfl)] <| qc H (fun c3 H => ?_) (fun c3 H => ?_)
  · refine qk <| qq <| qb 3 <| qq ?_
    obtain ⟨v2, e2, H⟩ := bsi H
    obtain ⟨v3, e3, H⟩ := bsi H
    rcases ift H with ⟨c4, H⟩ | ⟨c4, H⟩
    · exact qr [.v 2 (ia_fz (k := .i64) (E := eTree) (l := l0) T22 e2), .v 4 (ld_fz1  (E := eTree) (l := l0) (off := 0) h1 A29 e2 rfl), .v 6 (ia_fz (k := .i64) (E := eNode) (l := v2.nodes) T29 e3), .v 8 (ld_fz1  (E := eNode) (l := v2.nodes) (off := 3) h1 A42 e3 rfl), .b 11 c4] <| qcT <| qq <| q0 <| qt <| Or.inr (⟨rfl, _, oi H, fnb (.bool true) h1 (frb (fb_bool))⟩)
    · obtain ⟨v4, e4, H⟩ := bsi H
      obtain ⟨v5, e5, H⟩ := bsi H
      refine qr [.v 2 (ia_fz (k := .i64) (E := eTree) (l := l0) T22 e2), .v 4 (ld_fz1  (E := eTree) (l := l0) (off := 0) h1 A29 e2 rfl), .v 6 (ia_fz (k := .i64) (E := eNode) (l := v2.nodes) T29 e3), .v 8 (ld_fz1  (E := eNode) (l := v2.nodes) (off := 3) h1 A42 e3 rfl), .b 11 c4, .v 14 (ia_fz (k := .i64) (E := eTree) (l := l0) T22 e4), .v 16 (ld_fz1  (E := eTree) (l := l0) (off := 0) h1 A29 e4 rfl), .v 18 (ia_fz (k := .i64) (E := eNode) (l := v4.nodes) T29 e5), .v 20 (ld_fz1  (E := eNode) (l := v4.nodes) (off := 2) h1 A9 e5 rfl)] <| qc H (fun c6 H => ?_) (fun c6 H => ?_)
      · exact q1 <| qt <| Or.inr (⟨rfl, _, oi H, fnb (.bool true) h1 (frb (fb_bool))⟩)
      · exact qk <| q0 <| ⟨i64.wrap (k0 + (1 : Int)), ⟨h1, by kernel_rfl, o1⟩, H⟩
  · exact qx 2 <| Or.inl (⟨rfl, k0, oi H, .int .i64 k0, .bool (decide (k0 < (v1.nodes.length : Int))), h1, by kernel_rfl, o1⟩)
theorem law20_Great.l0_ok (L : Mem) (l0 : List VTree)   : LoopT Tryd.prog cf ann12 m (sub [1, 1, 1, 0, 1, 0, 0] (codeOf Tryd.f12)) (fun k (σ : Int × Int) => law20_Great.l0 m l0 k σ.1 σ.2) (fun σ s => match σ with | (n0, i0) => ∃ h0, s = ⟨eTree.fz l0 :: .any :: .int .i64 n0 :: .int .i64 i0 :: Ay6 [], [], h0⟩ ∧ Has h0 (L)) (fun out e s => (e = .exit 0 ∧ ∃ n0 i0, .inr (n0, i0) = out ∧ ∃ x0_ x3_ x4_ x12_ h0, s = ⟨x0_ :: .any :: x3_ :: x4_ :: .any :: .any :: x12_ :: Ay3 [], [], h0⟩ ∧ Has h0 (L)) ∨ (e = .ret ∧ ∃ r, .inl r = out ∧ law20_Great.fin L r s)) := by
  refine lpT (fun _ => rfl) ?_
  rintro k ⟨n0, i0⟩ s out ⟨h0, rfl, o0⟩ H
  have H : law20_Great.l0 m l0 (k + 1) n0 i0 = some out := H
  refine qq <| qq <| q0 <| qc H (fun c1 H => ?_) (fun c1 H => ?_)
  · refine qk <| qq <| qb 1 <| qq ?_
    obtain ⟨v0, e0, H⟩ := bsi H
    refine qr [.v 3 (ia_fz (k := .i64) (E := eTree) (l := l0) T22 e0), .v 5 (ld_fz1  (E := eTree) (l := l0) (off := 0) h0 A29 e0 rfl)] <| qq <| qq <| q0 <| qc H (fun c2 H => ?_) (fun c2 H => ?_)
    · exact q1 <| qt <| Or.inr (⟨rfl, _, oi H, fnb (.bool true) h0 (frb (fb_bool))⟩)
    · refine qk <| qq <| q0 <| qb 2 ?_
      obtain ⟨out0, e6, H⟩ := bsi H
      refine ql (law20_Great.l1_ok L l0 n0 i0 v0   (0 : Int) _ _ ⟨h0, by kernel_rfl, o0⟩ e6) ?_
      rintro e s (⟨rfl, k1, rfl, g0, g1, h2, rfl, o2⟩ | ⟨rfl, r0, rfl, hf0⟩)
      · try dsimp only at H
        exact q0 <| ⟨(i64.wrap (n0 + (v0.nodes.length : Int)), i64.wrap (i0 + (1 : Int))), ⟨h2, by kernel_rfl, o2⟩, H⟩
      · try dsimp only at H
        exact Or.inr (⟨rfl, _, oi H, hf0⟩)
  · exact qx 0 <| Or.inl (⟨rfl, n0, i0, oi H, eTree.fz l0, .int .i64 n0, .int .i64 i0, .bool (decide (i0 < (l0.length : Int))), h0, by kernel_rfl, o0⟩)
theorem law20_Great_body {ann : FuncId → Ann} (ha : ann 12 = ann12)  (l0 : List VTree) (h : AHeap) (L : Mem)  (o : Has h (L)) {out : Bool} (H : law20_Great.f m l0 = some out) :
    ∃ r h', bodyA Tryd.prog ann cf m 12 [eTree.fz l0] h = some (r, h') ∧ Frb h' r (.bool out) := by
  refine body_of_ends2 (fn := Tryd.f12) ha Tryd.func12 (by kernel_rfl) (by kernel_rfl) ?_
  refine ends_fin (Q := fun s => law20_Great.fin L out s) (fun _ _ h => h) ?_
  have H : _ = some out := H
  unfold law20_Great.f at H
  show Enz _ cf ann12 m _ ⟨eTree.fz l0 :: Ay9 [], [], h⟩ _
  refine q1 <| qq <| qq <| q0 <| qc H (fun c0 H => ?_) (fun c0 H => ?_)
  · obtain rfl := oi H
    exact q1 <| qt <| ⟨.inl rfl, fnb (.bool true) h (frb (fb_bool))⟩
  · refine qk <| qq <| q0 <| qq <| qq <| q0 <| qb 0 ?_
    obtain ⟨out1, e7, H⟩ := bsi H
    refine ql (law20_Great.l0_ok L l0   ((0 : Int), (0 : Int)) _ _ ⟨h, by kernel_rfl, o⟩ e7) ?_
    rintro e s (⟨rfl, n1, i1, rfl, g2, g3, g4, g5, h3, rfl, o3⟩ | ⟨rfl, r1, rfl, hf1⟩)
    · try dsimp only at H
      obtain rfl := oi H
      exact q1 <| qt <| ⟨.inl rfl, fnb (.bool false) h3 (frb (fb_bool))⟩
    · try dsimp only at H
      obtain rfl := oi H
      exact ⟨.inl rfl, hf1⟩
end
end Go.Proofs.YtmekcfdllhphlaaDoor

namespace Go.Proofs.YtmekcfdllhphlaaDoor
open Go Go.R
open Go.IntKind (i64 u64 u8 u32)
def ann17 : Ann := mkA [0, 1, 2, 3] [1, 2] [9, 3] [] []
def ref20_Least.f (m : Nat) (t0 : VTree) : Option (VTree × Int) := (ref01_Least.f m t0).bind fun x0 => some (x0.1, x0.2)
def ref20_Least.fin (L : Mem) (r : VTree × Int) (s : St) : Prop := ∃ av, resultA Tryd.prog (s.open ann17) Tryd.f17.results.toList = some av ∧ Frz s.h av (.tup [.agg [eNode.fz r.1.nodes, .int .i64 r.1.root], .int .i64 r.2])
def S17 (cf : CallF) (m : Nat) : Prop := ∀ (t0 : VTree) (r : VTree × Int), ref20_Least.f m t0 = some r → ∀ h xs, PureS xs [.agg [eNode.fz t0.nodes, .int .i64 t0.root]] → cf 17 xs h = some (.tup [.agg [eNode.fz r.1.nodes, .int .i64 r.1.root], .int .i64 r.2], h)
section
variable {cf : CallF} {m : Nat}
theorem ref20_Least_body {ann : FuncId → Ann} (ha : ann 17 = ann17) (S37_ : S37 cf m) (t0 : VTree) (h : AHeap) (L : Mem)  (o : Has h (L)) {out : VTree × Int} (H : ref20_Least.f m t0 = some out) :
    ∃ r h', bodyA Tryd.prog ann cf m 17 [.agg [eNode.fz t0.nodes, .int .i64 t0.root]] h = some (r, h') ∧ Frz h' r (.tup [.agg [eNode.fz out.1.nodes, .int .i64 out.1.root], .int .i64 out.2]) := by
  refine body_of_ends2 (fn := Tryd.f17) ha Tryd.func17 (by kernel_rfl) (by kernel_rfl) ?_
  refine ends_fin (Q := fun s => ref20_Least.fin L out s) (fun _ _ h => h) ?_
  have H : _ = some out := H
  unfold ref20_Least.f at H
  show Enz _ cf ann17 m _ ⟨.agg [eNode.fz t0.nodes, .int .i64 t0.root] :: Ay3 [], [none, none], h⟩ _
  refine q1 <| qq ?_
  obtain ⟨x0, e0, H⟩ := bsi H
  obtain rfl := oi H
  exact qr [.a 1 (S37_ _ _ e0 h _ (pu_cons (pu_agg (pu_cons (pu_fz (E := eNode)) (pu_cons (pu_int) (pu_nil)))) (pu_nil)))] <| qt <| ⟨.inl rfl, fnz (.tup [.agg [eNode.fz x0.1.nodes, .int .i64 x0.1.root], .int .i64 x0.2]) h (frz (fr_tup (fr_cons (fr_agg (fr_cons (fr_fz) (fr_cons (fr_int) (fr_nil)))) (fr_cons (fr_int) (fr_nil)))))⟩
end
end Go.Proofs.YtmekcfdllhphlaaDoor

namespace Go.Proofs.YtmekcfdllhphlaaDoor
open Go Go.R
open Go.IntKind (i64 u64 u8 u32)
def ann3 : Ann := mkA [0, 2, 3, 4, 5, 6, 7, 8, 9, 10, 11, 13, 28, 55] [8, 10] [16382, 14334, 16381, 16370, 16322, 16258, 12162, 16258, 15874, 14338, 8066, 16381, 16381] [] []
def law20_PicklePuts.l0 (m : Nat) (l0 : List VTree) : Nat → Int → Option (Sum Bool (Int))
  | 0, _ => none
  | k + 1, i0 => if (decide (i0 < (l0.length : Int))) = true then ((ix l0 i0).bind fun v0 => (pickle_Least.f m v0).bind fun x4 => (ix l0 i0).bind fun v1 => (ref20_Least.f m v1).bind fun x5 => (ref20_Graph.f m x4.1 x5.1).bind fun x6 => if (!x6) = true then (some (.inl false)) else (if (!(x4.2 == x5.2)) = true then (some (.inl false)) else (law20_PicklePuts.l0 m l0 k (i64.wrap (i0 + (1 : Int)))))) else (some (.inr i0))
def law20_PicklePuts.f (m : Nat) (l0 : List VTree) : Option (Bool) := (law20_Great.f m l0).bind fun x0 => if x0 = true then ((law20_awake.f m).bind fun x1 => some x1) else ((pickle_Put.f m l0).bind fun x2 => (ref20_Put.f m l0).bind fun x3 => (law20_PicklePuts.l0 m l0 m (0 : Int)).bind fun out0 => match out0 with | .inl r0 => some r0 | .inr i1 => if ((bytesStr x2.1).data.toList == (bytesStr x3.1).data.toList) = true then (if (x2.2 == x3.2) = true then ((law20_awake.f m).bind fun x7 => some x7) else (some false)) else (some false))
def law20_PicklePuts.fin (L : Mem) (r : Bool) (s : St) : Prop := ∃ av, resultA Tryd.prog (s.open ann3) Tryd.f3.results.toList = some av ∧ Frb s.h av (.bool r)
def S3 (cf : CallF) (m : Nat) : Prop := ∀ (l0 : List VTree) (r : Bool), law20_PicklePuts.f m l0 = some r → ∀ h xs, FrzS bigK h xs [eTree.fz l0] → cf 3 xs h = some (.bool r, h)
section
variable {cf : CallF} {m : Nat}
theorem law20_PicklePuts.l0_ok (L : Mem) (l0 : List VTree) (x2 : (List Int) × Int) (x3 : (List Int) × Int)  (S16_ : S16 cf m) (S17_ : S17 cf m) (S18_ : S18 cf m) : LoopT Tryd.prog cf ann3 m (sub [1, 1, 1, 1, 0, 1, 0, 0] (codeOf Tryd.f3)) (fun k (σ : Int) => law20_PicklePuts.l0 m l0 k σ) (fun σ s => match σ with | i0 => ∃ h0, s = ⟨eTree.fz l0 :: .any :: eByte.fz x2.1 :: .int .i64 x2.2 :: eByte.fz x3.1 :: .int .i64 x3.2 :: .int .i64 i0 :: Ay7 [], [none, none], h0⟩ ∧ Has h0 (L)) (fun out e s => (e = .exit 0 ∧ ∃ i0, .inr i0 = out ∧ ∃ x0_ x7_ x28_ h0, s = ⟨x0_ :: .any :: eByte.fz x2.1 :: .int .i64 x2.2 :: eByte.fz x3.1 :: .int .i64 x3.2 :: x7_ :: Ay5 [x28_, .any], [none, none], h0⟩ ∧ Has h0 (L)) ∨ (e = .ret ∧ ∃ r, .inl r = out ∧ law20_PicklePuts.fin L r s)) := by
  refine lpT (fun _ => rfl) ?_
  rintro k i0 s out ⟨h0, rfl, o0⟩ H
  have H : law20_PicklePuts.l0 m l0 (k + 1) i0 = some out := H
  refine qq <| qq <| q0 <| qc H (fun c1 H => ?_) (fun c1 H => ?_)
  · refine qk <| qq <| qb 1 <| qq ?_
    obtain ⟨v0, e4, H⟩ := bsi H
    obtain ⟨x4, e5, H⟩ := bsi H
    refine qr [.v 2 (ia_fz (k := .i64) (E := eTree) (l := l0) T22 e4), .v 3 (ld_fzA  (E := eTree) (l := l0) h0 A31 Z31 e4), .a 4 (S16_ _ _ e5 h0 _ (pu_cons (pu_agg (pu_cons (pu_fz (E := eNode)) (pu_cons (pu_int) (pu_nil)))) (pu_nil)))] <| qq ?_
    obtain ⟨v1, e6, H⟩ := bsi H
    obtain ⟨x5, e7, H⟩ := bsi H
    refine qr [.v 2 (ia_fz (k := .i64) (E := eTree) (l := l0) T22 e6), .v 3 (ld_fzA  (E := eTree) (l := l0) h0 A31 Z31 e6), .a 4 (S17_ _ _ e7 h0 _ (pu_cons (pu_agg (pu_cons (pu_fz (E := eNode)) (pu_cons (pu_int) (pu_nil)))) (pu_nil)))] <| qq ?_
    obtain ⟨x6, e8, H⟩ := bsi H
    rcases ift H with ⟨c2, H⟩ | ⟨c2, H⟩
    · exact qr [.a 2 (S18_ _ _ _ e8 h0 _ (frs (fr_cons (fr_agg (fr_cons (fr_fz (E := eNode)) (fr_cons (fr_int) (fr_nil)))) (fr_cons (fr_agg (fr_cons (fr_fz (E := eNode)) (fr_cons (fr_int) (fr_nil)))) (fr_nil))))), .b 4 c2] <| qcT <| qq <| q0 <| qt <| Or.inr (⟨rfl, _, oi H, fnb (.bool false) h0 (frb (fb_bool))⟩)
    · refine qr [.a 2 (S18_ _ _ _ e8 h0 _ (frs (fr_cons (fr_agg (fr_cons (fr_fz (E := eNode)) (fr_cons (fr_int) (fr_nil)))) (fr_cons (fr_agg (fr_cons (fr_fz (E := eNode)) (fr_cons (fr_int) (fr_nil)))) (fr_nil))))), .b 4 c2] <| qc H (fun c4 H => ?_) (fun c4 H => ?_)
      · exact q1 <| qt <| Or.inr (⟨rfl, _, oi H, fnb (.bool false) h0 (frb (fb_bool))⟩)
      · exact qk <| q0 <| ⟨i64.wrap (i0 + (1 : Int)), ⟨h0, by kernel_rfl, o0⟩, H⟩
  · exact qx 0 <| Or.inl (⟨rfl, i0, oi H, eTree.fz l0, .int .i64 i0, .bool (decide (i0 < (l0.length : Int))), h0, by kernel_rfl, o0⟩)
theorem law20_PicklePuts_body {ann : FuncId → Ann} (ha : ann 3 = ann3) (S12_ : S12 cf m) (S13_ : S13 cf m) (S14_ : S14 cf m) (S15_ : S15 cf m) (S16_ : S16 cf m) (S17_ : S17 cf m) (S18_ : S18 cf m) (l0 : List VTree) (h : AHeap) (L : Mem)  (o : Has h (L)) {out : Bool} (H : law20_PicklePuts.f m l0 = some out) :
    ∃ r h', bodyA Tryd.prog ann cf m 3 [eTree.fz l0] h = some (r, h') ∧ Frb h' r (.bool out) := by
  refine body_of_ends2 (fn := Tryd.f3) ha Tryd.func3 (by kernel_rfl) (by kernel_rfl) ?_
  refine ends_fin (Q := fun s => law20_PicklePuts.fin L out s) (fun _ _ h => h) ?_
  have H : _ = some out := H
  unfold law20_PicklePuts.f at H
  show Enz _ cf ann3 m _ ⟨eTree.fz l0 :: Ay13 [], [none, none], h⟩ _
  refine q1 <| qq <| qq ?_
  obtain ⟨x0, e0, H⟩ := bsi H
  refine qr [.a 1 (S12_ _ _ e0 h _ (frs (fr_cons (fr_fz (E := eTree)) (fr_nil))))] <| qc H (fun c0 H => ?_) (fun c0 H => ?_)
  · refine qq ?_
    obtain ⟨x1, e1, H⟩ := bsi H
    obtain rfl := oi H
    exact qr [.a 0 (S13_ _ e1 h _ (frs (fr_nil)))] <| qt <| ⟨.inl rfl, fnb (.bool x1) h (frb (fb_bool))⟩
  · refine qk <| qq ?_
    obtain ⟨x2, e2, H⟩ := bsi H
    refine qr [.a 1 (S14_ _ _ e2 h _ (pu_cons (pu_fz (E := eTree)) (pu_nil)))] <| qq ?_
    obtain ⟨x3, e3, H⟩ := bsi H
    refine qr [.a 1 (S15_ _ _ e3 h _ (frs (fr_cons (fr_fz (E := eTree)) (fr_nil))))] <| qq <| qq <| q0 <| qb 0 ?_
    obtain ⟨out0, e9, H⟩ := bsi H
    refine ql (law20_PicklePuts.l0_ok L l0 x2 x3  S16_ S17_ S18_ (0 : Int) _ _ ⟨h, by kernel_rfl, o⟩ e9) ?_
    rintro e s (⟨rfl, i1, rfl, g0, g1, g2, h1, rfl, o1⟩ | ⟨rfl, r0, rfl, hf0⟩)
    · try dsimp only at H
      refine qq ?_
      rcases ift H with ⟨c5, H⟩ | ⟨c5, H⟩
      · rcases ift H with ⟨c6, H⟩ | ⟨c6, H⟩
        · obtain ⟨x7, e10, H⟩ := bsi H
          obtain rfl := oi H
          exact qr [.v 1 (show convertA Tryd.prog h1 25 9 (eByte.fz x2.1) = some (.str (bytesStr x2.1)) from cv_str (e := 5) (l := x2.1) rfl rfl rfl (cc_fz _)), .v 3 (show convertA Tryd.prog h1 25 9 (eByte.fz x3.1) = some (.str (bytesStr x3.1)) from cv_str (e := 5) (l := x3.1) rfl rfl rfl (cc_fz _)), .b 5 c5, .b 10 c6, .a 11 (S13_ _ e10 h1 _ (frs (fr_nil)))] <| qt <| ⟨.inl rfl, fnb (.bool x7) h1 (frb (fb_bool))⟩
        · obtain rfl := oi H
          exact qr [.v 1 (show convertA Tryd.prog h1 25 9 (eByte.fz x2.1) = some (.str (bytesStr x2.1)) from cv_str (e := 5) (l := x2.1) rfl rfl rfl (cc_fz _)), .v 3 (show convertA Tryd.prog h1 25 9 (eByte.fz x3.1) = some (.str (bytesStr x3.1)) from cv_str (e := 5) (l := x3.1) rfl rfl rfl (cc_fz _)), .b 5 c5, .b 10 c6] <| qt <| ⟨.inl rfl, fnb (.bool false) h1 (frb (fb_bool))⟩
      · obtain rfl := oi H
        exact qr [.v 1 (show convertA Tryd.prog h1 25 9 (eByte.fz x2.1) = some (.str (bytesStr x2.1)) from cv_str (e := 5) (l := x2.1) rfl rfl rfl (cc_fz _)), .v 3 (show convertA Tryd.prog h1 25 9 (eByte.fz x3.1) = some (.str (bytesStr x3.1)) from cv_str (e := 5) (l := x3.1) rfl rfl rfl (cc_fz _)), .b 5 c5] <| qt <| ⟨.inl rfl, fnb (.bool false) h1 (frb (fb_bool))⟩
    · try dsimp only at H
      obtain rfl := oi H
      exact ⟨.inl rfl, hf0⟩
end
end Go.Proofs.YtmekcfdllhphlaaDoor

namespace Go.Proofs.YtmekcfdllhphlaaDoor
open Go Go.R
open Go.IntKind (i64 u64 u8 u32)
theorem ix_at {α : Type} {l : List α} {i : Nat} (h : i < l.length) : ix l (i : Int) = some l[i] := by unfold ix; rw [if_pos (by omega)]; simp [h]
theorem great_l1 {m : Nat} {L : List VTree} {i : Nat} (hi : i < L.length) (hn : L[i].nodes.length < 2 ^ 63) : ∀ (f k : Nat), L[i].nodes.length - k < f → k ≤ L[i].nodes.length →
    ∃ o, law20_Great.l1 m L (i : Int) f (k : Int) = some o ∧ ((∃ x, o = .inr x) ∨ o = .inl true)
  | 0, k, hf, _ => absurd hf (by omega)
  | f + 1, k, hf, hk => by
    have p63 : (2 : Nat) ^ 63 = 9223372036854775808 := by decide
    unfold law20_Great.l1
    rw [ix_at hi, Option.bind_some]
    by_cases h : k < L[i].nodes.length
    · obtain ⟨o, ih, ho⟩ := great_l1 (m := m) hi hn f (k + 1) (by omega) (by omega)
      rw [if_pos (by simp only [decide_eq_true_eq]; omega), Option.bind_some, ix_at h, Option.bind_some]
      split
      · exact ⟨_, rfl, .inr rfl⟩
      · rw [Option.bind_some, ix_at h, Option.bind_some]
        split
        · exact ⟨_, rfl, .inr rfl⟩
        · rw [i64_id (by omega) (by omega), show (k : Int) + 1 = ((k + 1 : Nat) : Int) by omega, ih]
          exact ⟨o, rfl, ho⟩
    · rw [if_neg (by simp only [decide_eq_true_eq]; omega)]
      exact ⟨_, rfl, .inl ⟨_, rfl⟩⟩
theorem great_l0 {m : Nat} (hm : 2 ^ 63 ≤ m) {L : List VTree} (h12 : L.length ≤ 12) (hl : ∀ t ∈ L, t.nodes.length < 2 ^ 63) : ∀ (f i : Nat) (n : Int), L.length - i < f → i ≤ L.length →
    ∃ o, law20_Great.l0 m L f n (i : Int) = some o ∧ ((∃ x, o = .inr x) ∨ o = .inl true)
  | 0, i, n, hf, _ => absurd hf (by omega)
  | f + 1, i, n, hf, hi => by
    have p63 : (2 : Nat) ^ 63 = 9223372036854775808 := by decide
    unfold law20_Great.l0
    by_cases h : i < L.length
    · have hb := hl _ (List.getElem_mem h)
      rw [if_pos (by simp only [decide_eq_true_eq]; omega), ix_at h, Option.bind_some]
      split
      · exact ⟨_, rfl, .inr rfl⟩
      · obtain ⟨o, k1, k2⟩ := great_l1 (m := m) h hb m 0 (by omega) (by omega)
        have k1 : law20_Great.l1 m L (i : Int) m (0 : Int) = _ := k1
        rw [k1, Option.bind_some]
        rcases k2 with ⟨x, rfl⟩ | rfl
        · dsimp only
          rw [i64_id (x := (i : Int) + 1) (by omega) (by omega), show (i : Int) + 1 = ((i + 1 : Nat) : Int) by omega]
          exact great_l0 hm h12 hl f (i + 1) _ (by omega) (by omega)
        · exact ⟨_, rfl, .inr rfl⟩
    · rw [if_neg (by simp only [decide_eq_true_eq]; omega)]
      exact ⟨_, rfl, .inl ⟨_, rfl⟩⟩
theorem great_spec {m : Nat} (hm : 2 ^ 63 ≤ m) {L : List VTree} (hl : ∀ t ∈ L, t.nodes.length < 2 ^ 63) : ∃ b, law20_Great.f m L = some b ∧ (b = false → L.length ≤ 12) := by
  have p63 : (2 : Nat) ^ 63 = 9223372036854775808 := by decide
  unfold law20_Great.f
  split
  · exact ⟨true, rfl, fun h => by cases h⟩
  · rename_i h
    simp only [decide_eq_true_eq] at h
    obtain ⟨o, k1, k2⟩ := great_l0 hm (by omega) hl m 0 0 (by omega) (by omega)
    have k1 : law20_Great.l0 m L m (0 : Int) (0 : Int) = _ := k1
    rw [k1, Option.bind_some]
    rcases k2 with ⟨⟨n, x⟩, rfl⟩ | rfl
    · exact ⟨false, rfl, fun _ => by omega⟩
    · exact ⟨true, rfl, fun h => by cases h⟩
theorem rgraph {m : Nat} (hm : 2 ^ 30 ≤ m) {t : VTree} (h1 : t.nodes.length ≤ 8000) (h2 : ∀ n ∈ t.nodes, n.args.length ≤ 8) : ref20_Graph.f m t t = some true := by
  have p30 : (2 : Nat) ^ 30 = 1073741824 := by decide
  obtain ⟨x, hx⟩ := graph_l0 (m := m) t hm (by omega) h2 m 0 (by omega) (by omega)
  have hx : ref20_Graph.l0 m t t m (0 : Int) = _ := hx
  unfold ref20_Graph.f
  rw [if_neg (by simp), if_neg (by simp), hx, Option.bind_some]
theorem least_graph {m : Nat} (hm : 2 ^ 41 ≤ m) {t : VTree} (h0 : Ok0 t) : ∃ s e, pickle_Least.f m t = some (s, e) ∧ ref20_Least.f m t = some (s, e) ∧ ref20_Graph.f m s s = some true := by
  have p41 : (2 : Nat) ^ 41 = 2199023255552 := by decide
  have p30 : (2 : Nat) ^ 30 = 1073741824 := by decide
  obtain ⟨s, e, k1, k2, k3, _, k5⟩ := least_both hm h0
  refine ⟨s, e, by unfold pickle_Least.f; rw [k1]; rfl, by unfold ref20_Least.f; rw [k2]; rfl, ?_⟩
  by_cases he : e = 0
  · have L := k3 he
    exact rgraph (by omega) L.few fun n hn => (L.nodes n hn).1.args
  · obtain ⟨_, rfl⟩ := k5 he
    exact rgraph (by omega) (by simp) fun n hn => by cases hn
theorem puts_l0 {m : Nat} (hm : 2 ^ 41 ≤ m) {L : List VTree} (h12 : L.length ≤ 12) (h0 : ∀ t ∈ L, Ok0 t) : ∀ (f i : Nat), L.length - i < f → i ≤ L.length → ∃ x, law20_PicklePuts.l0 m L f (i : Int) = some (.inr x)
  | 0, i, hf, _ => absurd hf (by omega)
  | f + 1, i, hf, hi => by
    unfold law20_PicklePuts.l0
    by_cases h : i < L.length
    · obtain ⟨x, ih⟩ := puts_l0 hm h12 h0 f (i + 1) (by omega) (by omega)
      obtain ⟨s, e, k1, k2, k3⟩ := least_graph hm (h0 _ (List.getElem_mem h))
      refine ⟨x, ?_⟩
      rw [if_pos (by simp only [decide_eq_true_eq]; omega), ix_at h, Option.bind_some, k1, Option.bind_some, Option.bind_some, k2, Option.bind_some]
      dsimp only
      rw [k3, Option.bind_some, if_neg (by simp), if_neg (by simp), i64_id (by omega) (by omega), show (i : Int) + 1 = ((i + 1 : Nat) : Int) by omega, ih]
    · exact ⟨i, by rw [if_neg (by simp only [decide_eq_true_eq]; omega)]⟩
theorem puts_true {m : Nat} (hm : 2 ^ 63 ≤ m) {L : List VTree} (hl : ∀ t ∈ L, t.nodes.length < 2 ^ 63) (h0 : ∀ t ∈ L, Ok0 t) : law20_PicklePuts.f m L = some true := by
  have p41 : (2 : Nat) ^ 41 = 2199023255552 := by decide
  have p63 : (2 : Nat) ^ 63 = 9223372036854775808 := by decide
  obtain ⟨b, k1, k2⟩ := great_spec (m := m) (by omega) hl
  unfold law20_PicklePuts.f
  rw [k1, Option.bind_some]
  cases b with
  | true => rfl
  | false =>
    have h12 := k2 rfl
    obtain ⟨r, r1, r2⟩ := put_both (m := m) (by omega) h0
    obtain ⟨x, k3⟩ := puts_l0 (m := m) (by omega) h12 h0 m 0 (by omega) (by omega)
    have k3 : law20_PicklePuts.l0 m L m (0 : Int) = _ := k3
    rw [if_neg (by simp), r1, Option.bind_some, r2, Option.bind_some, k3, Option.bind_some]
    dsimp only
    rw [if_pos (by simp), if_pos (by simp)]
    rfl
end Go.Proofs.YtmekcfdllhphlaaDoor

namespace Go.Proofs.YtmekcfdllhphlaaDoor
open Go Go.R
open Go.IntKind (i64 u64 u8 u32)
def Nf (xs ys : List AV) : Prop := noIds xs = true ∧ unexs xs = ys
theorem noIds_app : ∀ a b : List AV, noIds (a ++ b) = (noIds a && noIds b)
  | [], b => rfl
  | x :: a, b => by rw [List.cons_append, noIds, noIds, noIds_app, Bool.and_assoc]
theorem unexs_app : ∀ a b : List AV, unexs (a ++ b) = unexs a ++ unexs b
  | [], b => rfl
  | x :: a, b => by rw [List.cons_append, unexs, unexs, unexs_app, List.cons_append]
theorem Nf.app {a b c d : List AV} (h : Nf a c) (k : Nf b d) : Nf (a ++ b) (c ++ d) := ⟨by rw [noIds_app, h.1, k.1]; rfl, by rw [unexs_app, h.2, k.2]⟩
theorem Nf.nil : Nf [] [] := ⟨rfl, rfl⟩
theorem Nf.fz {α : Type} {E : Enc α} {cs : List AV} {l : List α} {n : Nat} {b : Bool} (h : Nf cs (E.l l)) (hn : n = l.length) : Nf [.fz cs n b] [E.fz l] := by
  subst hn
  exact ⟨by show (AV.noId (.fz cs l.length b) && noIds []) = true; simp [AV.noId, h.1, noIds], by show [AV.fz (unexs cs) l.length false] = _; rw [h.2]; rfl⟩
theorem Nf.nils {α : Type} {E : Enc α} : Nf [.nils] [E.fz []] := ⟨rfl, rfl⟩
theorem nf_slice {α : Type} {E : Enc α} {Pr : α → Prop} : ∀ {els : List (List AV)}, (∀ el ∈ els, ∃ a, Nf el (E.f a) ∧ Pr a) → ∃ l : List α, Nf els.flatten (E.l l) ∧ l.length = els.length ∧ ∀ a ∈ l, Pr a
  | [], _ => ⟨[], Nf.nil, rfl, fun a ha => by cases ha⟩
  | el :: els, h => by
    obtain ⟨a, h1, h2⟩ := h el (by simp)
    obtain ⟨l, h3, h4, h5⟩ := nf_slice (E := E) (Pr := Pr) (els := els) fun e he => h e (by simp [he])
    refine ⟨a :: l, ?_, by simp [h4], fun x hx => ?_⟩
    · rw [List.flatten_cons, Enc.l_cons]; exact h1.app h3
    · rcases List.mem_cons.1 hx with rfl | hx
      · exact h2
      · exact h5 x hx
theorem fit_sl {α : Type} {E : Enc α} {Pr : α → Prop} {n t e : Nat} {xs : List AV} (ht : Tryd.prog.underlying t = some (.slice e)) (h : Fits Tryd.prog (n + 1) t xs)
    (he : ∀ el, Fits Tryd.prog n e el → ∃ a, Nf el (E.f a) ∧ Pr a) : ∃ l : List α, Nf xs [E.fz l] ∧ l.length ≤ maxLen ∧ ∀ a ∈ l, Pr a := by
  unfold Fits at h
  rw [ht] at h
  rcases h with rfl | ⟨els, rfl, h1, h⟩
  · exact ⟨[], Nf.nils, by simp, fun a ha => by cases ha⟩
  · obtain ⟨l, h2, h3, h4⟩ := nf_slice (E := E) (Pr := Pr) fun el hel => he el (h el hel).2
    exact ⟨l, h2.fz h3.symm, by omega, h4⟩
theorem fit_in {n : Nat} {xs : List AV} (h : Fits Tryd.prog (n + 1) 3 xs) : ∃ z : Int, Nf xs (eInt.f z) ∧ z < 2 ^ 63 := by
  unfold Fits at h
  rw [Tryd.underlying3] at h
  obtain ⟨z, rfl, _, hz⟩ := h
  have hz : z ≤ 9223372036854775807 := hz
  exact ⟨z, ⟨rfl, rfl⟩, by omega⟩
theorem fit_node {n : Nat} {xs : List AV} (h : Fits Tryd.prog (n + 3) 48 xs) : ∃ v : VNode, Nf xs (eNode.f v) ∧ v.int < 2 ^ 63 := by
  unfold Fits at h
  rw [Tryd.underlying48] at h
  obtain ⟨a, b, rfl, _, h1, h⟩ := h
  obtain ⟨c, d, rfl, _, h2, h⟩ := h
  obtain ⟨e, f, rfl, _, h3, h⟩ := h
  obtain ⟨g, k, rfl, _, h4, h⟩ := h
  have h : k = [] := h
  subst h
  obtain ⟨z1, i1, _⟩ := fit_in h1
  obtain ⟨z2, i2, j2⟩ := fit_in h2
  obtain ⟨l, i4, _, _⟩ := fit_sl (E := eInt) (Pr := fun z => z < 2 ^ 63) Tryd.underlying42 h4 fun el h => fit_in h
  have h3 : ∃ s : ByteArray, e = [.str s] := by
    unfold Fits at h3
    rw [Tryd.underlying9] at h3
    obtain ⟨s, hs, _⟩ := h3
    exact ⟨s, hs⟩
  obtain ⟨s, rfl⟩ := h3
  exact ⟨⟨z1, z2, s, l⟩, i1.app (i2.app (Nf.app (a := [.str s]) (c := [.str s]) ⟨rfl, rfl⟩ (i4.app Nf.nil))), j2⟩
def TreeIn (t : VTree) : Prop := t.nodes.length < 2 ^ 63 ∧ Ok0 t
theorem fit_tree {n : Nat} {xs : List AV} (h : Fits Tryd.prog (n + 5) 31 xs) : ∃ t : VTree, Nf xs (eTree.f t) ∧ TreeIn t := by
  unfold Fits at h
  rw [Tryd.underlying31] at h
  obtain ⟨a, b, rfl, _, h1, h⟩ := h
  obtain ⟨c, d, rfl, _, h2, h⟩ := h
  have h : d = [] := h
  subst h
  obtain ⟨l, i1, k1, k2⟩ := fit_sl (E := eNode) (Pr := fun v => v.int < 2 ^ 63) Tryd.underlying29 h1 fun el h => fit_node h
  obtain ⟨z, i2, _⟩ := fit_in h2
  refine ⟨⟨l, z⟩, i1.app (i2.app Nf.nil), ?_, fun v hv _ => k2 v hv⟩
  have : maxLen < 2 ^ 63 := by decide
  show l.length < _
  omega
theorem fit_one {t e n : Nat} {xs : List AV} (ht : Tryd.prog.underlying t = some (.slice e)) (h : Fits Tryd.prog (n + 1) t xs) : ∃ x, xs = [x] ∧ (x = .nils ∨ ∃ cs n b, x = .fz cs n b) := by
  unfold Fits at h
  rw [ht] at h
  rcases h with rfl | ⟨els, rfl, _⟩
  · exact ⟨_, rfl, .inl rfl⟩
  · exact ⟨_, rfl, .inr ⟨_, _, _, rfl⟩⟩
theorem fit_trees {n : Nat} {xs : List AV} (h : Fits Tryd.prog (n + 6) 22 xs) : ∃ x l, xs = [x] ∧ (∀ h, FrzS bigK h [x] [eTree.fz l]) ∧ ∀ t ∈ l, TreeIn t := by
  obtain ⟨l, h1, _, h2⟩ := fit_sl (E := eTree) (Pr := TreeIn) Tryd.underlying22 h fun el h => fit_tree h
  obtain ⟨x, rfl, hx⟩ := fit_one Tryd.underlying22 h
  have g1 : x.noId = true := by have := h1.1; simpa [noIds] using this
  have g2 : x.unex = eTree.fz l := by have := h1.2; simpa [unexs] using this
  have hf : ∀ hp, FrzA 0 hp x (eTree.fz l) := fun hp => fr_atom g1 (by rcases hx with rfl | ⟨cs, n, b, rfl⟩ <;> exact fun _ => rfl) g2
  exact ⟨x, l, rfl, fun hp => frs (fr_cons (hf hp) fr_nil), h2⟩
end Go.Proofs.YtmekcfdllhphlaaDoor

namespace Go.Proofs.YtmekcfdllhphlaaDoor
open Go Go.R Go.Shelf
def ren : Ren := {
  f := (fun x => match x with | 178 => 101 | 179 => 53 | 181 => 98 | 184 => 99 | 251 => 72 | 252 => 73 | 290 => 100 | 324 => 117 | n => n),
  t := (fun x => match x with | 0 => 0 | 3 => 3 | 4 => 4 | 5 => 5 | 9 => 9 | 20 => 20 | 37 => 25 | 75 => 85 | 80 => 93 | 91 => 79 | 93 => 81 | 130 => 104 | 131 => 100 | n => n),
  g := (fun x => match x with | 14 => 0 | n => n) }
theorem lays179 : LaysM.n179 Tryd.prog ren := {
  mixed := by kernel_rfl,
  f179 := Tryd.func53.trans (congrArg some (by kernel_rfl)),
  f181 := Tryd.func98.trans (congrArg some (by kernel_rfl)),
  f184 := Tryd.func99.trans (congrArg some (by kernel_rfl)),
  f251 := Tryd.func72.trans (congrArg some (by kernel_rfl)),
  f252 := Tryd.func73.trans (congrArg some (by kernel_rfl)),
  f290 := Tryd.func100.trans (congrArg some (by kernel_rfl)),
  f324 := Tryd.func117.trans (congrArg some (by kernel_rfl)),
  t0 := Tryd.underlying0,
  a0 := Tryd.isAgg0,
  z0 := Tryd.sizeOf0,
  v0 := Tryd.zeroValue0,
  t3 := Tryd.underlying3,
  a3 := Tryd.isAgg3,
  z3 := Tryd.sizeOf3,
  v3 := Tryd.zeroValue3,
  t4 := Tryd.underlying4,
  a4 := Tryd.isAgg4,
  z4 := Tryd.sizeOf4,
  v4 := Tryd.zeroValue4,
  t5 := Tryd.underlying5,
  a5 := Tryd.isAgg5,
  z5 := Tryd.sizeOf5,
  v5 := Tryd.zeroValue5,
  t20 := Tryd.underlying20,
  a20 := Tryd.isAgg20,
  z20 := Tryd.sizeOf20,
  v20 := Tryd.zeroValue20,
  t37 := Tryd.underlying25,
  a37 := Tryd.isAgg25,
  z37 := Tryd.sizeOf25,
  v37 := Tryd.zeroValue25,
  t75 := Tryd.underlying85,
  a75 := Tryd.isAgg85,
  z75 := Tryd.sizeOf85,
  v75 := Tryd.zeroValue85,
  t91 := Tryd.underlying79,
  a91 := Tryd.isAgg79,
  z91 := Tryd.sizeOf79,
  v91 := Tryd.zeroValue79,
  t93 := Tryd.underlying81,
  a93 := Tryd.isAgg81,
  z93 := Tryd.sizeOf81,
  v93 := Tryd.zeroValue81,
  t130 := Tryd.underlying104,
  a130 := Tryd.isAgg104,
  z130 := Tryd.sizeOf104,
  v130 := Tryd.zeroValue104,
  t131 := Tryd.underlying100,
  a131 := Tryd.isAgg100,
  z131 := Tryd.sizeOf100,
  v131 := Tryd.zeroValue100,
  g14 := by kernel_rfl,
  t9 := Tryd.underlying9,
  a9 := Tryd.isAgg9,
  z9 := Tryd.sizeOf9,
  v9 := Tryd.zeroValue9,
  t80 := Tryd.underlying93,
  a80 := Tryd.isAgg93,
  z80 := Tryd.sizeOf93,
  v80 := Tryd.zeroValue93,
  i0 := by kernel_rfl,
  i3 := by kernel_rfl,
  i4 := by kernel_rfl,
  i5 := by kernel_rfl,
  i9 := by kernel_rfl,
  i20 := by kernel_rfl,
  i37 := by kernel_rfl,
  i75 := by kernel_rfl,
  i80 := by kernel_rfl,
  i91 := by kernel_rfl,
  i93 := by kernel_rfl,
  i130 := by kernel_rfl,
  i131 := by kernel_rfl,
  m14 := by kernel_rfl }
theorem lays178 : LaysM.n178 Tryd.prog ren := {
  mixed := by kernel_rfl,
  f178 := Tryd.func101.trans (congrArg some (by kernel_rfl)),
  f181 := Tryd.func98.trans (congrArg some (by kernel_rfl)),
  f184 := Tryd.func99.trans (congrArg some (by kernel_rfl)),
  f251 := Tryd.func72.trans (congrArg some (by kernel_rfl)),
  f252 := Tryd.func73.trans (congrArg some (by kernel_rfl)),
  f290 := Tryd.func100.trans (congrArg some (by kernel_rfl)),
  f324 := Tryd.func117.trans (congrArg some (by kernel_rfl)),
  t0 := Tryd.underlying0,
  a0 := Tryd.isAgg0,
  z0 := Tryd.sizeOf0,
  v0 := Tryd.zeroValue0,
  t3 := Tryd.underlying3,
  a3 := Tryd.isAgg3,
  z3 := Tryd.sizeOf3,
  v3 := Tryd.zeroValue3,
  t4 := Tryd.underlying4,
  a4 := Tryd.isAgg4,
  z4 := Tryd.sizeOf4,
  v4 := Tryd.zeroValue4,
  t9 := Tryd.underlying9,
  a9 := Tryd.isAgg9,
  z9 := Tryd.sizeOf9,
  v9 := Tryd.zeroValue9,
  t20 := Tryd.underlying20,
  a20 := Tryd.isAgg20,
  z20 := Tryd.sizeOf20,
  v20 := Tryd.zeroValue20,
  t37 := Tryd.underlying25,
  a37 := Tryd.isAgg25,
  z37 := Tryd.sizeOf25,
  v37 := Tryd.zeroValue25,
  t75 := Tryd.underlying85,
  a75 := Tryd.isAgg85,
  z75 := Tryd.sizeOf85,
  v75 := Tryd.zeroValue85,
  t91 := Tryd.underlying79,
  a91 := Tryd.isAgg79,
  z91 := Tryd.sizeOf79,
  v91 := Tryd.zeroValue79,
  t93 := Tryd.underlying81,
  a93 := Tryd.isAgg81,
  z93 := Tryd.sizeOf81,
  v93 := Tryd.zeroValue81,
  t130 := Tryd.underlying104,
  a130 := Tryd.isAgg104,
  z130 := Tryd.sizeOf104,
  v130 := Tryd.zeroValue104,
  t131 := Tryd.underlying100,
  a131 := Tryd.isAgg100,
  z131 := Tryd.sizeOf100,
  v131 := Tryd.zeroValue100,
  g14 := by kernel_rfl,
  t5 := Tryd.underlying5,
  a5 := Tryd.isAgg5,
  z5 := Tryd.sizeOf5,
  v5 := Tryd.zeroValue5,
  t80 := Tryd.underlying93,
  a80 := Tryd.isAgg93,
  z80 := Tryd.sizeOf93,
  v80 := Tryd.zeroValue93,
  i0 := by kernel_rfl,
  i3 := by kernel_rfl,
  i4 := by kernel_rfl,
  i5 := by kernel_rfl,
  i9 := by kernel_rfl,
  i20 := by kernel_rfl,
  i37 := by kernel_rfl,
  i75 := by kernel_rfl,
  i80 := by kernel_rfl,
  i91 := by kernel_rfl,
  i93 := by kernel_rfl,
  i130 := by kernel_rfl,
  i131 := by kernel_rfl,
  m14 := by kernel_rfl }
theorem fits : Fit Tryd.prog := fit_of (by kernel_rfl) (by kernel_rfl)
theorem enter53 : ∀ (vs : Array Value) (w : World), (callFunc (ren.f 179) vs).run Tryd.prog w = .ok (.enter (ren.f 179) vs) w :=
  callFunc_enter (c := codeOf Tryd.f53) Tryd.func53 (by kernel_rfl) (by decide +kernel)
theorem enter101 : ∀ (vs : Array Value) (w : World), (callFunc (ren.f 178) vs).run Tryd.prog w = .ok (.enter (ren.f 178) vs) w :=
  callFunc_enter (c := codeOf Tryd.f101) Tryd.func101 (by kernel_rfl) (by decide +kernel)
noncomputable def intrB : FuncId → Option (List AV → AHeap → Option (AV × AHeap)) := fun f => if f = 53 then some (wbA 5) else if f = 101 then some (wsA 5) else none
theorem intrB_ok : IntrOK Tryd.prog intrB := intr_cons (f0 := 53) (wb_ok lays179 enter53) wb_steady (intr_cons (f0 := 101) (ws_ok lays178 enter101) ws_steady intr_none)
end Go.Proofs.YtmekcfdllhphlaaDoor

namespace Go.Proofs.YtmekcfdllhphlaaDoor
open Go Go.R
open Go.IntKind (i64 u64 u8 u32)
def annQ : Nat → Ann
  | 3 => ann3
  | 12 => ann12
  | 13 => { keep := [0, 1, 2, 3, 4, 5, 6, 7, 8, 9, 10], locs := [9] }
  | 14 => ann14
  | 15 => ann15
  | 16 => ann16
  | 17 => ann17
  | 18 => ann18
  | 19 => mkA [0, 2, 3, 4, 5, 6, 7, 8, 9, 10, 11, 12, 15, 33, 56, 70, 93, 106] [8] [262142, 258046, 262137, 253950, 262137, 262134, 262118, 262086, 262022, 245638, 262022, 261894, 261638, 261126, 228358, 261126, 261126, 262022, 196590, 262137, 259054, 131055, 262137, 262137] [(17, [(8, some 0, 0)]), (20, [(5, none, 0)])] [(6, [(5, none, 2)]), (11, [(8, some 0, 4)])]
  | 21 => ann21
  | 23 => ann23
  | 25 => ann25
  | 28 => mkA [0, 2] [2] [0, 1] [] []
  | 29 => mkA [0] [0] [] [] []
  | 30 => mkA [0, 1, 4] [] [4, 3] [] []
  | 31 => ann31
  | 32 => ann32
  | 33 => ann33
  | 34 => ann34
  | 35 => ann35
  | 36 => ann36
  | 37 => ann37
  | 38 => ann38
  | 39 => ann39
  | 40 => ann40
  | 41 => mkA [0, 1, 4] [] [4, 3] [] []
  | 42 => ann42
  | 43 => mkA [0, 2, 3, 4, 5, 10, 24, 36] [] [254, 250, 242, 210, 242, 226, 162, 251, 226, 114, 253] [] []
  | 44 => mkA [0, 2, 3, 4, 5, 11, 15, 20, 29, 35, 40, 48, 53, 54, 55] [2, 3] [32764, 32760, 32728, 32761, 32664, 32761, 32600, 32753, 32753, 32497, 32761, 32216, 32761, 31736, 32760, 32744, 30696, 32744, 20472, 4088, 20472, 20472, 32765] [(22, [(3, some 3, 0)])] [(1, [(3, some 3, 1)])]
  | 45 => ann45
  | 47 => ann47
  | 48 => ann48
  | 51 => ann51
  | 52 => ann52
  | 53 => { keep := [0, 1, 4, 5, 6, 16], locs := [] }
  | 54 => ann54
  | 55 => ann55
  | 56 => { keep := [0, 2], locs := [] }
  | 57 => ann57
  | 58 => ann58
  | 59 => mkA [0, 2, 3, 9] [] [14, 6, 15, 13, 10, 11, 13] [] []
  | 60 => mkA [0, 2, 3, 4, 19] [] [30, 26, 10, 31, 29, 18, 23, 29] [] []
  | 61 => ann61
  | 62 => ann62
  | 65 => ann65
  | 67 => ann67
  | 68 => ann68
  | 69 => ann69
  | 74 => ann74
  | 75 => ann75
  | 76 => ann76
  | 77 => ann77
  | 78 => ann78
  | 79 => ann79
  | 80 => ann80
  | 81 => ann81
  | 82 => ann82
  | 83 => ann83
  | 84 => ann84
  | 85 => ann85
  | 86 => ann86
  | 101 => { keep := [0, 1, 4, 5, 6, 7, 19], locs := [] }
  | 102 => ann102
  | 103 => ann103
  | 104 => ann104
  | 105 => ann105
  | 106 => ann106
  | 107 => ann107
  | 108 => ann108
  | 109 => ann109
  | 110 => ann110
  | 111 => ann111
  | 118 => ann118
  | 119 => ann119
  | 120 => ann120
  | 122 => ann122
  | 123 => ann123
  | _ => { keep := [], locs := [] }
def deepQ : Nat := 18014398509481984
theorem deepQ_ok : bigN + bigK ≤ deepQ := by decide
def pureQ : Nat → Option Nat
  | 3 => some deepQ
  | 12 => some deepQ
  | 13 => some deepQ
  | 14 => some deepQ
  | 15 => some deepQ
  | 16 => some deepQ
  | 17 => some deepQ
  | 18 => some deepQ
  | 19 => some deepQ
  | 21 => some deepQ
  | 23 => some deepQ
  | 25 => some deepQ
  | 28 => some deepQ
  | 29 => some deepQ
  | 30 => some deepQ
  | 31 => some deepQ
  | 33 => some deepQ
  | 35 => some deepQ
  | 36 => some deepQ
  | 37 => some deepQ
  | 39 => some deepQ
  | 41 => some deepQ
  | 42 => some deepQ
  | 45 => some deepQ
  | 47 => some deepQ
  | 48 => some deepQ
  | 57 => some deepQ
  | 62 => some deepQ
  | 65 => some deepQ
  | 67 => some deepQ
  | 69 => some deepQ
  | 75 => some deepQ
  | 76 => some deepQ
  | 77 => some deepQ
  | 80 => some deepQ
  | 81 => some deepQ
  | 82 => some deepQ
  | 83 => some deepQ
  | 86 => some deepQ
  | 102 => some deepQ
  | 103 => some deepQ
  | 104 => some deepQ
  | 105 => some deepQ
  | 106 => some deepQ
  | 108 => some deepQ
  | 109 => some deepQ
  | 111 => some deepQ
  | 118 => some deepQ
  | _ => none
def M : Nat := 18446744073709551616
noncomputable def toldP : Tells := { ann := annQ, intr := intrB, pure := fun _ => none }
theorem has_nil {h : AHeap} (hp : 0 < h.next) : Has h [] := ⟨fun j i c h => by simp at h, fun j j' i c c' h => by simp at h, hp⟩
theorem g56_eq : codeOf Tryd.f56 = (.seq (sub [0] (codeOf Tryd.f56)) (.seq (sub [1, 0] (codeOf Tryd.f56)) .ret)) := by kernel_rfl
theorem bytes_body {cf : CallF} {id i n : Nat} {h : AHeap} {cs : List AV} (h1 : h.get id = some (.cells [.rs i 0 n 1, .int .i64 0, .int .i8 0])) :
    ∃ r h', bodyA Tryd.prog annQ cf M 56 [.ptr id 0] h = some (r, h') ∧ r = .rs i 0 n 1 ∧ h' = h := by
  refine body_of_ends2 (fn := Tryd.f56) (A := { keep := [0, 2], locs := [] }) rfl Tryd.func56 (by kernel_rfl) (by kernel_rfl) ?_
  refine ends_fin (Q := fun s => resultA Tryd.prog (s.open { keep := [0, 2], locs := [] }) Tryd.f56.results.toList = some (.rs i 0 n 1) ∧ s.h = h) (fun _ _ ⟨h1, h2, h3⟩ => ⟨h1, _, h2, rfl, h3⟩) ?_
  refine ends_of_eq g56_eq ?_
  show Enz _ cf _ M _ ⟨[.ptr id 0, .any], [], h⟩ _
  refine ends_seq ?_
  refine ends_reg (fs := []) (zs := []) (st' := ⟨[.ptr id 0, .nils], [], h⟩) (p := (True) ∧ True) (by kernel_rfl) ⟨trivial, trivial⟩ ?_
  refine ends_seq ?_
  refine ends_reg (fs := []) (zs := [(3, .rs i 0 n 1, none), (7, .int .i64 0, none), (8, .rs i 0 n 1, none)]) (st' := ⟨[.ptr id 0, .rs i 0 n 1], [], h⟩) (p := (True) ∧ loadH Tryd.prog h 25 (.ptr id 0) = some (.rs i 0 n 1) ∧ loadH Tryd.prog h 3 (.ptr id 1) = some (.int .i64 0) ∧ sliceA Tryd.prog 25 (.rs i 0 n 1) (some (.int .i64 0)) none none = some (.rs i 0 n 1) ∧ True) (by kernel_rfl) ⟨trivial, ⟨?_, ?_, ?_, trivial⟩⟩ ?_
  · simp only [loadH, loadA, h1, Option.bind_some]; kernel_rfl
  · simp only [loadH, loadA, h1, Option.bind_some]; kernel_rfl
  · have e1 : Tryd.prog.underlying 25 = some (.slice 5) := Tryd.underlying25
    have e2 : szOf Tryd.prog 5 = some 1 := by kernel_rfl
    simp [sliceA, e1, e2, boundsA]
  refine ends_ret ?_
  exact ⟨.inl rfl, by kernel_rfl, rfl⟩
noncomputable def intrQ : FuncId → Option (List AV → AHeap → Option (AV × AHeap)) := fun f => if f = 56 then some (fun args h => (callA Tryd.prog toldP M 1 56 args h).bind plainA) else intrB f
theorem intrQ_ok : IntrOK Tryd.prog intrQ := intr_cons (plain_ok (callA_ok fits (T := toldP) intrB_ok M 1) 56) (plain_steady (callA_steady (T := toldP) intrB_ok M 1) 56) intrB_ok
noncomputable def toldQ : Tells := { ann := annQ, intr := intrQ, pure := pureQ }
noncomputable def cfQ : CallF := callW Tryd.prog toldQ M
theorem cfQ_ok : CallOK Tryd.prog cfQ := callW_ok fits (T := toldQ) intrQ_ok
theorem j53 : S53 cfQ M := fun args h => fx_intr_eq (T := toldQ) rfl
theorem j101 : S101 cfQ M := fun args h => fx_intr_eq (T := toldQ) rfl
theorem j56 : S56 cfQ M := by
  intro id i n cs h h1 h2 h3 h4 h5
  refine fx_intr (T := toldQ) rfl ?_
  obtain ⟨r, h', hb, rfl, rfl⟩ := bytes_body (cf := callA Tryd.prog toldP M 0) (cs := cs) h1
  have : callA Tryd.prog toldP M 1 56 [.ptr id 0] h' = some (.rs i 0 n 1, h') := hb
  simp only [this, Option.bind_some, plainA, h2]
end Go.Proofs.YtmekcfdllhphlaaDoor

namespace Go.Proofs.YtmekcfdllhphlaaDoor
open Go Go.R
open Go.IntKind (i64 u64 u8 u32)
theorem awake_run : (bodyA Tryd.prog annQ (callA Tryd.prog toldQ M 98) M 13 [] heap0).map (fun x => x.1) = some (.bool true) := by kernel_rfl
theorem j13 : S13 cfQ M := by
  intro r H h xs hx
  have H : some true = some r := H
  cases H
  obtain ⟨⟨x, h'⟩, hb, e⟩ := Option.map_eq_some_iff.1 awake_run
  dsimp only at e
  subst e
  obtain ⟨l, h1, h2⟩ := bodyA_cnt (P := Tryd.prog) annQ M 13 [] heap0 _ _ hb
  have hb := h2 cfQ fun e he => callW_iff.2 ⟨_, h1 e he⟩
  exact fx_fresh (T := toldQ) (deep := deepQ) rfl rfl deepQ_ok hx ⟨_, _, hb, frb (fb_bool)⟩
end Go.Proofs.YtmekcfdllhphlaaDoor

namespace Go.Proofs.YtmekcfdllhphlaaDoor
open Go Go.R
open Go.IntKind (i64 u64 u8 u32)
theorem j12 : S12 cfQ M := by
  intro l0 r H h xs hx
  exact fx_fresh (T := toldQ) (deep := deepQ) rfl rfl deepQ_ok hx (law20_Great_body (cf := cfQ) (m := M) (ann := annQ) rfl  l0 heap0 [] has_heap0 H)
theorem j18 : S18 cfQ M := by
  intro a0 b0 r H h xs hx
  exact fx_fresh (T := toldQ) (deep := deepQ) rfl rfl deepQ_ok hx (ref20_Graph_body (cf := cfQ) (m := M) (ann := annQ) rfl  a0 b0 heap0 [] has_heap0 H)
theorem j21 : S21 cfQ M := by
  intro b0 r H h xs hx
  exact fx_fresh (T := toldQ) (deep := deepQ) rfl rfl deepQ_ok hx (pickle_Sum_body (cf := cfQ) (m := M) (ann := annQ) rfl  b0 heap0 [] has_heap0 H)
theorem j23 : S23 cfQ M := by
  intro b0 r H h xs hx
  exact fx_fresh (T := toldQ) (deep := deepQ) rfl rfl deepQ_ok hx (ref20_Sum_body (cf := cfQ) (m := M) (ann := annQ) rfl  b0 heap0 [] has_heap0 H)
theorem j35 : S35 cfQ M := by
  intro n0 r H h xs hx
  exact fx_fresh (T := toldQ) (deep := deepQ) rfl rfl deepQ_ok hx (pickle_named_body (cf := cfQ) (m := M) (ann := annQ) rfl  n0 heap0 [] has_heap0 H)
theorem j38 : S38 cfQ M := by
  intro n0 r H h L   o  xs hx
  obtain ⟨r', h', hb, ir0, rfl, ho⟩ := ref20_number_body (cf := cfQ) (m := M) (ann := annQ) rfl  n0 h L  o H
  exact ⟨ir0, h', fx_im (T := toldQ) rfl rfl hx hb, ho⟩
theorem j39 : S39 cfQ M := by
  intro t0 r H h xs hx
  exact fx_fresh (T := toldQ) (deep := deepQ) rfl rfl deepQ_ok hx (ref20_named_body (cf := cfQ) (m := M) (ann := annQ) rfl  t0 heap0 [] has_heap0 H)
theorem j42 : S42 cfQ M := by
  intro b0 r H h xs hx
  exact fx_fresh (T := toldQ) (deep := deepQ) rfl rfl deepQ_ok hx (pickle_check_body (cf := cfQ) (m := M) (ann := annQ) rfl j21 b0 heap0 [] has_heap0 H)
theorem j51 : S51 cfQ M := by
  intro s0 f0 r H h hpos g1_ cap1_ hc1_ Hp1_ xs hx
  exact fx_ro (T := toldQ) rfl rfl hx (IndexFT_body (cf := cfQ) (m := M) (ann := annQ) rfl  s0 f0 h [] g1_ cap1_  hc1_ Hp1_ (has_nil hpos) H)
theorem j52 : S52 cfQ M := by
  intro s0 f0 r H h hpos g1_ cap1_ hc1_ Hp1_ xs hx
  exact fx_ro (T := toldQ) rfl rfl hx (IndexFN_body (cf := cfQ) (m := M) (ann := annQ) rfl  s0 f0 h [] g1_ cap1_  hc1_ Hp1_ (has_nil hpos) H)
theorem j54 : S54 cfQ M := by
  intro w0 n0 r H h L  ad_w0 is_w0_0 o  xs hx
  obtain ⟨r', h', hb, iw0_0, rfl, ho⟩ := wr_number_body (cf := cfQ) (m := M) (ann := annQ) rfl j53 w0 n0 h L ad_w0 is_w0_0  o H
  exact ⟨iw0_0, h', fx_im (T := toldQ) rfl rfl hx hb, ho⟩
theorem j58 : S58 cfQ M := by
  intro s0 r H h L   o  xs hx
  obtain ⟨r', h', hb, ir0, rfl, ho⟩ := ref20_text_body (cf := cfQ) (m := M) (ann := annQ) rfl j38 s0 h L  o H
  exact ⟨ir0, h', fx_im (T := toldQ) rfl rfl hx hb, ho⟩
theorem j68 : ∀ kk, S68 cfQ M kk
  | 0 => by
    intro i0 x0 x1 x2 x3 r H h L  ad_x0 im_x0 ad_x1 ad_x2 is_x2_0 ad_x3 ad_x4 o  xs hx
    cases H
  | kk + 1 => by
    intro i0 x0 x1 x2 x3 r H h L  ad_x0 im_x0 ad_x1 ad_x2 is_x2_0 ad_x3 ad_x4 o  xs hx
    obtain ⟨r', h', hb, iw3_0, rfl, ho⟩ := tree_least_1_body (cf := cfQ) (m := M) (ann := annQ) rfl  i0 x0 x1 x2 x3 h L ad_x0 im_x0 ad_x1 ad_x2 is_x2_0 ad_x3 ad_x4  (j68 kk) o H
    exact ⟨iw3_0, h', fx_im (T := toldQ) rfl rfl hx hb, ho⟩
theorem j74 : S74 cfQ M := by
  intro w0 s0 r H h L  ad_w0 is_w0_0 o  xs hx
  obtain ⟨r', h', hb, iw0_0, rfl, ho⟩ := wr_text_body (cf := cfQ) (m := M) (ann := annQ) rfl j54 j101 w0 s0 h L ad_w0 is_w0_0  o H
  exact ⟨iw0_0, h', fx_im (T := toldQ) rfl rfl hx hb, ho⟩
theorem j75 : S75 cfQ M := by
  intro l0 root0 r H h xs hx
  exact fx_fresh (T := toldQ) (deep := deepQ) rfl rfl deepQ_ok hx (ref01_Reached_body (cf := cfQ) (m := M) (ann := annQ) rfl  l0 root0 heap0 [] has_heap0 H)
theorem j79 : S79 cfQ M := by
  intro a0 x0 r H h L qad_x0_ ad_x0 o hqad_x0_
  exact fx_ro (T := toldQ) rfl rfl (can_cons (can_pure (pu_int)) (can_cons (rfl) (can_nil))) (tree_node_1_body (cf := cfQ) (m := M) (ann := annQ) rfl  a0 x0 h L  hqad_x0_ o H)
theorem j80 : S80 cfQ M := by
  intro s0 r H h xs hx
  exact fx_fresh (T := toldQ) (deep := deepQ) rfl rfl deepQ_ok hx (tree_Names_body (cf := cfQ) (m := M) (ann := annQ) rfl  s0 heap0 [] has_heap0 H)
theorem j82 : S82 cfQ M := by
  intro vals0 r H h xs hx
  exact fx_fresh (T := toldQ) (deep := deepQ) rfl rfl deepQ_ok hx (cmp_Or_int_body (cf := cfQ) (m := M) (ann := annQ) rfl  vals0 heap0 [] has_heap0 H)
theorem j102 : S102 cfQ M := by
  intro n0 done0 r H h xs hx
  exact fx_fresh (T := toldQ) (deep := deepQ) rfl rfl deepQ_ok hx (ref01_ready_body (cf := cfQ) (m := M) (ann := annQ) rfl  n0 done0 heap0 [] has_heap0 H)
theorem j104 : S104 cfQ M := by
  intro a0 b0 r H h xs hx
  exact fx_fresh (T := toldQ) (deep := deepQ) rfl rfl deepQ_ok hx (ref01_alike_body (cf := cfQ) (m := M) (ann := annQ) rfl  a0 b0 heap0 [] has_heap0 H)
theorem j105 : S105 cfQ M := by
  intro a0 b0 class0 r H h xs hx
  exact fx_fresh (T := toldQ) (deep := deepQ) rfl rfl deepQ_ok hx (ref01_sameArgs_body (cf := cfQ) (m := M) (ann := annQ) rfl  a0 b0 class0 heap0 [] has_heap0 H)
theorem j107 : S107 cfQ M := by
  intro s0 f0 r H h hpos g1_ cap1_ hc1_ Hp1_ xs hx
  exact fx_ro (T := toldQ) rfl rfl hx (IndexFI_body (cf := cfQ) (m := M) (ann := annQ) rfl  s0 f0 h [] g1_ cap1_  hc1_ Hp1_ (has_nil hpos) H)
theorem j108 : S108 cfQ M := by
  intro x0 r H h xs hx
  exact fx_fresh (T := toldQ) (deep := deepQ) rfl rfl deepQ_ok hx (cmp_isNaN_int_body (cf := cfQ) (m := M) (ann := annQ) rfl  x0 heap0 [] has_heap0 H)
theorem j109 : S109 cfQ M := by
  intro x0 r H h xs hx
  exact fx_fresh (T := toldQ) (deep := deepQ) rfl rfl deepQ_ok hx (cmp_isNaN_string_body (cf := cfQ) (m := M) (ann := annQ) rfl  x0 heap0 [] has_heap0 H)
theorem j111 : S111 cfQ M := by
  intro c0 r H h xs hx
  exact fx_fresh (T := toldQ) (deep := deepQ) rfl rfl deepQ_ok hx (ref01_Letter_body (cf := cfQ) (m := M) (ann := annQ) rfl  c0 heap0 [] has_heap0 H)
theorem j118 : S118 cfQ M := by
  intro c0 r H h xs hx
  exact fx_fresh (T := toldQ) (deep := deepQ) rfl rfl deepQ_ok hx (tree_letter_body (cf := cfQ) (m := M) (ann := annQ) rfl  c0 heap0 [] has_heap0 H)
theorem j119 : S119 cfQ M := by
  intro data0 a0 b0 cmp0 r H h L n_data0 ad0 o g3_ cap3_ hc3_ Hp3_ xs hx
  have hn0 : n_data0 = data0.length := has_len (E := eInt) o (q := 0) rfl
  subst hn0
  obtain ⟨r', h', hb, rfl, ho⟩ := insertionSortC_body (cf := cfQ) (m := M) (ann := annQ) rfl  data0 a0 b0 cmp0 h L ad0 g3_ cap3_  hc3_ Hp3_ o H
  exact ⟨h', fx_im (T := toldQ) rfl rfl hx hb, ho⟩
theorem j123 : S123 cfQ M := by
  intro data0 a0 b0 n0 cmp0 r H h L n_data0 ad0 o g4_ cap4_ hc4_ Hp4_ xs hx
  have hn0 : n_data0 = data0.length := has_len (E := eInt) o (q := 0) rfl
  subst hn0
  obtain ⟨r', h', hb, rfl, ho⟩ := swapRangeC_body (cf := cfQ) (m := M) (ann := annQ) rfl  data0 a0 b0 n0 cmp0 h L ad0 g4_ cap4_  hc4_ Hp4_ o H
  exact ⟨h', fx_im (T := toldQ) rfl rfl hx hb, ho⟩
theorem j32 : S32 cfQ M := by
  intro s0 f0 r H h hpos g1_ cap1_ hc1_ Hp1_ xs hx
  exact fx_ro (T := toldQ) rfl rfl hx (ContainsFT_body (cf := cfQ) (m := M) (ann := annQ) rfl j51 s0 f0 h [] g1_ cap1_  hc1_ Hp1_ (has_nil hpos) H)
theorem j34 : S34 cfQ M := by
  intro s0 f0 r H h hpos g1_ cap1_ hc1_ Hp1_ xs hx
  exact fx_ro (T := toldQ) rfl rfl hx (ContainsFN_body (cf := cfQ) (m := M) (ann := annQ) rfl j52 s0 f0 h [] g1_ cap1_  hc1_ Hp1_ (has_nil hpos) H)
theorem j40 : S40 cfQ M := by
  intro x0 r H h L   o  xs hx
  obtain ⟨r', h', hb, ir0, rfl, ho⟩ := ref20_node_body (cf := cfQ) (m := M) (ann := annQ) rfl j38 j58 x0 h L  o H
  exact ⟨ir0, h', fx_im (T := toldQ) rfl rfl hx hb, ho⟩
theorem j55 : S55 cfQ M := by
  intro w0 n0 r H h L  ad_w0 is_w0_0 o  xs hx
  obtain ⟨r', h', hb, iw0_0, rfl, ho⟩ := wr_node_body (cf := cfQ) (m := M) (ann := annQ) rfl j53 j54 j74 w0 n0 h L ad_w0 is_w0_0  o H
  exact ⟨iw0_0, h', fx_im (T := toldQ) rfl rfl hx hb, ho⟩
theorem j78 : S78 cfQ M := by
  intro s0 f0 r H h hpos g1_ cap1_ hc1_ Hp1_ xs hx
  exact fx_ro (T := toldQ) rfl rfl hx (ContainsFI_body (cf := cfQ) (m := M) (ann := annQ) rfl j107 s0 f0 h [] g1_ cap1_  hc1_ Hp1_ (has_nil hpos) H)
theorem j81 : S81 cfQ M := by
  intro x0 y0 r H h xs hx
  exact fx_fresh (T := toldQ) (deep := deepQ) rfl rfl deepQ_ok hx (cmp_Compare_int_body (cf := cfQ) (m := M) (ann := annQ) rfl j108 x0 y0 heap0 [] has_heap0 H)
theorem j83 : S83 cfQ M := by
  intro x0 y0 r H h xs hx
  exact fx_fresh (T := toldQ) (deep := deepQ) rfl rfl deepQ_ok hx (cmp_Compare_string_body (cf := cfQ) (m := M) (ann := annQ) rfl j109 x0 y0 heap0 [] has_heap0 H)
theorem j86 : S86 cfQ M := by
  intro s0 r H h xs hx
  exact fx_fresh (T := toldQ) (deep := deepQ) rfl rfl deepQ_ok hx (ref01_word_body (cf := cfQ) (m := M) (ann := annQ) rfl j111 s0 heap0 [] has_heap0 H)
theorem j103 : S103 cfQ M := by
  intro l0 some0 n0 class0 r H h xs hx
  exact fx_fresh (T := toldQ) (deep := deepQ) rfl rfl deepQ_ok hx (ref01_find_body (cf := cfQ) (m := M) (ann := annQ) rfl j104 j105 l0 some0 n0 class0 heap0 [] has_heap0 H)
theorem j106 : S106 cfQ M := by
  intro s0 first0 last0 r H h xs hx
  exact fx_fresh (T := toldQ) (deep := deepQ) rfl rfl deepQ_ok hx (tree_Word_body (cf := cfQ) (m := M) (ann := annQ) rfl j118 s0 first0 last0 heap0 [] has_heap0 H)
theorem j122 : S122 cfQ M := by
  intro data0 a0 m0 b0 cmp0 r H h L n_data0 ad0 o g4_ cap4_ hc4_ Hp4_ xs hx
  have hn0 : n_data0 = data0.length := has_len (E := eInt) o (q := 0) rfl
  subst hn0
  obtain ⟨r', h', hb, rfl, ho⟩ := rotateC_body (cf := cfQ) (m := M) (ann := annQ) rfl j123 data0 a0 m0 b0 cmp0 h L ad0 g4_ cap4_  hc4_ Hp4_ o H
  exact ⟨h', fx_im (T := toldQ) rfl rfl hx hb, ho⟩
theorem j33 : S33 cfQ M := by
  intro t0 r H h xs hx
  exact fx_fresh (T := toldQ) (deep := deepQ) rfl rfl deepQ_ok hx (pickle_Put_1_body (cf := cfQ) (m := M) (ann := annQ) rfl j34 j35 t0 heap0 [] has_heap0 H)
theorem j36 : S36 cfQ M := by
  intro list0 r H h xs hx
  exact fx_fresh (T := toldQ) (deep := deepQ) rfl rfl deepQ_ok hx (pickle_write_body (cf := cfQ) (m := M) (ann := annQ) rfl j42 j53 j54 j55 j56 list0 heap0 [] has_heap0 H)
theorem j65 : S65 cfQ M := by
  intro a0 b0 r H h xs hx
  exact fx_fresh (T := toldQ) (deep := deepQ) rfl rfl deepQ_ok hx (tree_compareTop_body (cf := cfQ) (m := M) (ann := annQ) rfl j81 j82 j83 a0 b0 heap0 [] has_heap0 H)
theorem j69 : S69 cfQ M := by
  intro s0 r H h xs hx
  exact fx_fresh (T := toldQ) (deep := deepQ) rfl rfl deepQ_ok hx (ref01_IsAtom_body (cf := cfQ) (m := M) (ann := annQ) rfl j86 s0 heap0 [] has_heap0 H)
theorem j76 : S76 cfQ M := by
  intro l0 r H h xs hx
  exact fx_fresh (T := toldQ) (deep := deepQ) rfl rfl deepQ_ok hx (ref01_Classes_body (cf := cfQ) (m := M) (ann := annQ) rfl j102 j103 j104 j105 l0 heap0 [] has_heap0 H)
theorem j77 : S77 cfQ M := by
  intro s0 r H h xs hx
  exact fx_fresh (T := toldQ) (deep := deepQ) rfl rfl deepQ_ok hx (tree_Atom_body (cf := cfQ) (m := M) (ann := annQ) rfl j106 s0 heap0 [] has_heap0 H)
theorem j85 : S85 cfQ M := by
  intro i0 j0 x0 r H h L qad_x0_ ad_x0 o hqad_x0_
  exact fx_ro (T := toldQ) rfl rfl (can_cons (can_pure (pu_int)) (can_cons (can_pure (pu_int)) (can_cons (rfl) (can_nil)))) (tree_classes_1_body (cf := cfQ) (m := M) (ann := annQ) rfl j65 i0 j0 x0 h L  hqad_x0_ o H)
theorem j120 : ∀ kk, S120 cfQ M kk
  | 0 => by
    intro data0 a0 m0 b0 cmp0 r H h L n_data0 ad0 o g4_ cap4_ hc4_ Hp4_ xs hx
    cases H
  | kk + 1 => by
    intro data0 a0 m0 b0 cmp0 r H h L n_data0 ad0 o g4_ cap4_ hc4_ Hp4_ xs hx
    have hn0 : n_data0 = data0.length := has_len (E := eInt) o (q := 0) rfl
    subst hn0
    obtain ⟨r', h', hb, rfl, ho⟩ := symMergeC_body (cf := cfQ) (m := M) (ann := annQ) rfl j122 data0 a0 m0 b0 cmp0 h L ad0 g4_ cap4_  (j120 kk) hc4_ Hp4_ o H
    exact ⟨h', fx_im (T := toldQ) rfl rfl hx hb, ho⟩
theorem j48 : S48 cfQ M := by
  intro n0 nodes0 r H h xs hx
  exact fx_fresh (T := toldQ) (deep := deepQ) rfl rfl deepQ_ok hx (ref01_Right_body (cf := cfQ) (m := M) (ann := annQ) rfl j69 n0 nodes0 heap0 [] has_heap0 H)
theorem j57 : S57 cfQ M := by
  intro l0 root0 r H h xs hx
  exact fx_pure (T := toldQ) (deep := deepQ) rfl rfl deepQ_ok hx (ref01_least_body (cf := cfQ) (m := M) (ann := annQ) rfl j75 j76 l0 root0 heap0 [] has_heap0 H)
theorem j62 : S62 cfQ M := by
  intro n0 size0 r H h xs hx
  exact fx_fresh (T := toldQ) (deep := deepQ) rfl rfl deepQ_ok hx (tree_node_body (cf := cfQ) (m := M) (ann := annQ) rfl j77 j78 j79 j80 n0 size0 heap0 [] has_heap0 H)
theorem j110 : S110 cfQ M := by
  intro data0 n0 cmp0 r H h L n_data0 ad0 o g2_ cap2_ hc2_ Hp2_ xs hx
  have hn0 : n_data0 = data0.length := has_len (E := eInt) o (q := 0) rfl
  subst hn0
  obtain ⟨r', h', hb, rfl, ho⟩ := stableC_body (cf := cfQ) (m := M) (ann := annQ) rfl j119 (j120 _) data0 n0 cmp0 h L ad0 g2_ cap2_  hc2_ Hp2_ o H
  exact ⟨h', fx_im (T := toldQ) rfl rfl hx hb, ho⟩
theorem j25 : S25 cfQ M := by
  intro t0 r H h xs hx
  exact fx_fresh (T := toldQ) (deep := deepQ) rfl rfl deepQ_ok hx (ref01_Valid_body (cf := cfQ) (m := M) (ann := annQ) rfl j48 t0 heap0 [] has_heap0 H)
theorem j37 : S37 cfQ M := by
  intro t0 r H h xs hx
  exact fx_pure (T := toldQ) (deep := deepQ) rfl rfl deepQ_ok hx (ref01_Least_body (cf := cfQ) (m := M) (ann := annQ) rfl j25 j57 t0 heap0 [] has_heap0 H)
theorem j61 : S61 cfQ M := by
  intro n0 x0 r H h L qad_x0_ ad_x0 o hqad_x0_
  exact fx_ro (T := toldQ) rfl rfl (can_cons (can_pure (pu_agg (pu_cons (pu_int) (pu_cons (pu_int) (pu_cons (pu_str) (pu_cons (pu_fz (E := eInt)) (pu_nil))))))) (can_cons (rfl) (can_nil))) (tree_Valid_1_body (cf := cfQ) (m := M) (ann := annQ) rfl j62 n0 x0 h L  hqad_x0_ o H)
theorem j84 : S84 cfQ M := by
  intro x0 cmp0 r H h L n_x0 ad0 o g1_ cap1_ hc1_ Hp1_ xs hx
  have hn0 : n_x0 = x0.length := has_len (E := eInt) o (q := 0) rfl
  subst hn0
  obtain ⟨r', h', hb, rfl, ho⟩ := SortStableFI_body (cf := cfQ) (m := M) (ann := annQ) rfl j110 x0 cmp0 h L ad0 g1_ cap1_  hc1_ Hp1_ o H
  exact ⟨h', fx_im (T := toldQ) rfl rfl hx hb, ho⟩
theorem j15 : S15 cfQ M := by
  intro list0 r H h xs hx
  exact fx_fresh (T := toldQ) (deep := deepQ) rfl rfl deepQ_ok hx (ref20_Put_body (cf := cfQ) (m := M) (ann := annQ) rfl j23 j37 j38 j39 j40 list0 heap0 [] has_heap0 H)
theorem j17 : S17 cfQ M := by
  intro t0 r H h xs hx
  exact fx_pure (T := toldQ) (deep := deepQ) rfl rfl deepQ_ok hx (ref20_Least_body (cf := cfQ) (m := M) (ann := annQ) rfl j37 t0 heap0 [] has_heap0 H)
theorem j45 : S45 cfQ M := by
  intro t0 r H h xs hx
  exact fx_fresh (T := toldQ) (deep := deepQ) rfl rfl deepQ_ok hx (tree_Valid_body (cf := cfQ) (m := M) (ann := annQ) rfl j34 j61 t0 heap0 [] has_heap0 H)
theorem j67 : S67 cfQ M := by
  intro nodes0 r H h xs hx
  exact fx_fresh (T := toldQ) (deep := deepQ) rfl rfl deepQ_ok hx (tree_classes_body (cf := cfQ) (m := M) (ann := annQ) rfl j65 j84 j85 nodes0 heap0 [] has_heap0 H)
theorem j47 : S47 cfQ M := by
  intro t0 r H h xs hx
  exact fx_pure (T := toldQ) (deep := deepQ) rfl rfl deepQ_ok hx (tree_least_body (cf := cfQ) (m := M) (ann := annQ) rfl j67 (j68 _) t0 heap0 [] has_heap0 H)
theorem j31 : S31 cfQ M := by
  intro t0 r H h xs hx
  exact fx_pure (T := toldQ) (deep := deepQ) rfl rfl deepQ_ok hx (tree_Least_body (cf := cfQ) (m := M) (ann := annQ) rfl j45 j47 t0 heap0 [] has_heap0 H)
theorem j14 : S14 cfQ M := by
  intro list0 r H h xs hx
  exact fx_pure (T := toldQ) (deep := deepQ) rfl rfl deepQ_ok hx (pickle_Put_body (cf := cfQ) (m := M) (ann := annQ) rfl j31 j32 j33 j36 list0 heap0 [] has_heap0 H)
theorem j16 : S16 cfQ M := by
  intro t0 r H h xs hx
  exact fx_pure (T := toldQ) (deep := deepQ) rfl rfl deepQ_ok hx (pickle_Least_body (cf := cfQ) (m := M) (ann := annQ) rfl j31 t0 heap0 [] has_heap0 H)
theorem j3 : S3 cfQ M := by
  intro l0 r H h xs hx
  exact fx_fresh (T := toldQ) (deep := deepQ) rfl rfl deepQ_ok hx (law20_PicklePuts_body (cf := cfQ) (m := M) (ann := annQ) rfl j12 j13 j14 j15 j16 j17 j18 l0 heap0 [] has_heap0 H)
end Go.Proofs.YtmekcfdllhphlaaDoor

namespace Go.Proofs.YtmekcfdllhphlaaDoor
open Go Go.R Go.Proofs Go.RowKit Go.ChangeShapes Go.WideShapes
theorem argsFit_one {P : Program} {m : Nat} {t : TypeId} {avs : List AV} (h : ArgsFit P m [t] avs) : ∃ xs, avs = [argAV P t xs] ∧ Fits P m t xs := by
  cases avs with
  | nil => exact h.elim
  | cons x avs =>
    obtain ⟨⟨xs, hx, hf⟩, h⟩ := h
    cases avs with
    | nil => exact ⟨xs, by rw [hx], hf⟩
    | cons _ _ => exact h.elim
theorem all_true (avs : List AV) (h : ArgsFit Tryd.prog 6 Tryd.f3.params.toList avs) : ∃ cf h', CallOK Tryd.prog cf ∧ cf 3 avs heap0 = some (.bool true, h') := by
  rw [show Tryd.f3.params.toList = [22] from by rw [Tryd.params3]] at h
  obtain ⟨xs, rfl, hx⟩ := argsFit_one h
  obtain ⟨x, l, rfl, hf, hl⟩ := fit_trees hx
  refine ⟨cfQ, heap0, cfQ_ok, ?_⟩
  have e1 : argAV Tryd.prog 22 [x] = x := by unfold argAV; rw [Tryd.underlying22]; rfl
  rw [e1]
  exact j3 l true (puts_true (by decide) (fun t ht => (hl t ht).1) fun t ht => (hl t ht).2) heap0 [x] (hf heap0)
noncomputable def laidL : List (String × DataW Unit) := [("bytes.ErrTooLarge", Rows.laid_bytes_ErrTooLarge)]
theorem own : ownKnob Tryd.prog.godebug = none := by kernel_rfl
noncomputable def laidWorld (os : Os) : World := World.laidAll Tryd.prog os laidL
theorem laidWorld_met (os : Os) (args : Array Value) : laidMetH Tryd.prog laidL ((laidWorld os).forCall (fun _ _ => 0) ⟨#[], args, []⟩).memory := by
  refine laidMetH_of_parts ?_ (by kernel_rfl)
  rw [show (laidL.filter fun x => x.2.handleName?.isNone) = laidL from by kernel_rfl]
  exact laidMet_laidAll args (by kernel_rfl) (by kernel_rfl)
theorem picklePuts_lifted (os : Os) (started : os.Started) (H : Type) (enc : TypeId × Value → H) :
    ReturnsInHanded {} Tryd.checked os 3 .any (fun w args => (Rows.picklePutsSpec.pre enc Tryd.prog Tryd.f3 [] false w args ∧ laidMetH Tryd.prog laidL w) ∧ sizedMet enc Tryd.prog Tryd.f3 (OpenSpec.ofChange Rows.picklePutsSpec) false w args)
      (Rows.picklePutsSpec.post enc Tryd.prog Tryd.f3 false true false false) := by
  refine returnsInHanded_of_change_and (C := Tryd.checked) (X := fun w _ => laidMetH Tryd.prog laidL w) (fun _ _ _ hh h => h.of_heap hh) own started (by kernel_rfl) Tryd.func3
    (ChangeSpec.witness_at (enc := enc) (C := Tryd.checked) (os := os) (X := fun w _ => laidMetH Tryd.prog laidL w) false (laidWorld os) #[.slice none 0 0] 8 (World.laidAll_os _ _ _) (by kernel_rfl) (by kernel_rfl) (by kernel_rfl) (by kernel_rfl) (by kernel_rfl) (laidWorld_met os _)) ?_
  intro W base args ds gs before hval hW _ _ hL _
  exact contract_true (cf := fun _ _ _ => none) (P := Tryd.prog) (m := 6) (tb := 4) (by kernel_rfl)
    (by rw [show Tryd.f3.params.toList = [22] from by rw [Tryd.params3]]; intro t ht; simp at ht; rcases ht with rfl; exact ⟨by kernel_rfl, of_decide_eq_true (by kernel_rfl)⟩)
    (by rw [show Tryd.f3.params.toList = [22] from by rw [Tryd.params3]]; intro t ht; simp at ht; rcases ht with rfl; kernel_rfl) rfl rfl Tryd.underlying4
    (fun ds hds => by
      have : ds.length = 1 := by rw [hds]; rfl
      match ds, this with
      | [d], _ => rfl) all_true hval hW
theorem picklePuts_row : Rows.PicklePutsSaid :=
  OpenClaim.holds_of_wide 3 Tryd.f3 rfl rfl rfl rfl rfl rfl rfl ⟨rfl, rfl, rfl, rfl, rfl⟩ rfl rfl rfl rfl rfl (by kernel_rfl) Tryd.func3 (by kernel_rfl)
    (of_decide_eq_true (by kernel_rfl)) (by unfold Func.isWrapper; first | (rw [if_pos (by decide +kernel)]; kernel_rfl) | (rw [if_neg (by decide +kernel)]; exact ⟨rfl, rfl⟩))
    (fun os started H enc _ => picklePuts_lifted os started H enc)
theorem picklePuts_holds : Rows.PicklePutsCardSaid :=
  Claim7.holds_tied_plain_at .later [] [.sentinel] true (true, "5c7c24f3f163267658839de8cc9f4545a02ccfedb2900f3b8e61d73ca287aaae") false
    picklePuts_row (fun _ h => by cases h) (by kernel_rfl) (fun _ h => by cases h) picklePuts_row_tie rfl ⟨rfl, rfl⟩ (by kernel_rfl) rfl
    (fun f fn hf hfn => by
      obtain rfl : f = 3 := Option.some.inj ((show Tryd.prog.funcNamed "leatwork/leatworklaw20.PicklePuts" = some 3 by kernel_rfl).symm.trans hf) |>.symm
      obtain rfl : fn = Tryd.f3 := (Option.some.inj (Tryd.func3.symm.trans hfn)).symm
      exact ⟨by kernel_rfl, fun j t ht => by
        rw [Tryd.params3] at ht
        have h3 : t = 22 := by
          rcases j with _ | j
          · simpa using ht.symm
          · simp at ht
        rcases h3 with rfl
        exact (show Tryd.prog.wantsStandIn 22 = false by kernel_rfl)⟩)
    (by kernel_rfl)
end Go.Proofs.YtmekcfdllhphlaaDoor

