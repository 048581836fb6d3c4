/- A bytes.Buffer that holds something, and a string written to it. -/
import Derived.Test.YtmekcfdllhphlaaDoorRBuf2
set_option linter.unusedVariables false
set_option linter.unusedSimpArgs false
namespace Go.R
open Go Go.Proofs Go.Shelf Go.RowKit
variable {P : Program} {ρ : Ren}

theorem take_mid {cur : Array Value} {l m : Nat} {news : List Value} (hn : news.length = m) (hl : l + m ≤ cur.size) :
    (cur.toList.take l ++ news ++ cur.toList.drop (l + m)).toArray.size = cur.size ∧ (cur.toList.take l ++ news ++ cur.toList.drop (l + m)).toArray.toList.take (l + m) = cur.toList.take l ++ news := by
  have h1 : (cur.toList.take l).length = l := by rw [List.length_take, Array.length_toList]; omega
  refine ⟨by simp only [List.size_toArray, List.length_append, h1, hn, List.length_drop, Array.length_toList]; omega, ?_⟩
  rw [List.toList_toArray, List.take_append_of_le_length (by rw [List.length_append, h1, hn]; exact Nat.le_refl _), List.take_of_length_le (by rw [List.length_append, h1, hn]; exact Nat.le_refl _)]

set_option maxHeartbeats 12800000 in
set_option maxRecDepth 100000 in
/-- WriteString to a buffer that holds something. -/
theorem writeString_row (L : LaysM.n178 P ρ) (T : TypeId) (R : Nat → Option Value) (b q g l cap : Nat) (lr : Int) (s : ByteArray) (cur : Array Value) (w : World) (h : BRow T R (ρ.t 5) b q lr g l cap cur w)
    (h1 : ∀ v ∈ cur.toList.take l, v.oneCell' = true) (hl0 : l ≠ 0) (hs0 : s.size ≠ 0) (hlim : l + s.size ≤ 140737488355328) :
    Calls P (ρ.f 178) #[.pointer (some ⟨b, q, none⟩), .string s] w fun e w' => e = .returned (.tuple #[.int .i64 s.size, .nilIface]) ∧
      ∃ g' cap' cur', BRow T R (ρ.t 5) b q 0 g' (l + s.size) cap' cur' w' ∧ cur'.toList.take (l + s.size) = cur.toList.take l ++ Lib.byteCells s.data.toList ∧ (w.heap.size ≤ g' ∨ (g' = g ∧ cur'.size = cur.size)) ∧ But (fun k => k = b ∨ k = g') w w' := by
  have mixed := L.mixed
  have t5 := L.t5; have a5 := L.a5; have z5 := L.z5; have v5 := L.v5
  have t130 := L.t130; have a130 := L.a130; have z130 := L.z130; have v130 := L.v130
  have t9 := L.t9; have a9 := L.a9; have z9 := L.z9; have v9 := L.v9
  have t3 := L.t3; have a3 := L.a3; have z3 := L.z3; have v3 := L.v3
  have t75 := L.t75; have a75 := L.a75; have z75 := L.z75; have v75 := L.v75
  have t0 := L.t0; have a0 := L.a0; have z0 := L.z0; have v0 := L.v0
  have t93 := L.t93; have u93 := run_underlying L.t93; have a93 := L.a93; have z93 := L.z93; have v93 := L.v93
  have t91 := L.t91; have a91 := L.a91; have z91 := L.z91; have v91 := L.v91
  have t131 := L.t131; have a131 := L.a131; have z131 := L.z131; have v131 := L.v131
  have t4 := L.t4; have a4 := L.a4; have z4 := L.z4; have v4 := L.v4
  have t37 := L.t37; have a37 := L.a37; have z37 := L.z37; have v37 := L.v37
  have e251 : ∀ args w, (callFunc (ρ.f 251) args).run P w = .ok (.enter (ρ.f 251) args) w := enters_of L.f251 (by kernel_rfl) rfl
  have e252 : ∀ args w, (callFunc (ρ.f 252) args).run P w = .ok (.enter (ρ.f 252) args) w := enters_of L.f252 (by kernel_rfl) rfl
  have hinfo : (P.info? (ρ.t 5)).map (·.size) = some 1 := by
    obtain ⟨i0, hi, -, hz1, -⟩ := info_parts L.i5
    rw [hi]; simp [hz1]
  have hnl : (Lib.byteCells s.data.toList).length = s.size := by rw [Lib.byteCells_length, ← Lib.size_eq]
  have c2 : w.cell? ⟨b, q + 2, none⟩ = some (.int .i8 lr) := h.three.c2
  have f2 : w.frozen? ⟨b, q + 2, none⟩ = false := h.three.f (q + 2)
  have hbut : But (fun k => k = b) w (w.setCell ⟨b, q + 2, none⟩ (.int .i8 0)) := (But.refl (· = b) w).setCell (fun _ => rfl) (q + 2) _
  have hI0 : BRow T R (ρ.t 5) b q 0 g l cap cur (w.setCell ⟨b, q + 2, none⟩ (.int .i8 0)) := ⟨h.three.set2 _, (heap_setCell_other _ _ _ h.ne).trans h.row, h.le, h.most, h.size, h.ne⟩
  have hsz : (w.setCell ⟨b, q + 2, none⟩ (.int .i8 0)).heap.size = w.heap.size := by simp [World.setCell]
  generalize hW : w.setCell ⟨b, q + 2, none⟩ (.int .i8 0) = W at hbut hI0 hsz
  have k0 : W.cell? ⟨b, q, none⟩ = some (.slice (some ⟨g, 0, none⟩) l cap) := hI0.three.c0
  have kf : W.frozen? ⟨b, q, none⟩ = false := hI0.three.f q
  have hle := h.le
  have hcm := h.most
  by_cases hr : s.size ≤ cap - l
  · have hT : Calls P (ρ.f 251) #[.pointer (some ⟨b, q, none⟩), .int .i64 s.size] W _ := Any.Buffer_tryGrow_room_at { L with } b q _ l cap s.size W k0 kf hle hcm hr
    have hb1 : BRow T R (ρ.t 5) b q 0 g (l + s.size) cap cur (W.setCell ⟨b, q, none⟩ (.slice (some ⟨g, 0, none⟩) (l + s.size) cap)) := ⟨hI0.three.set0 _, (heap_setCell_other _ _ _ h.ne).trans hI0.row, by omega, h.most, h.size, h.ne⟩
    have hbut1 := hbut.setCell (b := b) (fun _ => rfl) q (.slice (some ⟨g, 0, none⟩) (l + s.size) cap)
    clear hI0 k0 kf
    generalize hW1 : W.setCell ⟨b, q, none⟩ (.slice (some ⟨g, 0, none⟩) (l + s.size) cap) = W1 at hb1 hbut1
    have hT1 : Calls P (ρ.f 251) #[.pointer (some ⟨b, q, none⟩), .int .i64 s.size] W fun e w' => e = .returned (.tuple #[.int .i64 l, .bool true]) ∧ w' = W1 := hT.mono fun e w' hh => ⟨hh.1, hh.2.trans hW1⟩
    clear hT
    have d0 : W1.cell? ⟨b, q, none⟩ = some (.slice (some ⟨g, 0, none⟩) (l + s.size) cap) := hb1.three.c0
    have hfit : l + s.size ≤ cur.size := by rw [hb1.size]; exact hb1.le
    have hne : ¬ cap = l := by omega
    have hcp := Lib.run_copy_row_string (P := P) W1 (ρ.t 37) (ρ.t 9) (ρ.t 3) (ρ.t 5) g l s.size (cap - l) s cur (ρ.t 5) L.t37 hinfo hb1.row (Nat.le_refl _) hfit
    have hcm' := hcm
    unfold maxLen at hcm'
    have hcl := hb1.le
    clear hW1
    go_enter L.f178, Body.n178_ntmps ρ
    go_wp2_with (go_at_fn (ρ.f 251); (try rw [hW]); refine hT1.mono ?_; rintro e w' ⟨rfl, rfl⟩; clear hT1 c2 f2)
    go_ret2
    obtain ⟨m1, m2⟩ := take_mid hnl hfit
    rw [List.append_assoc] at m1 m2
    exact ⟨rfl, g, cap, _, hb1.setRow (m1.trans hb1.size), m2, .inr ⟨rfl, m1⟩, (hbut1.mono fun _ _ h => .inl h).setRow (fun _ => .inr rfl) _⟩
  · have hT : Calls P (ρ.f 251) #[.pointer (some ⟨b, q, none⟩), .int .i64 s.size] W _ := Any.Buffer_tryGrow_none_at { L with } b q _ l cap s.size W k0 hle hcm (by omega)
    have hG : Calls P (ρ.f 252) #[.pointer (some ⟨b, q, none⟩), .int .i64 s.size] W _ := grow_row { L with } T R b q g l cap s.size 0 cur W hI0 h1 hl0 (by omega) (by omega) hlim
    clear hI0 k0 kf hle hcm
    go_enter L.f178, Body.n178_ntmps ρ
    go_wp2_with (go_at_fn (ρ.f 251); (try rw [hW]); refine hT.mono ?_; rintro e w' ⟨rfl, rfl⟩)
    go_wp2_with (go_at_fn (ρ.f 252); refine hG.mono ?_)
    rintro e W1 ⟨rfl, g', cap', cur', hI, htk, hge, hbut1⟩
    clear hT hG c2 f2
    have d0 : W1.cell? ⟨b, q, none⟩ = some (.slice (some ⟨g', 0, none⟩) (l + s.size) cap') := hI.three.c0
    have hfit : l + s.size ≤ cur'.size := by rw [hI.size]; exact hI.le
    have hcl := hI.le
    have hne : ¬ cap' = l := by omega
    have hcp := Lib.run_copy_row_string (P := P) W1 (ρ.t 37) (ρ.t 9) (ρ.t 3) (ρ.t 5) g' l s.size (cap' - l) s cur' (ρ.t 5) L.t37 hinfo hI.row (Nat.le_refl _) hfit
    have hcm' := hI.most
    unfold maxLen at hcm'
    go_wp2
    go_ret2
    obtain ⟨m1, m2⟩ := take_mid hnl hfit
    rw [htk, List.append_assoc] at m1 m2
    exact ⟨rfl, g', cap', _, hI.setRow (m1.trans hI.size), m2, .inl (by omega), ((hbut.trans hbut1).mono fun _ _ h => .inl h).setRow (fun _ => .inr rfl) _⟩
end Go.R
