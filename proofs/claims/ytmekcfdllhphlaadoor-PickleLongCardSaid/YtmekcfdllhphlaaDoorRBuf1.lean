/- A bytes.Buffer that is written: to which blocks that is done. -/
import Derived.Shelf.LaysM
import Derived.Shelf.Bytes.GrowAt
import Derived.Lib.ByteType
import Derived.Lib.BufferAt
import Derived.Lib.BufferKept
import Derived.Lib.Walk
import Derived.Lib.BufferWrite
import Derived.Lib.Hide
import Derived.WalkKit
import Derived.BigCall
import Derived.BigGuard
set_option linter.unusedVariables false
set_option linter.unusedSimpArgs false
namespace Go.R
open Go Go.Proofs Go.Shelf Go.RowKit
variable {P : Program} {ρ : Ren}

/-- Three cells of a buffer with a row: its block, its length, its capacity, its cells. -/
structure BRow (T : TypeId) (R : Nat → Option Value) (e : TypeId) (b q : Nat) (lr : Int) (g l cap : Nat) (cur : Array Value) (w : World) : Prop where
  three : LibA.Three w b q T R (.slice (some ⟨g, 0, none⟩) l cap) (.int .i64 0) (.int .i8 lr)
  row : w.heap[g]? = some (.cells cur e (0, 0))
  le : l ≤ cap
  most : cap ≤ maxLen
  size : cur.size = cap
  ne : g ≠ b

/-- All blocks but some stand. -/
structure But (N : Nat → Prop) (w w' : World) : Prop where
  os : w'.os = w.os
  tape : w'.tape = w.tape
  output : w'.output = w.output
  size : w.heap.size ≤ w'.heap.size
  block : ∀ k, k < w.heap.size → ¬ N k → w'.heap[k]? = w.heap[k]?

theorem But.refl (N : Nat → Prop) (w : World) : But N w w := ⟨rfl, rfl, rfl, Nat.le_refl _, fun _ _ _ => rfl⟩
theorem But.trans {N : Nat → Prop} {w w' w'' : World} (a : But N w w') (b : But N w' w'') : But N w w'' :=
  ⟨b.os.trans a.os, b.tape.trans a.tape, b.output.trans a.output, Nat.le_trans a.size b.size, fun k hk hn => (b.block k (Nat.lt_of_lt_of_le hk a.size) hn).trans (a.block k hk hn)⟩
theorem But.mono {N N' : Nat → Prop} {w w' : World} (a : But N w w') (h : ∀ k, k < w.heap.size → N k → N' k) : But N' w w' :=
  ⟨a.os, a.tape, a.output, a.size, fun k hk hn => a.block k hk fun h' => hn (h k hk h')⟩
theorem But.setCell {N : Nat → Prop} {w w' : World} (a : But N w w') {b : Nat} (hb : b < w.heap.size → N b) (o : Nat) (v : Value) : But N w (w'.setCell ⟨b, o, none⟩ v) :=
  ⟨a.os, a.tape, a.output, by simpa [World.setCell] using a.size, fun k hk hn => (Below.heap_setCell w' ⟨b, o, none⟩ v k (by rintro rfl; exact hn (hb hk))).trans (a.block k hk hn)⟩
theorem But.alloc {N : Nat → Prop} {w w' : World} (a : But N w w') (o : Obj) : But N w (w'.alloc o) :=
  ⟨a.os, a.tape, a.output, Nat.le_trans a.size (by simp), fun k hk hn => (Below.heap_alloc w' o k (Nat.lt_of_lt_of_le hk a.size)).trans (a.block k hk hn)⟩
theorem But.below {N : Nat → Prop} {w w' w'' : World} (a : But N w w') (h : Below w'.heap.size w' w'') : But N w w'' :=
  a.trans ⟨h.os, h.tape, h.output, h.size, fun k hk _ => h.block k hk⟩

theorem heap_setCell_other (w : World) {b k : Nat} (o : Nat) (v : Value) (h : k ≠ b) : (w.setCell ⟨b, o, none⟩ v).heap[k]? = w.heap[k]? :=
  Below.heap_setCell w ⟨b, o, none⟩ v k h

set_option maxHeartbeats 12800000 in
set_option maxRecDepth 100000 in
/-- grow of a buffer that holds something and has no room: a new row. -/
theorem grow_row (L : LaysM.n252 P ρ) (T : TypeId) (R : Nat → Option Value) (b q g l cap n : Nat) (lr : Int) (cur : Array Value) (w : World) (h : BRow T R (ρ.t 5) b q lr g l cap cur w)
    (h1 : ∀ v ∈ cur.toList.take l, v.oneCell' = true) (hl0 : l ≠ 0) (hn : 1 ≤ n) (hroom : cap - l < n) (hlim : l + n ≤ 140737488355328) :
    Calls P (ρ.f 252) #[.pointer (some ⟨b, q, none⟩), .int .i64 n] w fun e w' => e = .returned (.int .i64 l) ∧
      ∃ g' cap' cur', BRow T R (ρ.t 5) b q lr g' (l + n) cap' cur' w' ∧ cur'.toList.take l = cur.toList.take l ∧ w.heap.size ≤ g' ∧ But (· = b) w w' := by
  have mixed := L.mixed
  have t5 := L.t5; have a5 := L.a5; have z5 := L.z5; have v5 := L.v5
  have t130 := L.t130; have a130 := L.a130; have z130 := L.z130; have v130 := L.v130
  have t3 := L.t3; have a3 := L.a3; have z3 := L.z3; have v3 := L.v3
  have t4 := L.t4; have a4 := L.a4; have z4 := L.z4; have v4 := L.v4
  have t0 := L.t0; have a0 := L.a0; have z0 := L.z0; have v0 := L.v0
  have t93 := L.t93; have u93 := run_underlying L.t93; have a93 := L.a93; have z93 := L.z93; have v93 := L.v93
  have t131 := L.t131; have a131 := L.a131; have z131 := L.z131; have v131 := L.v131
  have t37 := L.t37; have a37 := L.a37; have z37 := L.z37; have v37 := L.v37
  have t75 := L.t75; have a75 := L.a75; have z75 := L.z75; have v75 := L.v75
  have e181 : ∀ args w, (callFunc (ρ.f 181) args).run P w = .ok (.enter (ρ.f 181) args) w := enters_of L.f181 (by kernel_rfl) rfl
  have e251 : ∀ args w, (callFunc (ρ.f 251) args).run P w = .ok (.enter (ρ.f 251) args) w := enters_of L.f251 (by kernel_rfl) rfl
  have e290 : ∀ args w, (callFunc (ρ.f 290) args).run P w = .ok (.enter (ρ.f 290) args) w := enters_of L.f290 (by kernel_rfl) rfl
  obtain ⟨hbk, hg, hlc, hcm, hcs, hgb⟩ := h
  have hlen : (cur.toList.take l).length = l := by rw [List.length_take, Array.length_toList]; omega
  have hIs : LibA.IsBuffer T R (ρ.t 5) 0 b q (cur.toList.take l) w := by
    have := LibA.isBuffer_mk (e := ρ.t 5) (B := 0) (Nat.zero_le _) hbk (Nat.zero_le _) hg hlc hcm hcs hgb
    exact this
  have hnil : ∀ W, (binOp .eql (ρ.t 37) (.slice (some ⟨g, 0, none⟩) l cap) (.slice none 0 0)).run P W = .ok (.bool false) W := fun W => Lib.run_eql_slice_some_nil W _ _ _ L.t37
  go_enter L.f252, Body.n252_ntmps ρ
  go_wp2_with (go_at_fn (ρ.f 181); refine (Any.Buffer_Len_at { L with } T R 0 b q _ _ hIs).mono ?_)
  rintro e W0 ⟨rfl, k, hW0⟩
  rw [hlen]
  have hbk0 : LibA.Three W0 b q T R (.slice (some ⟨g, 0, none⟩) l cap) (.int .i64 0) (.int .i8 lr) := by rw [hW0]; exact hbk
  have hg0 : W0.heap[g]? = some (.cells cur (ρ.t 5) (0, 0)) := by rw [hW0]; exact hg
  have c0 : W0.cell? ⟨b, q, none⟩ = some (.slice (some ⟨g, 0, none⟩) l cap) := hbk0.c0
  have c1 : W0.cell? ⟨b, q + 1, none⟩ = some (.int .i64 0) := hbk0.c1
  have f0 : W0.frozen? ⟨b, q, none⟩ = false := hbk0.f q
  have f1 : W0.frozen? ⟨b, q + 1, none⟩ = false := hbk0.f (q + 1)
  have HW0 := Lib.hid hW0
  clear hW0 hIs hlen
  have hcm' := hcm
  unfold maxLen at hcm'
  go_wp2_with (go_at_fn (ρ.f 251); refine (Any.Buffer_tryGrow_none_at { L with } b q _ l cap n _ c0 hlc hcm hroom).mono ?_; rintro e w' ⟨rfl, rfl⟩)
  have hc2 : cap ≤ 140737488355328 := by omega
  have hbW := hbk0.lt
  have hwn : IntKind.i64.wrap (n : Int) = n := by rw [IntKind.wrap_i64]; omega
  go_region_with_o (
      go_at_fn (ρ.f 290)
      refine (Any.bytes_growSlice_row { L with } g l cap n cur _ ?_ hcs hlc hn hlim hc2 h1).mono ?_
      exact hg0
      rintro e w2 ⟨cap2, cells, rfl, hN, hcsz, htk, hcap2, hcm2, hbel⟩
      have hbk2 : LibA.Three w2 b q T R (.slice (some ⟨g, 0, none⟩) l cap) (.int .i64 0) (.int .i8 lr) := hbk0.of_heap (hbel.block b hbW)
      have d0 : w2.cell? ⟨b, q, none⟩ = some (.slice (some ⟨g, 0, none⟩) l cap) := hbk2.c0
      have d1 : w2.cell? ⟨b, q + 1, none⟩ = some (.int .i64 0) := hbk2.c1
      have e0 : w2.frozen? ⟨b, q, none⟩ = false := hbk2.f q
      have e1 : w2.frozen? ⟨b, q + 1, none⟩ = false := hbk2.f (q + 1))
  all_goals (
    go_wp2
    go_ret
    have hsz0 : w'.drew.heap.size = w.heap.size := by rw [HW0.out]; rfl
    have hb0 : But (· = b) w w'.drew := by rw [HW0.out]; exact ⟨rfl, rfl, rfl, Nat.le_refl _, fun _ _ _ => rfl⟩
    have hne : w'.drew.heap.size ≠ b := by have : b < w'.drew.heap.size := hbW; omega
    refine ⟨rfl, w'.drew.heap.size, cap2, cells, ⟨((hbk2.set0 _).set1 _).set0 _, ?_, hcap2, hcm2, hcsz, hne⟩, htk, by omega, (((hb0.below hbel).setCell (fun _ => rfl) q _).setCell (fun _ => rfl) (q + 1) _).setCell (fun _ => rfl) q _⟩
    rw [heap_setCell_other _ _ _ hne, heap_setCell_other _ _ _ hne, heap_setCell_other _ _ _ hne]
    exact hN)

set_option maxHeartbeats 12800000 in
set_option maxRecDepth 100000 in
/-- grow of a buffer that was never written, by at most 64 bytes. -/
theorem grow_small (L : LaysM.n252 P ρ) (T : TypeId) (R : Nat → Option Value) (b q n : Nat) (lr : Int) (w : World)
    (hbk : LibA.Three w b q T R (.slice none 0 0) (.int .i64 0) (.int .i8 lr)) (hn : 1 ≤ n) (h64 : n ≤ 64) :
    Calls P (ρ.f 252) #[.pointer (some ⟨b, q, none⟩), .int .i64 n] w fun e w' => e = .returned (.int .i64 0) ∧
      ∃ g' cap' cur', BRow T R (ρ.t 5) b q lr g' n cap' cur' w' ∧ w.heap.size ≤ g' ∧ But (· = b) w w' := by
  have mixed := L.mixed
  have t5 := L.t5; have a5 := L.a5; have z5 := L.z5; have v5 := L.v5
  have t130 := L.t130; have a130 := L.a130; have z130 := L.z130; have v130 := L.v130
  have t3 := L.t3; have a3 := L.a3; have z3 := L.z3; have v3 := L.v3
  have t4 := L.t4; have a4 := L.a4; have z4 := L.z4; have v4 := L.v4
  have t0 := L.t0; have a0 := L.a0; have z0 := L.z0; have v0 := L.v0
  have t93 := L.t93; have u93 := run_underlying L.t93; have a93 := L.a93; have z93 := L.z93; have v93 := L.v93
  have t131 := L.t131; have a131 := L.a131; have z131 := L.z131; have v131 := L.v131
  have t37 := L.t37; have a37 := L.a37; have z37 := L.z37; have v37 := L.v37
  have t75 := L.t75; have a75 := L.a75; have z75 := L.z75; have v75 := L.v75
  have e181 : ∀ args w, (callFunc (ρ.f 181) args).run P w = .ok (.enter (ρ.f 181) args) w := enters_of L.f181 (by kernel_rfl) rfl
  have e251 : ∀ args w, (callFunc (ρ.f 251) args).run P w = .ok (.enter (ρ.f 251) args) w := enters_of L.f251 (by kernel_rfl) rfl
  obtain ⟨i0, hi, hz0, hz1, hz2⟩ := info_parts L.i5
  obtain ⟨M, hM⟩ : ∃ M, M = madeCells (Value.int .u8 0).cells ((64 : Int).toNat * i0.size) := ⟨_, rfl⟩
  have hMs : M.size = 64 := by rw [hM, size_madeCells, hz1]; rfl
  have hmk : ∀ W : World, (Instr.makeSlice (ρ.t 37) (.int .i64 (n : Int)) (.int .i64 64)).run P W = .ok (.slice (some ⟨W.heap.size, 0, none⟩) n 64) (W.alloc (.cells M (ρ.t 5))) := fun W => by
    have h := run_makeSlice (P := P) W (ρ.t 37) (ρ.t 5) i0 (.int .u8 0) L.t37 hi hz0 .i64 .i64 (n : Int) 64 (by omega) (by omega) (by rw [hz1]; decide) (by rw [hz2]; decide) (by decide)
    rw [← hM] at h
    simpa using h
  clear hM
  have hIs : LibA.IsBuffer T R (ρ.t 5) 0 b q [] w := LibA.zero_isBuffer (Nat.zero_le _) hbk
  have hnil : ∀ W, (binOp .eql (ρ.t 37) (.slice none 0 0) (.slice none 0 0)).run P W = .ok (.bool true) W := fun W => Lib.run_eql_slice_nil_nil W _ _ L.t37
  go_enter L.f252, Body.n252_ntmps ρ
  go_wp2_with (go_at_fn (ρ.f 181); refine (Any.Buffer_Len_at { L with } T R 0 b q [] _ hIs).mono ?_)
  rintro e W0 ⟨rfl, k, hW0⟩
  have hbk0 : LibA.Three W0 b q T R (.slice none 0 0) (.int .i64 0) (.int .i8 lr) := by rw [hW0]; exact hbk
  have c0 : W0.cell? ⟨b, q, none⟩ = some (.slice none 0 0) := hbk0.c0
  have c1 : W0.cell? ⟨b, q + 1, none⟩ = some (.int .i64 0) := hbk0.c1
  have f0 : W0.frozen? ⟨b, q, none⟩ = false := hbk0.f q
  have f1 : W0.frozen? ⟨b, q + 1, none⟩ = false := hbk0.f (q + 1)
  have hbW0 := hbk0.lt
  have c0a : ∀ o, (W0.alloc o).cell? ⟨b, q, none⟩ = some (.slice none 0 0) := fun o => (World.cell?_of_block (a := ⟨b, q, none⟩) (Below.heap_alloc W0 o b hbW0)).trans c0
  have f0a : ∀ o, (W0.alloc o).frozen? ⟨b, q, none⟩ = false := fun o => (World.frozen?_of_block (a := ⟨b, q, none⟩) (Below.heap_alloc W0 o b hbW0)).trans f0
  have HW0 := Lib.hid hW0
  clear hW0 hIs
  go_wp2_with (go_at_fn (ρ.f 251); refine (Any.Buffer_tryGrow_none_at { L with } b q _ 0 0 n _ c0 (Nat.le_refl _) (Nat.zero_le _) (by omega)).mono ?_; rintro e w' ⟨rfl, rfl⟩)
  go_ret
  have hsz0 : w'.heap.size = w.heap.size := by rw [HW0.out]; rfl
  have hb0 : But (· = b) w w' := by rw [HW0.out]; exact ⟨rfl, rfl, rfl, Nat.le_refl _, fun _ _ _ => rfl⟩
  have hne : w'.heap.size ≠ b := by omega
  have hbW1 : b < (w'.setCell ⟨b, q, none⟩ (.slice (some ⟨w'.heap.size, 0, none⟩) n 64)).heap.size := by simpa [World.setCell] using hbW0
  have hNf : ((w'.setCell ⟨b, q, none⟩ (.slice (some ⟨w'.heap.size, 0, none⟩) n 64)).alloc (.cells M (ρ.t 5))).heap[w'.heap.size]? = some (.cells M (ρ.t 5) (0, 0)) := by
    have h := heap_alloc_new (w'.setCell ⟨b, q, none⟩ (.slice (some ⟨w'.heap.size, 0, none⟩) n 64)) (.cells M (ρ.t 5))
    rwa [show (w'.setCell ⟨b, q, none⟩ (.slice (some ⟨w'.heap.size, 0, none⟩) n 64)).heap.size = w'.heap.size by simp [World.setCell]] at h
  exact ⟨rfl, w'.heap.size, 64, M, ⟨(hbk0.set0 _).of_heap (Below.heap_alloc _ _ b hbW1), hNf, h64, by unfold maxLen; omega, hMs, hne⟩, by omega, (hb0.setCell (fun _ => rfl) q _).alloc _⟩

section
variable {T e : TypeId} {R : Nat → Option Value} {lr : Int} {b q g l l' cap : Nat} {cur : Array Value} {w : World}

theorem BRow.isBuffer (h : BRow T R e b q lr g l cap cur w) : LibA.IsBuffer T R e 0 b q (cur.toList.take l) w := by
  obtain ⟨h1, h2, h3, h4, h5, h6⟩ := h
  exact LibA.isBuffer_mk (Nat.zero_le _) h1 (Nat.zero_le _) h2 h3 h4 h5 h6

theorem take_set (hl : l < cur.size) (v : Value) : (cur.setIfInBounds l v).toList.take (l + 1) = cur.toList.take l ++ [v] := by
  have hll : l < cur.toList.length := by rw [Array.length_toList]; exact hl
  rw [Array.toList_setIfInBounds, List.take_add_one, List.take_set_of_le (Nat.le_refl _), List.getElem?_set_self hll]
  rfl

theorem BRow.poke (h : BRow T R e b q lr g l' cap cur w) (i : Nat) (v : Value) : BRow T R e b q lr g l' cap (cur.setIfInBounds i v) (w.setCell ⟨g, i, none⟩ v) :=
  ⟨h.three.of_heap (Below.heap_setCell _ _ _ _ (Ne.symm h.ne)), Lib.heap_setCell_same (i := i) h.row v, h.le, h.most, by simpa using h.size, h.ne⟩

theorem BRow.setRow (h : BRow T R e b q lr g l' cap cur w) {C : Array Value} (hC : C.size = cap) : BRow T R e b q lr g l' cap C (w.setRow g C) :=
  ⟨h.three.of_heap (setRow_other _ _ _ _ (Ne.symm h.ne)), setRow_heap w g cur _ e (0, 0) h.row, h.le, h.most, hC, h.ne⟩

theorem But.setRow {N : Nat → Prop} {w w' : World} (a : But N w w') {g : Nat} (hg : g < w.heap.size → N g) (C : Array Value) : But N w (w'.setRow g C) :=
  ⟨a.os, a.tape, a.output, by simpa using a.size, fun k hk hn => (setRow_other _ _ _ _ (by rintro rfl; exact hn (hg hk))).trans (a.block k hk hn)⟩
end

set_option maxHeartbeats 6400000 in
set_option maxRecDepth 100000 in
/-- WriteByte to a buffer that was never written. -/
theorem writeByte_nil (L : LaysM.n179 P ρ) (T : TypeId) (R : Nat → Option Value) (b q : Nat) (c lr : Int) (w : World) (hbk : LibA.Three w b q T R (.slice none 0 0) (.int .i64 0) (.int .i8 lr)) :
    Calls P (ρ.f 179) #[.pointer (some ⟨b, q, none⟩), .int .u8 c] w fun e w' => e = .returned .nilIface ∧ ∃ g' cap' cur', BRow T R (ρ.t 5) b q 0 g' 1 cap' cur' w' ∧ cur'.toList.take 1 = [.int .u8 c] ∧ w.heap.size ≤ g' ∧ But (· = b) w w' := by
  have mixed := L.mixed
  have t5 := L.t5; have a5 := L.a5; have z5 := L.z5; have v5 := L.v5
  have t130 := L.t130; have a130 := L.a130; have z130 := L.z130; have v130 := L.v130
  have t75 := L.t75; have a75 := L.a75; have z75 := L.z75; have v75 := L.v75
  have t0 := L.t0; have a0 := L.a0; have z0 := L.z0; have v0 := L.v0
  have t93 := L.t93; have u93 := run_underlying L.t93; have a93 := L.a93; have z93 := L.z93; have v93 := L.v93
  have t91 := L.t91; have a91 := L.a91; have z91 := L.z91; have v91 := L.v91
  have t3 := L.t3; have a3 := L.a3; have z3 := L.z3; have v3 := L.v3
  have t131 := L.t131; have a131 := L.a131; have z131 := L.z131; have v131 := L.v131
  have t4 := L.t4; have a4 := L.a4; have z4 := L.z4; have v4 := L.v4
  have t37 := L.t37; have a37 := L.a37; have z37 := L.z37; have v37 := L.v37
  have e251 : ∀ args w, (callFunc (ρ.f 251) args).run P w = .ok (.enter (ρ.f 251) args) w := enters_of L.f251 (by kernel_rfl) rfl
  have e252 : ∀ args w, (callFunc (ρ.f 252) args).run P w = .ok (.enter (ρ.f 252) args) w := enters_of L.f252 (by kernel_rfl) rfl
  have c2 : w.cell? ⟨b, q + 2, none⟩ = some (.int .i8 lr) := hbk.c2
  have f2 : w.frozen? ⟨b, q + 2, none⟩ = false := hbk.f (q + 2)
  have hbut : But (· = b) w (w.setCell ⟨b, q + 2, none⟩ (.int .i8 0)) := (But.refl (· = b) w).setCell (fun _ => rfl) (q + 2) _
  have hbk1 := hbk.set2 (.int .i8 0)
  have hsz : (w.setCell ⟨b, q + 2, none⟩ (.int .i8 0)).heap.size = w.heap.size := by simp [World.setCell]
  generalize hW : w.setCell ⟨b, q + 2, none⟩ (.int .i8 0) = W at hbut hbk1 hsz
  have k0 : W.cell? ⟨b, q, none⟩ = some (.slice none 0 0) := hbk1.c0
  have hT : Calls P (ρ.f 251) #[.pointer (some ⟨b, q, none⟩), .int .i64 1] W _ := Any.Buffer_tryGrow_none_at { L with } b q none 0 0 1 W k0 (Nat.le_refl _) (Nat.zero_le _) (by omega)
  have hG : Calls P (ρ.f 252) #[.pointer (some ⟨b, q, none⟩), .int .i64 1] W _ := grow_small { L with } T R b q 1 0 W hbk1 (Nat.le_refl _) (by omega)
  clear hbk hbk1
  go_enter L.f179, Body.n179_ntmps ρ
  go_wp2_with (go_at_fn (ρ.f 251); (try rw [hW]); refine hT.mono ?_; rintro e w' ⟨rfl, rfl⟩)
  go_wp2_with (go_at_fn (ρ.f 252); refine hG.mono ?_)
  rintro e W1 ⟨rfl, g, cap, cur, hI, hge, hbut1⟩
  clear hT hG c2 f2
  have d0 : W1.cell? ⟨b, q, none⟩ = some (.slice (some ⟨g, 0, none⟩) 1 cap) := hI.three.c0
  have hlt : 0 < cur.size := by rw [hI.size]; exact hI.le
  have dg : W1.cell? ⟨g, 0, none⟩ = some cur[0] := by rw [Lib.cell_of_heap hI.row, Array.getElem?_eq_getElem hlt]
  have fg : W1.frozen? ⟨g, 0, none⟩ = false := Lib.frozen_of_heap hI.row _
  have hcm' := hI.most
  unfold maxLen at hcm'
  have hcl := hI.le
  go_wp2
  go_ret
  refine ⟨rfl, g, cap, _, hI.poke 0 (.int .u8 c), ?_, by omega, (hbut.trans (hbut1.mono fun _ _ h => h)).setCell (fun h => by omega) 0 _⟩
  have := take_set hlt (.int .u8 c)
  simpa using this
end Go.R
