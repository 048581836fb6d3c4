/- A bytes.Buffer: a string written; its bytes handed out. -/
import Derived.Test.YtmekcfdllhphlaaDoorRBuf4
set_option linter.unusedVariables false
set_option linter.unusedSimpArgs false
namespace Go.R
open Go Go.Proofs Go.Shelf Go.RowKit

/-- What is shown of one function serves in its place. -/
theorem intr_cons {P : Program} {f0 : FuncId} {g0 : List AV → AHeap → Option (AV × AHeap)} {intr : FuncId → Option (List AV → AHeap → Option (AV × AHeap))} (h0 : CallOK P fun f' args h => if f' = f0 then g0 args h else none)
    (hs : ∀ args h r h', g0 args h = some (r, h') → Steady h h') (h : IntrOK P intr) : IntrOK P fun f => if f = f0 then some g0 else intr f := by
  intro f g hg
  dsimp only at hg
  split at hg
  · rename_i hf
    subst hf
    cases hg
    exact ⟨h0, hs⟩
  · exact h f g hg

def bytesA (s : ByteArray) : List AV := s.data.toList.map fun b => .int .u8 b.toNat

/-- WriteString, as it is served. -/
def wsA (e : TypeId) (args : List AV) (h : AHeap) : Option (AV × AHeap) :=
  match args with
  | [.ptr id off, .str s] => if s.size = 0 then none else (bufRow e (bytesA s) id off h).map fun h' => (.tup [.int .i64 s.size, .any], h')
  | _ => none

section
variable {P : Program} {ρ : Ren}

theorem ws_ok (L : LaysM.n178 P ρ) (henter : ∀ (vs : Array Value) (w : World), (callFunc (ρ.f 178) vs).run P w = .ok (.enter (ρ.f 178) vs) w) :
    CallOK P fun f' args h => if f' = ρ.f 178 then wsA (ρ.t 5) args h else none := by
  intro f args h r h' hc
  dsimp only at hc
  split at hc
  rotate_left
  · cases hc
  rename_i hf
  subst hf
  refine ⟨henter, fun L0 c vs hh hb0 hrel hargs => ?_⟩
  subst hh
  unfold wsA at hc
  split at hc
  rotate_left
  · cases hc
  rename_i id off s
  split at hc
  · cases hc
  rename_i hs0
  match vs, hargs with
  | [v1, v2], ⟨q1, q2, _⟩ =>
  simp only [VR] at q1 q2
  subst q2
  obtain ⟨_, ad, rfl, had⟩ := q1
  have hsl : (bytesA s).length = s.size := by simp [bytesA]
  have hnew : VRs c L0 (bytesA s) (Lib.byteCells s.data.toList) := bytes_VRs s.data.toList
  obtain ⟨h1, hr, he⟩ := Option.map_some' hc
  simp only [Prod.mk.injEq] at he
  obtain ⟨rfl, rfl⟩ := he
  obtain ⟨cs, i, n, bs, lr, g0, g1, g2, g3, g4, g5, g6, g7, rfl⟩ := bufRow_spec hr
  obtain ⟨C, T, v, k1, k2, k3, k4, k5, k6⟩ := buf_three hrel g0 (y := .any) g1 g2 g3
  obtain ⟨cap, cur, m1, m2, m3, m4, m5⟩ := buf_row hrel g0 g4 g5 g6 k5 k6
  have hlid : Live c.h id := ⟨hrel.lt _ _ g0, by rw [g0]; rfl⟩
  rw [had hlid]
  have hne : i ≠ id := by
    rintro rfl
    rw [g0] at g4; cases g4
  rw [hsl] at g7 ⊢
  refine (writeString_row L T _ _ _ _ n cap lr s cur c.w m1 m3 g6 hs0 g7).mono ?_
  rintro e w' ⟨he, g', cap', cur', r1, r2, r3, r4⟩
  have hone : ∀ u ∈ cur.toList.take n ++ Lib.byteCells s.data.toList, u.oneCell' = true := by
    intro u hu
    rcases List.mem_append.1 hu with hu | hu
    · exact m3 u hu
    · unfold Lib.byteCells at hu
      obtain ⟨b, _, rfl⟩ := List.mem_map.1 hu
      rfl
  obtain ⟨c', a1, a2, a3, a4⟩ := buf_upd (h1 := (c.h.kill i).put c.h.next (.row (ρ.t 5) (bs ++ bytesA s))) hrel hb0 g0 k1 k2 k3 k4 g2 r1 r2 (VRs.append m2 hnew) hone (by rw [List.length_append, g5, hsl]) r4 ((Steady.kill _ i).trans (Steady.put _ _ _)) (by show _ < c.h.next + 1 + 1; omega) (by rw [kill_put_get]; simp)
    (fun j hj => by
      rw [kill_put_get, if_neg hj]
      by_cases hji : j = i
      · exact .inl (by rw [if_pos hji])
      · exact .inr (by rw [if_neg hji]))
    (by rw [kill_put_get, if_neg (by have := hlid.1; omega), if_neg (Ne.symm hne)])
    (r3.imp (fun h => h) fun ⟨h1, h2⟩ => ⟨i, m4, h1.symm, by rw [kill_put_get, if_neg (by have := m4.1; omega), if_pos rfl], by rw [h2, m5, h1]⟩)
  refine ⟨c', _, he, a1, a2, ?_, a3, a4⟩
  simp only [VR]
  exact ⟨_, rfl, by simp [VRs, VR]⟩

theorem wb_steady {e : TypeId} (args : List AV) (h : AHeap) (r : AV) (h' : AHeap) (hc : wbA e args h = some (r, h')) : Steady h h' := by
  unfold wbA at hc
  split at hc
  · split at hc
    · rename_i h1 hr
      cases hc
      exact buf_steady.1 hr
    · obtain ⟨h1, hr, he⟩ := Option.map_some' hc
      cases he
      exact buf_steady.2 hr
  · cases hc
theorem ws_steady {e : TypeId} (args : List AV) (h : AHeap) (r : AV) (h' : AHeap) (hc : wsA e args h = some (r, h')) : Steady h h' := by
  unfold wsA at hc
  split at hc
  · split at hc
    · cases hc
    · obtain ⟨h1, hr, he⟩ := Option.map_some' hc
      cases he
      exact buf_steady.1 hr
  · cases hc

/-- A row becomes cells like others. -/
def plainA (x : AV × AHeap) : Option (AV × AHeap) :=
  match x.1 with
  | .rs i _ _ _ => (x.2.get i).bind fun | .row _ cs => some (x.1, x.2.put i (.cells cs)) | _ => none
  | _ => none

theorem plain_ok {cf : CallF} (hcf : CallOK P cf) (f0 : FuncId) : CallOK P fun f args h => if f = f0 then (cf f0 args h).bind plainA else none := by
  intro f args h r h' hc
  dsimp only at hc
  split at hc
  rotate_left
  · cases hc
  rename_i hf
  subst hf
  rw [Option.bind_eq_some_iff] at hc
  obtain ⟨⟨x, h1⟩, hx, hc⟩ := hc
  obtain ⟨hin, hcall⟩ := hcf f args h x h1 hx
  refine ⟨hin, fun L0 c vs hh hb0 hrel hargs => ?_⟩
  refine (hcall L0 c vs hh hb0 hrel hargs).mono ?_
  rintro e w' ⟨c1, v, rfl, rfl, rfl, hv, hrel1, e1⟩
  unfold plainA at hc
  simp only at hc
  split at hc
  rotate_left
  · cases hc
  rename_i i o n z
  rw [Option.bind_eq_some_iff] at hc
  obtain ⟨ob, hob, hc⟩ := hc
  cases ob with
  | map es => cases hc
  | cells cs => cases hc
  | row t cs =>
    cases hc
    have hun : un L0 none0 = L0 := by funext b; simp [un, none0]
    have hli : Live c1.h i := ⟨hrel1.lt _ _ hob, by rw [hob]; rfl⟩
    obtain ⟨hz, C, hC, hle, hmax, hcl⟩ := hrel1.obj _ _ hob
    obtain ⟨e2, f2⟩ := (Fr.none hrel1).upd (w' := c1.w) (β' := c1.β) (h' := c1.h.put i (.cells cs)) i (.cells cs) (Steady.put _ _ _) (Nat.lt_succ_of_lt hli.1) (by simp [AHeap.put, beq_nat])
      (fun j hj => .inr ⟨by simp [AHeap.put, beq_nat, hj], rfl⟩) (fun _ => ⟨hli, rfl⟩) (.inr ⟨i, hli, rfl, .inl rfl⟩) (fun _ => rfl) (fun _ _ _ => rfl) (fun _ _ _ => rfl) (Nat.le_refl _) (by rw [e1.base]; exact Nat.le_trans hb0 e1.size) rfl rfl rfl
      (fun ee => ⟨C.size, ⟨C, t, hC, rfl⟩, by rw [hz, Nat.zero_add]; exact hle, by
        have := Cells.move (L0 := L0) ee cs (c1.β i).1 0 (c1.β i).1 0 (fun _ _ => rfl) (by rw [hun]; exact hcl)
        rw [hz]; exact this⟩)
    refine ⟨⟨c1.β, c1.h.put i (.cells cs), c1.w, c1.base⟩, v, rfl, rfl, rfl, ?_, by have := f2.rel; rwa [hun] at this, e1.trans e2⟩
    have := VR.ext (L0 := L0) e2 _ _ (by rw [hun]; exact hv)
    rwa [hun] at this

theorem plain_steady {cf : CallF} (hst : SteadyF cf) (f0 : FuncId) (args : List AV) (h : AHeap) (r : AV) (h' : AHeap) (hc : (cf f0 args h).bind plainA = some (r, h')) : Steady h h' := by
  rw [Option.bind_eq_some_iff] at hc
  obtain ⟨⟨x, h1⟩, hx, hc⟩ := hc
  unfold plainA at hc
  simp only at hc
  split at hc
  · rw [Option.bind_eq_some_iff] at hc
    obtain ⟨ob, hob, hc⟩ := hc
    cases ob with
    | map es => cases hc
    | cells cs => cases hc
    | row t cs =>
      cases hc
      exact (hst _ _ _ _ _ hx).trans (Steady.put _ _ _)
  · cases hc
end
end Go.R
