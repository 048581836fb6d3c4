/- Part of the proof: RG1, RG2, RG3, RG4, RT, RG5, RG6, RG7, RG8. -/
import Derived.Test.YtmekcfdllhphlaaDoorK3
set_option linter.unusedVariables false
set_option linter.unusedSimpArgs false
set_option maxRecDepth 100000
namespace Go.R
open Go
section
variable (P : Program)
def loadH (h : AHeap) (t : TypeId) (x : AV) : Option AV := loadA P (fun _ => none) h t x
def storeH (h : AHeap) (t : TypeId) (a x : AV) : Option AHeap :=
  match a with
  | .ptr id off => (h.get id).bind fun | .cells cs => (writeCs P t cs off x).map fun cs' => h.put id (.cells cs') | _ => none
  | _ => none
def callO (cf : CallF) (f : AV) (as : List AV) (h : AHeap) : Option (AV × AHeap) :=
  match f with
  | .fn f cap => if as.all AV.argOK then cf f (as ++ cap) h else none
  | _ => none
def boxH (h : AHeap) (cs : List AV) : Option (AV × AHeap) := if cs.all AV.cellOK then some (.ptr h.next 0, h.alloc (.cells cs)) else none
def newH (locs : List Nat) (d : Option Nat) : Bool := match d with | some d => !locs.contains d | none => false
def trackH (locs : List Nat) (h : AHeap) (o : Oper) (t : TypeId) (x : Option AV) : Option (AV × AHeap) :=
  x.bind fun x => (trackV P locs o t x).map fun (cs, n, z) => (.rs h.next 0 n z, h.alloc (.cells cs))
def oblV (e : Operand → AV) (h : AHeap) (o : Oper) (z : AV) : Prop :=
  match o.op with
  | .move x | .assign x => e x = z
  | .load t a => loadH P h t (e a) = some z
  | .binOp op t x y _ => binOpA P op t (e x) (e y) = some z
  | .unOp op _ x => ((e x).conc1.bind fun a => (pureRun P (Op.unary op a)).bind ofV1) = some z
  | .convert a b x => convertA P h a b (e x) = some z
  | .slice t x lo hi mx => sliceA P t (e x) (lo.map e) (hi.map e) (mx.map e) = some z
  | .indexAddr t x i => indexAddrA P t (e x) (e i) = some z
  | .index t x i => indexA P t (e x) (e i) = some z
  | .lookup t m k ok => lookupA P h t (e m) (e k) ok = some z
  | .call { callee := .builtin .len, args, argTypes } => match argTypes.toList, args.toList.map e with
    | [t], [x] => lenA P h t x = some z
    | _, _ => False
  | _ => False
def oblH (cf : CallF) (locs : List Nat) (e : Operand → AV) (h : AHeap) (o : Oper) (z : AV) (h' : AHeap) : Prop :=
  match o.op with
  | .store t a x => bif o.dst.isSome then False else storeH P h t (e a) (e x) = some h'
  | .alloc t => bif newH locs o.dst then (zeroA P t).bind (fun z => boxH h (rdyC locs o.dst z.cells)) = some (z, h') else False
  | .box _ x => bif newH locs o.dst then boxH h (e x).cells = some (z, h') else False
  | .buildSlice t n ps => trackH P locs h o t (buildSliceA P t n (ps.toList.map fun (i, x) => (i, e x))) = some (z, h')
  | .makeMap _ none => (AV.mp h.next, h.alloc (.map [])) = (z, h')
  | .makeSlice t l c => makeSliceA P h t (e l) (e c) = some (z, h')
  | .mapUpdate t m k x | .insert t m k x => bif o.dst.isSome then False else mapUpdA P h t (e m) (e k) (e x) = some h'
  | .call { callee := .builtin .append, args, argTypes } => match argTypes.toList, args.toList.map e with
    | [t, t2], [x, y] => appendA P h t t2 x y = some (z, h')
    | _, _ => False
  | .call { callee := .builtin .copy, args, argTypes } => match argTypes.toList, args.toList.map e with
    | [t, t2], [x, y] => copyA P h t t2 x y = some (z, h')
    | _, _ => False
  | .call { callee := .value f, args, .. } => callO cf (e f) (args.toList.map e) h = some (z, h')
  | _ => False
end
abbrev Orc := List (Nat × AV × Option AHeap)
def runO (P : Program) (cf : CallF) (locs : List Nat) (ops : List Oper) : RS → Nat → List Oper → Orc → Option (List Ent × RS × Prop)
  | s, _, [], [] => some ([], s, True)
  | _, _, [], _ :: _ => none
  | s, i, o :: os, zs =>
    (wantedA ops s.ρ o).bind fun w =>
      bif w then
        match zs with
        | [] => (opA P cf locs (ops.filterMap (·.dst)) s o).bind fun s1 => (runO P cf locs ops s1 (i + 1) os []).map fun (l, r, p) => ({ o, f := footE locs (opnd s.ρ) o, s, s' := s1 } :: l, r, p)
        | (j, z, oh) :: zs' =>
          bif Nat.beq i j then
            match oh with
            | none => (runO P cf locs ops (s.set o.dst z) (i + 1) os zs').map fun (l, r, p) => ({ o, f := footE locs (opnd s.ρ) o, s, s' := s.set o.dst z } :: l, r, oblV P (opnd s.ρ) s.h o z ∧ p)
            | some h' => (runO P cf locs ops (({ s with h := h' } : RS).set o.dst z) (i + 1) os zs').map fun (l, r, p) => ({ o, f := footE locs (opnd s.ρ) o, s, s' := ({ s with h := h' } : RS).set o.dst z } :: l, r, oblH P cf locs (opnd s.ρ) s.h o z h' ∧ p)
          else (opA P cf locs (ops.filterMap (·.dst)) s o).bind fun s1 => (runO P cf locs ops s1 (i + 1) os zs).map fun (l, r, p) => ({ o, f := footE locs (opnd s.ρ) o, s, s' := s1 } :: l, r, p)
      else (runO P cf locs ops (s.set o.dst (.tup [])) (i + 1) os zs).map fun (l, r, p) => ({ o, f := {}, s, s' := s.set o.dst (.tup []) } :: l, r, p)
section
variable {P : Program} {cf : CallF} {locs : List Nat}
theorem loadH_ok {h : AHeap} {t : TypeId} {x z : AV} {bx : Nat → Option (List AV)} (hh : loadH P h t x = some z) : loadA P bx h t x = some z := by
  cases x <;> first | exact hh | (simp [loadH, loadA] at hh)
theorem oblV_ok {s : RS} {o : Oper} {z : AV} (h : oblV P (opnd s.ρ) s.h o z) (ds : List Nat) : opA P cf locs ds s o = some (s.set o.dst z) := by
  unfold oblV at h
  unfold opA opE
  dsimp only
  split at h
  · rename_i ho; rw [ho]; simp only [h]
  · rename_i ho; rw [ho]; simp only [h]
  · rename_i ho; rw [ho]; simp only [loadH_ok h, Option.map_some]
  · rename_i ho; rw [ho]; simp only [h, Option.map_some]
  · rename_i ho; rw [ho]; simp only [h, Option.map_some]
  · rename_i ho; rw [ho]; simp only [h, Option.map_some]
  · rename_i ho; rw [ho]; simp only [h, Option.map_some]
  · rename_i ho; rw [ho]; simp only [h, Option.map_some]
  · rename_i ho; rw [ho]; simp only [h, Option.map_some]
  · rename_i ho; rw [ho]; simp only [h, Option.map_some]
  · rename_i ho
    rw [ho]
    split at h
    · rename_i h1 h2
      simp only [h1, h2, callBuiltin, h, Option.map_some]
    · exact h.elim
  · exact h.elim
theorem newBox_H {s : RS} {o : Oper} {cs : List AV} {z : AV} {h' : AHeap} (hn : newH locs o.dst = true) (h : boxH s.h cs = some (z, h')) (ds : List Nat) : newBox s locs ds o cs = some (({ s with h := h' } : RS).set o.dst z) := by
  unfold boxH at h
  split at h
  rotate_left
  · cases h
  rename_i hok
  simp only [Option.some.injEq, Prod.mk.injEq] at h
  obtain ⟨rfl, rfl⟩ := h
  unfold newBox
  rw [if_pos hok]
  unfold newH at hn
  split at hn
  · rename_i d hd
    rw [hd]
    have : locs.contains d = false := by simpa using hn
    simp only [this, Bool.false_eq_true, if_false]
  · cases hn
theorem oblH_ok {s : RS} {o : Oper} {z : AV} {h' : AHeap} (h : oblH P cf locs (opnd s.ρ) s.h o z h') (ds : List Nat) : opA P cf locs ds s o = some (({ s with h := h' } : RS).set o.dst z) := by
  unfold oblH at h
  unfold opA opE
  dsimp only
  split at h
  · rename_i t a x ho
    rw [ho]
    cases hd : o.dst with
    | some d => rw [hd] at h; exact h.elim
    | none =>
      rw [hd] at h
      simp only [Option.isSome_none, cond_false] at h
      simp only [Option.isSome_none, Bool.false_eq_true, if_false]
      unfold storeH at h
      split at h
      · rename_i id off he
        rw [he]
        simp only [Option.bind_eq_some_iff] at h ⊢
        obtain ⟨ob, hob, h⟩ := h
        refine ⟨ob, hob, ?_⟩
        split at h
        · rw [Option.map_eq_some_iff] at h ⊢
          obtain ⟨cs', hcs, rfl⟩ := h
          exact ⟨cs', hcs, rfl⟩
        · cases h
      · cases h
  · rename_i t ho
    rw [ho]
    cases hn : newH locs o.dst with
    | false => rw [hn] at h; exact h.elim
    | true =>
      rw [hn] at h
      simp only [cond_true, Option.bind_eq_some_iff] at h
      obtain ⟨z0, h1, h2⟩ := h
      simp only [h1, Option.bind_some]
      exact newBox_H hn h2 ds
  · rename_i t x ho
    rw [ho]
    cases hn : newH locs o.dst with
    | false => rw [hn] at h; exact h.elim
    | true =>
      rw [hn] at h
      exact newBox_H hn h ds
  · rename_i t n ps ho
    rw [ho]
    unfold trackH at h
    simp only [Option.bind_eq_some_iff, Option.map_eq_some_iff] at h
    obtain ⟨x, hx, ⟨cs, k, q⟩, ht, he⟩ := h
    simp only [Prod.mk.injEq] at he
    obtain ⟨rfl, rfl⟩ := he
    simp only [hx, Option.map_some, trackA, ht]
  · rename_i ho
    rw [ho]
    simp only [Prod.mk.injEq] at h
    obtain ⟨rfl, rfl⟩ := h
    rfl
  · rename_i ho; rw [ho]; simp only [h, Option.map_some]
  · rename_i t m k x ho
    rw [ho]
    cases hd : o.dst with
    | some d => rw [hd] at h; exact h.elim
    | none =>
      rw [hd] at h
      simp only [Option.isSome_none, cond_false] at h
      simp only [Option.isSome_none, Bool.false_eq_true, if_false, h, Option.map_some]
      rfl
  · rename_i t m k x ho
    rw [ho]
    cases hd : o.dst with
    | some d => rw [hd] at h; exact h.elim
    | none =>
      rw [hd] at h
      simp only [Option.isSome_none, cond_false] at h
      simp only [Option.isSome_none, Bool.false_eq_true, if_false, h, Option.map_some]
      rfl
  · rename_i ho
    rw [ho]
    split at h
    · rename_i h1 h2
      simp only [h1, h2, callBuiltin, h, Option.map_some]
    · exact h.elim
  · rename_i ho
    rw [ho]
    split at h
    · rename_i h1 h2
      simp only [h1, h2, callBuiltin, h, Option.map_some]
    · exact h.elim
  · rename_i f args ats ho
    rw [ho]
    unfold callO at h
    split at h
    · rename_i g cap he
      dsimp only
      rw [he]
      split at h
      · rename_i hok
        simp only [hok, if_true, h, Option.map_some]
      · cases h
    · cases h
  · exact h.elim
theorem runO_ok {ops : List Oper} : ∀ {l : List Oper} {s r : RS} {i : Nat} {zs : Orc} {es : List Ent} {p : Prop}, runO P cf locs ops s i l zs = some (es, r, p) → p → runD P cf locs ops s l = some (es, r) ∧ runA P cf locs ops s l = some r
  | [], s, r, i, [], es, p, h, _ => by
    simp only [runO, Option.some.injEq, Prod.mk.injEq] at h
    obtain ⟨rfl, rfl, rfl⟩ := h
    exact ⟨rfl, rfl⟩
  | [], s, r, i, _ :: _, es, p, h, _ => by simp [runO] at h
  | o :: os, s, r, i, zs, es, p, h, hp => by
    simp only [runO, Option.bind_eq_some_iff] at h
    obtain ⟨w, hw, h⟩ := h
    have fin : ∀ (s1 : RS) (l : List Ent) (zs' : Orc) (q : Prop), (if w then opA P cf locs (ops.filterMap (·.dst)) s o else some (s.set o.dst (.tup []))) = some s1 → runO P cf locs ops s1 (i + 1) os zs' = some (l, r, q) → q →
        runD P cf locs ops s (o :: os) = some ({ o, f := if w then footE locs (opnd s.ρ) o else {}, s, s' := s1 } :: l, r) ∧ runA P cf locs ops s (o :: os) = some r := by
      intro s1 l zs' q h1 h2 hq
      obtain ⟨h3, h4⟩ := runO_ok h2 hq
      refine ⟨?_, ?_⟩
      · simp only [runD, hw, Option.bind_some, h1, h3, Option.map_some]
      · simp only [runA, stepA, hw, Option.bind_some, h1, h4]
    cases w with
    | false =>
      simp only [cond_false, Option.map_eq_some_iff] at h
      obtain ⟨⟨l, r', q⟩, h2, he⟩ := h
      simp only [Prod.mk.injEq] at he
      obtain ⟨rfl, rfl, rfl⟩ := he
      simpa using fin _ l zs q (by simp) h2 hp
    | true =>
      simp only [cond_true] at h
      split at h
      · simp only [Option.bind_eq_some_iff, Option.map_eq_some_iff] at h
        obtain ⟨s1, h1, ⟨l, r', q⟩, h2, he⟩ := h
        simp only [Prod.mk.injEq] at he
        obtain ⟨rfl, rfl, rfl⟩ := he
        simpa using fin _ l [] q (by simpa using h1) h2 hp
      · rename_i j z oh zs'
        cases hj : Nat.beq i j with
        | false =>
          rw [hj] at h
          simp only [cond_false, Option.bind_eq_some_iff, Option.map_eq_some_iff] at h
          obtain ⟨s1, h1, ⟨l, r', q⟩, h2, he⟩ := h
          simp only [Prod.mk.injEq] at he
          obtain ⟨rfl, rfl, rfl⟩ := he
          simpa using fin _ l _ q (by simpa using h1) h2 hp
        | true =>
          rw [hj] at h
          simp only [cond_true] at h
          split at h
          · simp only [Option.map_eq_some_iff] at h
            obtain ⟨⟨l, r', q⟩, h2, he⟩ := h
            simp only [Prod.mk.injEq] at he
            obtain ⟨rfl, rfl, rfl⟩ := he
            simpa using fin _ l _ q (by simpa using oblV_ok hp.1 _) h2 hp.2
          · simp only [Option.map_eq_some_iff] at h
            obtain ⟨⟨l, r', q⟩, h2, he⟩ := h
            simp only [Prod.mk.injEq] at he
            obtain ⟨rfl, rfl, rfl⟩ := he
            simpa using fin _ l _ q (by simpa using oblH_ok hp.1 _) h2 hp.2
end
def frzO (s : RS) : List (Nat × Option Nat × Nat) → List (AV × AHeap) → Option (RS × Prop)
  | [], _ => some (s, True)
  | (t, i, k) :: ps, zs =>
    match i with
    | none =>
      match k, s.ρ t, zs with
      | 0, .rs id off n z, (y, h') :: zs' => (frzO { s with h := h', ρ := fun u => bif Nat.beq u t then y else s.ρ u } ps zs').map fun (r, p) => (r, frzV 0 s.h (.rs id off n z) = some (y, h') ∧ p)
      | k, x, zs => (frzV k s.h x).bind fun (y, h') => frzO { s with h := h', ρ := fun u => bif Nat.beq u t then y else s.ρ u } ps zs
    | some i =>
      match s.bx t with
      | some cs => (cs[i]?).bind fun x =>
        match k, x, zs with
        | 0, .rs id off n z, (y, h') :: zs' => (frzO { s with h := h', bx := fun u => bif Nat.beq u t then some (cs.set i y) else s.bx u } ps zs').map fun (r, p) => (r, frzV 0 s.h (.rs id off n z) = some (y, h') ∧ p)
        | k, x, zs => (frzV k s.h x).bind fun (y, h') => frzO { s with h := h', bx := fun u => bif Nat.beq u t then some (cs.set i y) else s.bx u } ps zs
      | none => none
theorem frzO_ok : ∀ {ps : List (Nat × Option Nat × Nat)} {s r : RS} {zs : List (AV × AHeap)} {p : Prop}, frzO s ps zs = some (r, p) → p → frzA s ps = some r
  | [], s, r, zs, p, h, _ => by
    simp only [frzO, Option.some.injEq, Prod.mk.injEq] at h
    obtain ⟨rfl, rfl⟩ := h
    rfl
  | (t, i, k) :: ps, s, r, zs, p, h, hp => by
    cases i with
    | none =>
      have fin : ∀ (y : AV) (h' : AHeap) (zs' : List (AV × AHeap)) (q : Prop), frzV k s.h (s.ρ t) = some (y, h') → frzO { s with h := h', ρ := fun u => bif Nat.beq u t then y else s.ρ u } ps zs' = some (r, q) → q → frzA s ((t, none, k) :: ps) = some r := by
        intro y h' zs' q h1 h2 hq
        simp only [frzA, frz1, h1, Option.map_some, Option.bind_some]
        exact frzO_ok h2 hq
      simp only [frzO] at h
      split at h
      · rename_i id off n z y h' zs' hx
        rw [Option.map_eq_some_iff] at h
        obtain ⟨⟨r', q⟩, h2, he⟩ := h
        simp only [Prod.mk.injEq] at he
        obtain ⟨rfl, rfl⟩ := he
        exact fin y h' zs' q (by rw [hx]; exact hp.1) h2 hp.2
      · rw [Option.bind_eq_some_iff] at h
        obtain ⟨⟨y, h'⟩, h1, h2⟩ := h
        exact fin y h' _ p h1 h2 hp
    | some i =>
      simp only [frzO] at h
      split at h
      rotate_left
      · cases h
      rename_i cs hcs
      rw [Option.bind_eq_some_iff] at h
      obtain ⟨x, hx, h⟩ := h
      have fin : ∀ (y : AV) (h' : AHeap) (zs' : List (AV × AHeap)) (q : Prop), frzV k s.h x = some (y, h') → frzO { s with h := h', bx := fun u => bif Nat.beq u t then some (cs.set i y) else s.bx u } ps zs' = some (r, q) → q → frzA s ((t, some i, k) :: ps) = some r := by
        intro y h' zs' q h1 h2 hq
        simp only [frzA, frz1, hcs, hx, Option.bind_some, h1, Option.map_some]
        exact frzO_ok h2 hq
      split at h
      · rename_i id off n z y h' zs'
        rw [Option.map_eq_some_iff] at h
        obtain ⟨⟨r', q⟩, h2, he⟩ := h
        simp only [Prod.mk.injEq] at he
        obtain ⟨rfl, rfl⟩ := he
        exact fin y h' zs' q hp.1 h2 hp.2
      · rw [Option.bind_eq_some_iff] at h
        obtain ⟨⟨y, h'⟩, h1, h2⟩ := h
        exact fin y h' _ p h1 h2 hp
def Ent.sparesC (x y : Ent) : Bool :=
  (match x.f.wb with
   | some k => !y.f.rb.contains k && y.f.wb != some k
   | none => true) &&
  (!x.f.wh || (!y.f.wh && y.f.rh.isEmpty))
def dynB (ops : List Oper) (arr : Array Oper) (s : RS) (es : List Ent) : Bool :=
  let ms := masksA [] ops
  stillText arr ms &&
    (let is := es.zipIdx
     let loud := is.filter fun (x, _) => !x.f.quiet
     loud.all (fun (x, i) => allocOK ms (ops.filterMap (·.dst)) s is x i && loud.all fun (y, j) => Nat.ble j i || (ms.getD j 0).testBit i || (x.sparesC y && y.sparesC x)))
theorem sparesC_ok {x y : Ent} (h : x.sparesC y = true) : x.spares y = true := by
  unfold Ent.sparesC at h
  unfold Ent.spares
  simp only [Bool.and_eq_true, Bool.or_eq_true] at h ⊢
  refine ⟨h.1, h.2.imp id fun ⟨h1, h2⟩ => ⟨h1, ?_⟩⟩
  rw [List.isEmpty_iff] at h2
  rw [h2]; rfl
theorem dynB_ok {P : Program} {cf : CallF} {locs : List Nat} {ops : Array Oper} {s r : RS} {es : List Ent} (h : dynB ops.toList ops s es = true) (hr : runD P cf locs ops.toList s ops.toList = some (es, r)) : drawsA P cf locs ops s = some r := by
  unfold dynB at h
  simp only [Bool.and_eq_true] at h
  obtain ⟨h1, h2⟩ := h
  unfold drawsA
  simp only [h1, if_true, hr, Option.bind_some]
  rw [if_pos]
  rw [List.all_eq_true] at h2 ⊢
  intro x hx
  have := h2 x hx
  simp only [Bool.and_eq_true] at this ⊢
  refine ⟨this.1, ?_⟩
  have h3 := this.2
  rw [List.all_eq_true] at h3 ⊢
  intro y hy
  have := h3 y hy
  simp only [Bool.or_eq_true, Bool.and_eq_true] at this ⊢
  exact this.imp id fun h => ⟨sparesC_ok h.1, sparesC_ok h.2⟩
def stepC (P : Program) (cf : CallF) (A : Ann) (c : Code) (fs : List (AV × AHeap)) (zs : Orc) (st : St) : Option (Prop × St) :=
  match c with
  | .region id ops draw => (frzO (st.open A) (listOf id A.frz) fs).bind fun (s0, p0) => (runO P cf A.locs ops.toList s0 0 ops.toList zs).bind fun (es, r, p) =>
      bif draw && !(dynB ops.toList ops s0 es) then none else (frzA r (listOf id A.frz2)).map fun r2 => (p0 ∧ p, r2.shutD A id)
  | _ => none
theorem stepC_ok {P : Program} {cf : CallF} {A : Ann} {m : Nat} {c : Code} {fs : List (AV × AHeap)} {zs : Orc} {st st' : St} {p : Prop} (h : stepC P cf A c fs zs st = some (p, st')) (hp : p) : execA P cf A m c st = some (.norm, st') := by
  unfold stepC at h
  split at h
  rotate_left
  · cases h
  rename_i id ops draw
  simp only [Option.bind_eq_some_iff] at h
  obtain ⟨⟨s0, p0⟩, h0, ⟨es, r, q⟩, h1, h⟩ := h
  have hd : ∃ r2, (draw = true → dynB ops.toList ops s0 es = true) ∧ frzA r (listOf id A.frz2) = some r2 ∧ p = (p0 ∧ q) ∧ st' = r2.shutD A id := by
    cases hc : (draw && !(dynB ops.toList ops s0 es)) with
    | true => simp only [hc, cond_true] at h; cases h
    | false =>
      simp only [hc, cond_false, Option.map_eq_some_iff, Prod.mk.injEq] at h
      obtain ⟨r2, h2, h3, h4⟩ := h
      refine ⟨r2, fun hdr => ?_, h2, h3.symm, h4.symm⟩
      simpa [hdr] using hc
  obtain ⟨r2, hdr, h2, rfl, rfl⟩ := hd
  obtain ⟨g1, g2⟩ := runO_ok h1 hp.2
  have g0 := frzO_ok h0 hp.1
  simp only [execA, g0, Option.bind_some]
  cases draw with
  | false => simp only [Bool.false_eq_true, if_false, g2, Option.bind_some, h2, Option.map_some]
  | true => simp only [if_true, dynB_ok (hdr rfl) g1, Option.bind_some, h2, Option.map_some]
end Go.R

namespace Go.R
open Go
def Enz (P : Program) (cf : CallF) (A : Ann) (m : Nat) (c : Code) (s : St) (Q : Ex → St → Prop) : Prop := ∃ e s', execA P cf A m c s = some (e, s') ∧ Q e s'
def Then (R : St → Prop) (Q : Ex → St → Prop) : Ex → St → Prop
  | .norm, s => R s
  | .exit i, s => Q (.exit i) s
  | .ret, s => Q .ret s
def Blk (id : Nat) (Q : Ex → St → Prop) : Ex → St → Prop
  | .norm, s => Q .norm s
  | .exit i, s => bif Nat.beq i id then Q .norm s else Q (.exit i) s
  | .ret, s => Q .ret s
section
variable {P : Program} {cf : CallF} {A : Ann} {m : Nat} {s : St} {Q : Ex → St → Prop}
theorem ends_seq {a b : Code} (h : Enz P cf A m a s (Then (fun s' => Enz P cf A m b s' Q) Q)) : Enz P cf A m (.seq a b) s Q := by
  obtain ⟨e, s', h1, h2⟩ := h
  cases e with
  | norm =>
    obtain ⟨e2, s2, h3, h4⟩ := h2
    exact ⟨e2, s2, by simp only [execA, h1, Option.bind_some, h3], h4⟩
  | exit i => exact ⟨_, s', by simp only [execA, h1, Option.bind_some], h2⟩
  | ret => exact ⟨_, s', by simp only [execA, h1, Option.bind_some], h2⟩
theorem ends_block {id : Nat} {a : Code} (h : Enz P cf A m a s (Blk id Q)) : Enz P cf A m (.block id a) s Q := by
  obtain ⟨e, s', h1, h2⟩ := h
  cases e with
  | norm => exact ⟨_, s', by simp only [execA, h1, Option.map_some], h2⟩
  | exit i =>
    simp only [Blk, beq_nat] at h2
    by_cases hi : i = id
    · simp only [hi, decide_true, cond_true] at h2
      exact ⟨_, s', by simp only [execA, h1, Option.map_some, hi, if_true], h2⟩
    · simp only [hi, decide_false, cond_false] at h2
      exact ⟨_, s', by simp only [execA, h1, Option.map_some, hi, if_false], h2⟩
  | ret => exact ⟨_, s', by simp only [execA, h1, Option.map_some], h2⟩
theorem ends_reg {c : Code} {fs : List (AV × AHeap)} {zs : Orc} {st' : St} {p : Prop} (h : stepC P cf A c fs zs s = some (p, st')) (hp : p) (hQ : Q .norm st') : Enz P cf A m c s Q :=
  ⟨_, _, stepC_ok h hp, hQ⟩
theorem ends_skip (h : Q .norm s) : Enz P cf A m .skip s Q := ⟨_, _, rfl, h⟩
theorem ends_ret (h : Q .ret s) : Enz P cf A m .ret s Q := ⟨_, _, rfl, h⟩
theorem ends_exit {i : Nat} (h : Q (.exit i) s) : Enz P cf A m (.exit i) s Q := ⟨_, _, rfl, h⟩
theorem ends_cond {k : Operand} {x y : Code} (b : Bool) (hk : opnd (s.open A).ρ k = .bool b) (ht : b = true → Enz P cf A m x s Q) (hf : b = false → Enz P cf A m y s Q) : Enz P cf A m (.cond k x y) s Q := by
  cases b with
  | true =>
    obtain ⟨e, s', h1, h2⟩ := ht rfl
    exact ⟨e, s', by simp only [execA, hk, boolA, Option.bind_some, if_true, h1], h2⟩
  | false =>
    obtain ⟨e, s', h1, h2⟩ := hf rfl
    exact ⟨e, s', by simp only [execA, hk, boolA, Option.bind_some, Bool.false_eq_true, if_false, h1], h2⟩
theorem ends_of_eq {c c' : Code} (h : c = c') (k : Enz P cf A m c' s Q) : Enz P cf A m c s Q := h ▸ k
def LoopQ {S O : Type} (l : Nat → S → Option O) (Rel : S → St → Prop) (QO : O → Ex → St → Prop) (k : Nat) (out : O) : Ex → St → Prop
  | .norm, s => ∃ σ, Rel σ s ∧ l k σ = some out
  | .exit i, s => QO out (.exit i) s
  | .ret, s => QO out .ret s
theorem iter_typed {S O : Type} {l : Nat → S → Option O} {Rel : S → St → Prop} {QO : O → Ex → St → Prop} {body : Code} (h0 : ∀ σ, l 0 σ = none)
    (step : ∀ k σ s out, Rel σ s → l (k + 1) σ = some out → Enz P cf A m body s (LoopQ l Rel QO k out)) : ∀ (n : Nat) (σ : S) (s : St) (out : O), Rel σ s → l n σ = some out → ∃ e s', iterA (execA P cf A m body) n s = some (e, s') ∧ e ≠ .norm ∧ QO out e s'
  | 0, σ, s, out, _, h => by rw [h0] at h; cases h
  | n + 1, σ, s, out, hr, h => by
    obtain ⟨e, s', h1, h2⟩ := step n σ s out hr h
    cases e with
    | norm =>
      obtain ⟨σ', h3, h4⟩ := h2
      obtain ⟨e', s'', h5, h6⟩ := iter_typed h0 step n σ' s' out h3 h4
      exact ⟨e', s'', by simp only [iterA, h1, Option.bind_some, h5], h6⟩
    | exit i => exact ⟨_, s', by simp only [iterA, h1, Option.bind_some], by simp, h2⟩
    | ret => exact ⟨_, s', by simp only [iterA, h1, Option.bind_some], by simp, h2⟩
theorem ends_loop {S O : Type} (l : Nat → S → Option O) (Rel : S → St → Prop) (QO : O → Ex → St → Prop) {body : Code} (h0 : ∀ σ, l 0 σ = none)
    (step : ∀ k σ s out, Rel σ s → l (k + 1) σ = some out → Enz P cf A m body s (LoopQ l Rel QO k out)) {σ : S} {out : O} (hr : Rel σ s) (h : l m σ = some out) (hQ : ∀ e s', e ≠ .norm → QO out e s' → Q e s') : Enz P cf A m (.loop body) s Q := by
  obtain ⟨e, s', h1, h2, h3⟩ := iter_typed h0 step m σ s out hr h
  exact ⟨e, s', by simp only [execA, h1], hQ e s' h2 h3⟩
theorem body_of_ends {ann : FuncId → Ann} {f : FuncId} {fn : Func} {args : List AV} {h : AHeap} {R : AV → AHeap → Prop} (hf : P.funcs[f]? = some fn) (hb : fn.body = some (codeOf fn)) (hn : Nat.ble args.length fn.ntmps = true)
    (he : Enz P cf (ann f) m (codeOf fn) ⟨argsVars (ann f).keep args, (ann f).locs.map fun _ => none, h⟩ (fun e s => (e = .ret ∨ e = .norm) ∧ ∃ r, resultA P (s.open (ann f)) fn.results.toList = some r ∧ R r s.h)) :
    ∃ r h', bodyA P ann cf m f args h = some (r, h') ∧ R r h' := by
  obtain ⟨e, s, h1, h2, r, h3, h4⟩ := he
  refine ⟨r, s.h, ?_, h4⟩
  unfold bodyA
  rw [hf, Option.bind_some, hb, Option.bind_some, if_pos (Nat.le_of_ble_eq_true hn), h1, Option.bind_some]
  rcases h2 with rfl | rfl <;> simp only [h3, Option.map_some]
end
end Go.R

namespace Go.R
open Go
structure Enc (α : Type) where
  n : Nat
  f : α → List AV
  len : ∀ a, (f a).length = n
  pos : n ≠ 0
  small : n ≤ 1024 := by decide
  flat : Bool := true
  pure : ∀ a, flat = true → noIds (f a) = true ∧ unexs (f a) = f a
  canon : ∀ a, (f a).map canonC = f a
section
variable {α : Type} (E : Enc α)
def Enc.l (l : List α) : List AV := l.flatMap E.f
def Enc.fz (l : List α) : AV := .fz (E.l l) l.length false
variable {E}
theorem Enc.l_cons {a : α} {l : List α} : E.l (a :: l) = E.f a ++ E.l l := rfl
theorem Enc.l_nil : E.l [] = [] := rfl
theorem Enc.l_append {a b : List α} : E.l (a ++ b) = E.l a ++ E.l b := by simp [Enc.l]
theorem Enc.l_length : ∀ {l : List α}, (E.l l).length = l.length * E.n
  | [] => by simp [Enc.l]
  | a :: l => by rw [Enc.l_cons, List.length_append, E.len, Enc.l_length, List.length_cons, Nat.add_mul, Nat.one_mul, Nat.add_comm]
theorem Enc.l_small {l : List α} (h : l.length ≤ 1099511627776) : (E.l l).length ≤ 1125899906842624 := by
  rw [Enc.l_length]
  exact Nat.le_trans (Nat.mul_le_mul h E.small) (by decide)
theorem Enc.l_drop : ∀ {l : List α} {i : Nat}, (E.l l).drop (i * E.n) = E.l (l.drop i)
  | l, 0 => by simp
  | [], i + 1 => by simp [Enc.l]
  | a :: l, i + 1 => by
    rw [List.drop_succ_cons, ← Enc.l_drop, Enc.l_cons, Nat.add_mul, Nat.one_mul, List.drop_append, List.drop_of_length_le (by rw [E.len]; omega), List.nil_append, E.len, Nat.add_sub_cancel]
theorem Enc.l_take : ∀ {l : List α} {i : Nat}, (E.l l).take (i * E.n) = E.l (l.take i)
  | l, 0 => by simp [Enc.l]
  | [], i + 1 => by simp [Enc.l]
  | a :: l, i + 1 => by
    rw [Enc.l_cons, List.take_succ_cons, Enc.l_cons, Nat.add_mul, Nat.one_mul, Nat.add_comm, List.take_append]
    rw [E.len, List.take_of_length_le (by rw [E.len]; omega), Nat.add_sub_cancel_left, Enc.l_take]
theorem Enc.l_get {l : List α} {i : Nat} {a : α} (h : l[i]? = some a) {off : Nat} (ho : off < E.n) : (E.l l)[i * E.n + off]? = (E.f a)[off]? := by
  rw [← List.getElem?_drop, Enc.l_drop, List.drop_eq_getElem_cons (List.getElem?_eq_some_iff.1 h).1, (List.getElem?_eq_some_iff.1 h).2, Enc.l_cons, List.getElem?_append_left (by rw [E.len]; exact ho)]
theorem Enc.l_part {l : List α} {i : Nat} {a : α} (h : l[i]? = some a) : ((E.l l).drop (i * E.n)).take E.n = E.f a := by
  rw [Enc.l_drop, List.drop_eq_getElem_cons (List.getElem?_eq_some_iff.1 h).1, (List.getElem?_eq_some_iff.1 h).2, Enc.l_cons, List.take_append_of_le_length (by rw [E.len]; exact Nat.le_refl _)]
  rw [List.take_of_length_le (by rw [E.len]; exact Nat.le_refl _)]
theorem Enc.l_le {l : List α} {i : Nat} {a : α} (h : l[i]? = some a) : i * E.n + E.n ≤ (E.l l).length := by
  rw [Enc.l_length]
  have := (List.getElem?_eq_some_iff.1 h).1
  calc i * E.n + E.n = (i + 1) * E.n := by rw [Nat.add_mul, Nat.one_mul]
    _ ≤ _ := Nat.mul_le_mul_right _ this
theorem noIds_append : ∀ {a b : List AV}, noIds (a ++ b) = (noIds a && noIds b)
  | [], b => by simp [noIds]
  | x :: a, b => by simp [noIds, noIds_append, Bool.and_assoc]
theorem unexs_append : ∀ {a b : List AV}, unexs (a ++ b) = unexs a ++ unexs b
  | [], b => rfl
  | x :: a, b => by simp [unexs, unexs_append]
theorem Enc.l_pure (hp : E.flat = true) : ∀ {l : List α}, noIds (E.l l) = true ∧ unexs (E.l l) = E.l l
  | [] => ⟨rfl, rfl⟩
  | a :: l => by
    obtain ⟨h1, h2⟩ := E.pure a hp
    obtain ⟨h3, h4⟩ := Enc.l_pure hp (l := l)
    rw [Enc.l_cons, noIds_append, unexs_append, h1, h2, h3, h4]
    exact ⟨rfl, rfl⟩
theorem Enc.l_canon : ∀ {l : List α}, (E.l l).map canonC = E.l l
  | [] => rfl
  | a :: l => by rw [Enc.l_cons, List.map_append, E.canon, Enc.l_canon]
theorem Enc.fz_pure {l : List α} (hp : E.flat = true := by rfl) : (E.fz l).noId = true ∧ (E.fz l).unex = E.fz l := by
  obtain ⟨h1, h2⟩ := Enc.l_pure (E := E) hp (l := l)
  exact ⟨h1, by show AV.fz (unexs (E.l l)) l.length false = _; rw [h2]; rfl⟩
theorem splice_append : ∀ (cs vs pre suf : List AV), cs.length = vs.length → splice (pre ++ cs ++ suf) pre.length vs = pre ++ vs ++ suf
  | [], [], pre, suf, _ => by simp [splice]
  | c :: cs, v :: vs, pre, suf, h => by
    have := splice_append cs vs (pre ++ [v]) suf (by simpa using h)
    simp only [List.length_append, List.length_cons, List.length_nil, Nat.zero_add] at this
    rw [splice]
    have h2 : (pre ++ c :: cs ++ suf).set pre.length v = pre ++ [v] ++ cs ++ suf := by
      rw [List.append_assoc, List.set_append_right _ _ (Nat.le_refl _), Nat.sub_self]
      simp
    rw [h2, this]
    simp
  | [], _ :: _, _, _, h => by simp at h
  | _ :: _, [], _, _, h => by simp at h
theorem Enc.l_set {l : List α} {i : Nat} {a b : α} (h : l[i]? = some a) (rest : List AV) : splice (E.l l ++ rest) (i * E.n) (E.f b) = E.l (l.set i b) ++ rest := by
  have hi := (List.getElem?_eq_some_iff.1 h).1
  have hl : l = l.take i ++ a :: l.drop (i + 1) := by
    conv => lhs; rw [← List.take_append_drop i l, List.drop_eq_getElem_cons hi]
    rw [(List.getElem?_eq_some_iff.1 h).2]
  have hs : l.set i b = l.take i ++ b :: l.drop (i + 1) := List.set_eq_take_append_cons_drop .. |>.trans (by rw [if_pos hi])
  have e1 : E.l l = E.l (l.take i) ++ E.f a ++ E.l (l.drop (i + 1)) := by
    conv => lhs; rw [hl]
    rw [Enc.l_append, Enc.l_cons, List.append_assoc]
  have e2 : (E.l (l.take i)).length = i * E.n := by rw [Enc.l_length, List.length_take, Nat.min_eq_left (Nat.le_of_lt hi)]
  rw [hs, Enc.l_append, Enc.l_cons, e1, ← e2]
  have := splice_append (E.f a) (E.f b) (E.l (l.take i)) (E.l (l.drop (i + 1)) ++ rest) (by rw [E.len, E.len])
  simp only [List.append_assoc] at this ⊢
  exact this
theorem Enc.l_set1 {l : List α} {i : Nat} {a b : α} {off : Nat} {v : AV} (h : l[i]? = some a) (ho : off < E.n) (hb : (E.f a).set off v = E.f b) (rest : List AV) : (E.l l ++ rest).set (i * E.n + off) v = E.l (l.set i b) ++ rest := by
  have hi := (List.getElem?_eq_some_iff.1 h).1
  have hl : l = l.take i ++ a :: l.drop (i + 1) := by
    conv => lhs; rw [← List.take_append_drop i l, List.drop_eq_getElem_cons hi]
    rw [(List.getElem?_eq_some_iff.1 h).2]
  have hs : l.set i b = l.take i ++ b :: l.drop (i + 1) := List.set_eq_take_append_cons_drop .. |>.trans (by rw [if_pos hi])
  have e1 : E.l l = E.l (l.take i) ++ (E.f a ++ E.l (l.drop (i + 1))) := by
    conv => lhs; rw [hl]
    rw [Enc.l_append, Enc.l_cons]
  have e2 : (E.l (l.take i)).length = i * E.n := by rw [Enc.l_length, List.length_take, Nat.min_eq_left (Nat.le_of_lt hi)]
  rw [hs, Enc.l_append, Enc.l_cons, e1, ← hb, ← e2]
  simp only [List.append_assoc]
  rw [List.set_append_right _ _ (by omega), List.set_append_left _ _ (by rw [E.len]; omega)]
  congr 2
  simp
end
def ix {α : Type} (l : List α) (i : Int) : Option α := if 0 ≤ i then l[i.toNat]? else none
theorem ix_spec {α : Type} {l : List α} {i : Int} {a : α} (h : ix l i = some a) : 0 ≤ i ∧ i < l.length ∧ l[i.toNat]? = some a := by
  unfold ix at h
  split at h
  · rename_i h0
    have := (List.getElem?_eq_some_iff.1 h).1
    exact ⟨h0, by omega, h⟩
  · cases h
def upd {α : Type} (l : List α) (i : Int) (a : α) : Option (List α) := if 0 ≤ i ∧ i < l.length then some (l.set i.toNat a) else none
def slc {α : Type} (l : List α) (lo hi : Int) : Option (List α) := if 0 ≤ lo ∧ lo ≤ hi ∧ hi ≤ l.length then some ((l.drop lo.toNat).take (hi.toNat - lo.toNat)) else none
theorem slc_spec {α : Type} {l r : List α} {lo hi : Int} (h : slc l lo hi = some r) : 0 ≤ lo ∧ lo ≤ hi ∧ hi ≤ l.length ∧ r = (l.drop lo.toNat).take (hi.toNat - lo.toNat) := by
  unfold slc at h
  split at h
  · rename_i h0; cases h; exact ⟨h0.1, h0.2.1, h0.2.2, rfl⟩
  · cases h
def bt (s : ByteArray) (i : Int) : Option Int := if 0 ≤ i then (s.data.toList[i.toNat]?).map fun b => (b.toNat : Int) else none
inductive Ct where
  | sl (n sz : Nat) (cs : List AV)
  | ob (cs : List AV)
  | mp (es : List (AV × AV))
  | row (e : TypeId) (cs : List AV)
def own1 (h : AHeap) (i : Nat) : Ct → Prop
  | .sl n sz cs => (cs.length = n * sz ∧ cs.length ≤ 1125899906842624) ∧ ((i = 0 ∧ n = 0) ∨ (i ≠ 0 ∧ ∃ rest, h.get i = some (.cells (cs ++ rest))))
  | .ob cs => i ≠ 0 ∧ h.get i = some (.cells cs)
  | .mp es => i ≠ 0 ∧ h.get i = some (.map es)
  | .row e cs => i ≠ 0 ∧ h.get i = some (.row e cs)
abbrev Mem := List (Nat × Ct)
structure Has (h : AHeap) (K : Mem) : Prop where
  at_ : ∀ (j i : Nat) (c : Ct), K[j]? = some (i, c) → own1 h i c ∧ i < h.next
  nd : ∀ (j j' i : Nat) (c c' : Ct), K[j]? = some (i, c) → K[j']? = some (i, c') → i ≠ 0 → j = j'
  pos : 0 < h.next
theorem own1_congr {h h' : AHeap} {i : Nat} {c : Ct} (hg : i ≠ 0 → h'.get i = h.get i) (h1 : own1 h i c) : own1 h' i c := by
  cases c with
  | sl n sz cs =>
    obtain ⟨h2, h3⟩ := h1
    refine ⟨h2, h3.imp id fun ⟨h4, r, h5⟩ => ⟨h4, r, (hg h4).trans h5⟩⟩
  | ob cs => exact ⟨h1.1, (hg h1.1).trans h1.2⟩
  | mp es => exact ⟨h1.1, (hg h1.1).trans h1.2⟩
  | row e cs => exact ⟨h1.1, (hg h1.1).trans h1.2⟩
theorem put_get (h : AHeap) (id k : Nat) (o : AObj) : (h.put id o).get k = if k = id then some o else h.get k := by
  simp only [AHeap.put, beq_nat]
  by_cases hk : k = id <;> simp [hk]
theorem kill_get (h : AHeap) (id k : Nat) : (h.kill id).get k = if k = id then none else h.get k := by
  simp only [AHeap.kill, beq_nat]
  by_cases hk : k = id <;> simp [hk]
theorem Has.turn {h h' : AHeap} {K : Mem} (o : Has h K) {j i : Nat} {c : Ct} (hj : K[j]? = some (i, c)) {i' : Nat} {c' : Ct}
    (hg : ∀ k, k ≠ i → k < h.next → h'.get k = h.get k) (hn : h.next ≤ h'.next) (hi : i' = i ∨ i' = 0 ∨ h.next ≤ i') (hlt : i' < h'.next) (hc : own1 h' i' c') : Has h' (K.set j (i', c')) := by
  refine ⟨fun q k d hq => ?_, fun q q' k d d' hq hq' hk => ?_, Nat.lt_of_lt_of_le o.pos hn⟩
  · rw [List.getElem?_set] at hq
    by_cases h1 : j = q
    · subst h1
      rw [if_pos rfl] at hq
      split at hq
      · cases hq; exact ⟨hc, hlt⟩
      · cases hq
    · rw [if_neg h1] at hq
      obtain ⟨g1, g2⟩ := o.at_ q k d hq
      refine ⟨own1_congr (fun hk => hg k (fun he => ?_) g2) g1, Nat.lt_of_lt_of_le g2 hn⟩
      subst he
      exact h1 (o.nd j q k c d hj hq hk)
  · rw [List.getElem?_set] at hq hq'
    have old : ∀ (q : Nat) (d : Ct), j ≠ q → K[q]? = some (k, d) → k ≠ i' := by
      intro x y hne hx he
      rcases hi with h1 | h1 | h1
      · exact hne (o.nd j x k c y (by rw [he, h1]; exact hj) hx hk)
      · exact hk (he.trans h1)
      · have := (o.at_ x k y hx).2; omega
    by_cases h1 : j = q <;> by_cases h2 : j = q'
    · rw [← h1, h2]
    · subst h1
      rw [if_pos rfl] at hq
      rw [if_neg h2] at hq'
      split at hq
      · cases hq; exact absurd rfl (old q' d' h2 hq')
      · cases hq
    · subst h2
      rw [if_pos rfl] at hq'
      rw [if_neg h1] at hq
      split at hq'
      · cases hq'; exact absurd rfl (old q d h1 hq)
      · cases hq'
    · rw [if_neg h1] at hq; rw [if_neg h2] at hq'
      exact o.nd q q' k d d' hq hq' hk
theorem Has.new {h h' : AHeap} {K : Mem} (o : Has h K) {i : Nat} {c : Ct} (hg : ∀ k, k < h.next → h'.get k = h.get k) (hn : h.next ≤ h'.next) (hi : i = 0 ∨ h.next ≤ i) (hlt : i < h'.next) (hc : own1 h' i c) : Has h' ((i, c) :: K) := by
  refine ⟨fun q k d hq => ?_, fun q q' k d d' hq hq' hk => ?_, Nat.lt_of_lt_of_le o.pos hn⟩
  · cases q with
    | zero => simp only [List.getElem?_cons_zero, Option.some.injEq, Prod.mk.injEq] at hq; obtain ⟨rfl, rfl⟩ := hq; exact ⟨hc, hlt⟩
    | succ q =>
      simp only [List.getElem?_cons_succ] at hq
      obtain ⟨g1, g2⟩ := o.at_ q k d hq
      exact ⟨own1_congr (fun _ => hg k g2) g1, Nat.lt_of_lt_of_le g2 hn⟩
  · have old : ∀ (q : Nat) (d : Ct), K[q]? = some (k, d) → k ≠ i := by
      intro x y hx he
      rcases hi with h1 | h1
      · exact hk (he.trans h1)
      · have := (o.at_ x k y hx).2; omega
    cases q with
    | zero =>
      simp only [List.getElem?_cons_zero, Option.some.injEq, Prod.mk.injEq] at hq
      cases q' with
      | zero => rfl
      | succ q' => exact absurd hq.1.symm (old q' d' (by simpa using hq'))
    | succ q =>
      cases q' with
      | zero =>
        simp only [List.getElem?_cons_zero, Option.some.injEq, Prod.mk.injEq] at hq'
        exact absurd hq'.1.symm (old q d (by simpa using hq))
      | succ q' => rw [o.nd q q' k d d' (by simpa using hq) (by simpa using hq') hk]
theorem Has.nil {h : AHeap} {K : Mem} (o : Has h K) (sz : Nat) : Has h ((0, .sl 0 sz []) :: K) :=
  o.new (fun _ _ => rfl) (Nat.le_refl _) (.inl rfl) o.pos ⟨⟨by simp, by simp⟩, .inl ⟨rfl, rfl⟩⟩
theorem Has.sub {h : AHeap} {K K' : Mem} (o : Has h K) (f : Nat → Nat) (hf : ∀ j p, K'[j]? = some p → K[f j]? = some p) (hi : ∀ j j', f j = f j' → j = j') : Has h K' :=
  ⟨fun j i c hj => o.at_ (f j) i c (hf j _ hj), fun j j' i c c' hj hj' hk => hi _ _ (o.nd (f j) (f j') i c c' (hf j _ hj) (hf j' _ hj') hk), o.pos⟩
theorem Has.del {h : AHeap} {K : Mem} (o : Has h K) (q : Nat) : Has h (K.eraseIdx q) :=
  o.sub (fun j => if j < q then j else j + 1) (fun j p hj => by
    rw [List.getElem?_eraseIdx] at hj
    split at hj
    · rename_i h1; simpa [h1] using hj
    · rename_i h1; simpa [h1] using hj) (fun j j' he => by
      split at he <;> split at he <;> omega)
theorem Has.front {h : AHeap} {K : Mem} (o : Has h K) (q : Nat) {p : Nat × Ct} (hq : K[q]? = some p) : Has h (p :: K.eraseIdx q) :=
  o.sub (fun j => match j with | 0 => q | j + 1 => if j < q then j else j + 1) (fun j p' hj => by
    cases j with
    | zero => simp only [List.getElem?_cons_zero, Option.some.injEq] at hj; subst hj; exact hq
    | succ j =>
      simp only [List.getElem?_cons_succ, List.getElem?_eraseIdx] at hj
      dsimp only
      split at hj
      · rename_i h1; simpa [h1] using hj
      · rename_i h1; simpa [h1] using hj) (fun j j' he => by
      cases j with
      | zero => cases j' with
        | zero => rfl
        | succ j' => dsimp only at he; split at he <;> omega
      | succ j => cases j' with
        | zero => dsimp only at he; split at he <;> omega
        | succ j' => dsimp only at he; split at he <;> split at he <;> omega)
end Go.R

namespace Go.R
open Go
def slB (P : Program) (t : TypeId) (sz b : Nat) : Bool :=
  match P.underlying t with
  | some (.slice e) => match P.info? e with
    | some i => Nat.beq i.size sz && Nat.beq i.bytes b && zOK i
    | none => false
  | _ => false
section
variable {P : Program} {t : TypeId} {sz b : Nat}
theorem slB_spec (h : slB P t sz b = true) : ∃ e i, P.underlying t = some (.slice e) ∧ P.info? e = some i ∧ i.size = sz ∧ i.bytes = b ∧ zOK i = true ∧ szOf P e = some sz := by
  unfold slB at h
  split at h
  · rename_i e he
    split at h
    · rename_i i hi
      simp only [Bool.and_eq_true] at h
      have h1 := Nat.eq_of_beq_eq_true h.1.1
      exact ⟨e, i, he, hi, h1, Nat.eq_of_beq_eq_true h.1.2, h.2, by simp [szOf, hi, h1]⟩
    · cases h
  · cases h
variable {α : Type} {E : Enc α} {h : AHeap} {K : Mem} {l : List α} {a v : α} {i q : Nat} {j : Int} {k : IntKind} {c : AV} {off : Nat} {tf : TypeId}
theorem ia_fz (T : slB P t E.n b = true) (h : ix l j = some a) : indexAddrA P t (E.fz l) (.int k j) = some (.fp (E.l l) (j.toNat * E.n)) := by
  obtain ⟨e, inf, h1, h2, h3, h4, h5, h6⟩ := slB_spec T
  obtain ⟨g1, g2, g3⟩ := ix_spec h
  have hle := Enc.l_le (E := E) g3
  have hp := E.pos
  simp only [indexAddrA, h1, Option.bind_some, h6, Enc.fz]
  rw [if_pos ⟨g1, g2, by omega⟩]
theorem l_ne (h : l[j.toNat]? = some a) : (E.l l).isEmpty = false := by
  have hle := Enc.l_le (E := E) h
  have hp := E.pos
  cases hl : E.l l with
  | nil => rw [hl] at hle; simp at hle; omega
  | cons _ _ => rfl
theorem ld_fz1 (hp : AHeap) (ha : isAggT P tf = some false) (h : ix l j = some a) (hc : (E.f a)[off]? = some c) : loadH P hp tf (.fp (E.l l) (j.toNat * E.n + off)) = some c := by
  obtain ⟨g1, g2, g3⟩ := ix_spec h
  have ho : off < E.n := by rw [← E.len a]; exact (List.getElem?_eq_some_iff.1 hc).1
  simp only [loadH, loadA, l_ne g3, Bool.false_eq_true, if_false, readCs, ha, Option.bind_some, Enc.l_get g3 ho, hc]
theorem ld_fz0 (hp : AHeap) (ha : isAggT P tf = some false) (h : ix l j = some a) (hc : (E.f a)[0]? = some c) : loadH P hp tf (.fp (E.l l) (j.toNat * E.n)) = some c := ld_fz1 (off := 0) hp ha h hc
theorem ld_fzA (hp : AHeap) (ha : isAggT P tf = some true) (hs : szOf P tf = some E.n) (h : ix l j = some a) : loadH P hp tf (.fp (E.l l) (j.toNat * E.n)) = some (.agg (E.f a)) := by
  obtain ⟨g1, g2, g3⟩ := ix_spec h
  simp only [loadH, loadA, l_ne g3, Bool.false_eq_true, if_false, readCs, ha, Option.bind_some, if_true, hs]
  rw [if_pos (Enc.l_le g3), Enc.l_part g3]
theorem sl_live (o : Has h K) (hq : K[q]? = some (i, .sl l.length E.n (E.l l))) (hj : l[j.toNat]? = some a) : i ≠ 0 ∧ ∃ rest, h.get i = some (.cells (E.l l ++ rest)) := by
  obtain ⟨⟨_, h1⟩, _⟩ := o.at_ _ _ _ hq
  rcases h1 with ⟨_, h1⟩ | h1
  · have := (List.getElem?_eq_some_iff.1 hj).1; omega
  · exact h1
theorem ia_own (T : slB P t sz b = true) {n : Nat} (h0 : 0 ≤ j) (h1 : j < n) : indexAddrA P t (.rs i 0 n sz) (.int k j) = some (.ptr i (0 + j.toNat * sz)) := by
  obtain ⟨e, inf, g1, g2, g3, g4, g5, g6⟩ := slB_spec T
  simp only [indexAddrA, g1, Option.bind_some, g6]
  rw [if_pos ⟨trivial, h0, h1⟩]
theorem o_ld_own1 (o : Has h K) (hq : K[q]? = some (i, .sl l.length E.n (E.l l))) (ha : isAggT P tf = some false) (hj : ix l j = some a) (hc : (E.f a)[off]? = some c) : loadH P h tf (.ptr i (0 + j.toNat * E.n + off)) = some c := by
  obtain ⟨g1, g2, g3⟩ := ix_spec hj
  obtain ⟨h1, rest, h2⟩ := sl_live o hq g3
  have ho : off < E.n := by rw [← E.len a]; exact (List.getElem?_eq_some_iff.1 hc).1
  have hle := Enc.l_le (E := E) g3
  simp only [loadH, loadA, h2, Option.bind_some, readCs, ha, Bool.false_eq_true, if_false, Nat.zero_add]
  rw [List.getElem?_append_left (by omega), Enc.l_get g3 ho, hc]
theorem o_ld_own0 (o : Has h K) (hq : K[q]? = some (i, .sl l.length E.n (E.l l))) (ha : isAggT P tf = some false) (hj : ix l j = some a) (hc : (E.f a)[0]? = some c) : loadH P h tf (.ptr i (0 + j.toNat * E.n)) = some c := o_ld_own1 (off := 0) o hq ha hj hc
theorem o_ld_ownA (o : Has h K) (hq : K[q]? = some (i, .sl l.length E.n (E.l l))) (ha : isAggT P tf = some true) (hs : szOf P tf = some E.n) (hj : ix l j = some a) : loadH P h tf (.ptr i (0 + j.toNat * E.n)) = some (.agg (E.f a)) := by
  obtain ⟨g1, g2, g3⟩ := ix_spec hj
  obtain ⟨h1, rest, h2⟩ := sl_live o hq g3
  have hle := Enc.l_le (E := E) g3
  simp only [loadH, loadA, h2, Option.bind_some, readCs, ha, if_true, hs, Nat.zero_add]
  rw [if_pos (by rw [List.length_append]; omega), List.drop_append_of_le_length (by omega), List.take_append_of_le_length (by rw [List.length_drop]; omega), Enc.l_part g3]
theorem has_put (o : Has h K) {c' : Ct} {ct : Ct} (hq : K[q]? = some (i, ct)) {ob : AObj} (hc : own1 (h.put i ob) i c') : Has (h.put i ob) (K.set q (i, c')) :=
  o.turn hq (fun k hk _ => by rw [put_get, if_neg hk]) (Nat.le_succ _) (.inl rfl) (Nat.lt_succ_of_lt (o.at_ _ _ _ hq).2) hc
theorem o_st_own (o : Has h K) (hq : K[q]? = some (i, .sl l.length E.n (E.l l))) (hs : szOf P tf = some E.n) (hj : ix l j = some a) {x : AV} (hv : x.cells = E.f v) (hok : (E.f v).all AV.cellOK = true) :
    ∃ h', storeH P h tf (.ptr i (0 + j.toNat * E.n)) x = some h' ∧ Has h' (K.set q (i, .sl l.length E.n (E.l (l.set j.toNat v)))) := by
  obtain ⟨g1, g2, g3⟩ := ix_spec hj
  obtain ⟨h1, rest, h2⟩ := sl_live o hq g3
  have hle := Enc.l_le (E := E) g3
  refine ⟨_, ?_, has_put o hq (ob := .cells (E.l (l.set j.toNat v) ++ rest)) ⟨⟨by rw [Enc.l_length, List.length_set], by rw [Enc.l_length, List.length_set, ← Enc.l_length]; exact (o.at_ _ _ _ hq).1.1.2⟩, .inr ⟨h1, rest, by rw [put_get, if_pos rfl]⟩⟩⟩
  simp only [storeH, h2, Option.bind_some, writeCs, hs, hv, Nat.zero_add]
  rw [if_pos ⟨E.len v, hok, by rw [List.length_append]; omega⟩, Option.map_some, Enc.l_set g3]
theorem o_st_own1 (o : Has h K) (hq : K[q]? = some (i, .sl l.length E.n (E.l l))) (hs : szOf P tf = some 1) (hj : ix l j = some a) {x : AV} (hx : x.cells = [x]) (hok : x.cellOK = true) (ho : off < E.n) (hb : (E.f a).set off x = E.f v) :
    ∃ h', storeH P h tf (.ptr i (0 + j.toNat * E.n + off)) x = some h' ∧ Has h' (K.set q (i, .sl l.length E.n (E.l (l.set j.toNat v)))) := by
  obtain ⟨g1, g2, g3⟩ := ix_spec hj
  obtain ⟨h1, rest, h2⟩ := sl_live o hq g3
  have hle := Enc.l_le (E := E) g3
  refine ⟨_, ?_, has_put o hq (ob := .cells (E.l (l.set j.toNat v) ++ rest)) ⟨⟨by rw [Enc.l_length, List.length_set], by rw [Enc.l_length, List.length_set, ← Enc.l_length]; exact (o.at_ _ _ _ hq).1.1.2⟩, .inr ⟨h1, rest, by rw [put_get, if_pos rfl]⟩⟩⟩
  simp only [storeH, h2, Option.bind_some, writeCs, hs, hx, Nat.zero_add]
  rw [if_pos ⟨rfl, by simp [hok], by rw [List.length_append]; omega⟩, Option.map_some]
  simp only [splice]
  rw [Enc.l_set1 g3 ho hb]
def app (b : Nat) {α : Type} (l l2 : List α) : Option (List α) := if (l.length + l2.length) * (b + 1) ≤ 1099511627776 then some (l ++ l2) else none
theorem app_spec {l l2 r : List α} (h : app b l l2 = some r) : (l.length + l2.length) * b ≤ roomA ∧ l.length + l2.length ≤ roomA ∧ r = l ++ l2 := by
  unfold app at h
  split at h
  · rename_i h0
    cases h
    rw [Nat.mul_add, Nat.mul_one] at h0
    refine ⟨by simp only [roomA]; omega, by simp only [roomA]; omega, rfl⟩
  · cases h
theorem o_ap_own {t2 : TypeId} {l2 r : List α} {x : AV} (T : slB P t E.n b = true) (o : Has h K) (hq : K[q]? = some (i, .sl l.length E.n (E.l l))) (hx : cellsOfAC h E.n x = some (E.l l2, l2.length)) (hsrc : srcOK P t2 x = true) (hr : app b l l2 = some r) :
    ∃ i' h', appendA P h t t2 (.rs i 0 l.length E.n) x = some (.rs i' 0 r.length E.n, h') ∧ Has h' (K.set q (i', .sl r.length E.n (E.l r))) := by
  obtain ⟨e, inf, g1, g2, g3, g4, g5, g6⟩ := slB_spec T
  obtain ⟨r1, r2, rfl⟩ := app_spec hr
  obtain ⟨⟨⟨hlen, hsm⟩, hlv⟩, hlt⟩ := o.at_ _ _ _ hq
  have hpos := E.pos
  have hb : inf.size = E.n := g3
  have hcond : ¬ (inf.size = 0 ∨ srcOK P t2 x = false ∨ zOK inf = false) := by rw [hsrc, g5, hb]; simp [hpos]
  subst g4
  by_cases h0 : l2 = []
  · subst h0
    refine ⟨i, h, ?_, ?_⟩
    · simp only [appendA, g1, Option.bind_some, g2, hb, hx, hsrc, g5]
      rw [if_neg (by simp [hpos])]
      simp only [List.length_nil, Nat.zero_mul, Nat.add_zero, List.append_nil]
      by_cases hi : i = 0
      · subst hi
        rcases hlv with ⟨_, hl0⟩ | h1
        · simp [hl0, hb, roomA]
        · exact absurd rfl h1.1
      · rcases hlv with h1 | ⟨_, rest, h1⟩
        · exact absurd h1.1 hi
        · rw [if_neg hi, h1]
          simp only [Option.bind_some]
          rw [if_neg (by rw [List.length_append, hlen]; simp only [List.length_nil, Nat.add_zero] at r1 r2; simp; omega)]
          simp
    · rw [List.append_nil]
      have : K.set q (i, .sl l.length E.n (E.l l)) = K := by
        apply List.ext_getElem?
        intro j
        rw [List.getElem?_set]
        by_cases hj : q = j
        · subst hj; rw [if_pos rfl, if_pos (List.getElem?_eq_some_iff.1 hq).1, hq]
        · rw [if_neg hj]
      rw [this]; exact o
  · have hl2 : l2.length ≠ 0 := by simpa using h0
    by_cases hi : i = 0
    · subst hi
      rcases hlv with ⟨_, hl0⟩ | h1
      rotate_left
      · exact absurd rfl h1.1
      have hnil : l = [] := by simpa using hl0
      subst hnil
      refine ⟨h.next, h.alloc (.cells (E.l l2)), ?_, ?_⟩
      · simp only [appendA, g1, Option.bind_some, g2, hb, hx, hsrc, g5]
        rw [if_neg (by simp [hpos])]
        simp only [if_true]
        simp only [List.length_nil, Nat.zero_add] at r1 r2
        rw [if_neg (by simp; omega), if_neg hl2]
        simp
      · refine o.turn hq (fun k _ hk => by rw [AHeap.alloc, put_get, if_neg (by omega)]) (Nat.le_succ _) (.inr (.inr (Nat.le_refl _))) (Nat.lt_succ_self _) ⟨⟨Enc.l_length, Enc.l_small (by simp only [roomA] at r2; simp at r2 ⊢; omega)⟩, .inr ⟨by have := o.pos; omega, [], ?_⟩⟩
        rw [AHeap.alloc, put_get, if_pos rfl]; simp
    · rcases hlv with h1 | ⟨_, rest, h1⟩
      · exact absurd h1.1 hi
      refine ⟨h.next, (h.kill i).put h.next (.cells (E.l (l ++ l2))), ?_, ?_⟩
      · simp only [appendA, g1, Option.bind_some, g2, hb, hx, hsrc, g5]
        rw [if_neg (by simp [hpos]), if_neg hi, h1]
        simp only [Option.bind_some]
        rw [if_neg (by rw [List.length_append, hlen]; simp; omega), if_neg hl2]
        rw [List.drop_zero, List.take_append_of_le_length (by rw [hlen]; exact Nat.le_refl _), List.take_of_length_le (by rw [hlen]; exact Nat.le_refl _), Enc.l_append, List.length_append]
      · refine o.turn hq (fun k hk hk2 => by rw [put_get, if_neg (by omega), kill_get, if_neg hk]) (by show h.next ≤ h.next + 1 + 1; omega) (.inr (.inr (Nat.le_refl _))) (by show h.next < h.next + 1 + 1; omega) ⟨⟨Enc.l_length, Enc.l_small (by simp only [roomA] at r2; simp at r2 ⊢; omega)⟩, .inr ⟨by have := o.pos; omega, [], ?_⟩⟩
        rw [put_get, if_pos rfl]; simp
theorem cells_fz {l2 : List α} (h : AHeap) : cellsOfAC h E.n (E.fz l2) = some (E.l l2, l2.length) := by
  simp only [cellsOfAC, cellsOfA, Enc.fz]
  rw [if_pos Enc.l_length, Option.map_some, Enc.l_canon]
theorem o_cells_own (o : Has h K) (hq : K[q]? = some (i, .sl l.length E.n (E.l l))) : cellsOfAC h E.n (.rs i 0 l.length E.n) = some (E.l l, l.length) := by
  obtain ⟨⟨⟨hlen, hsm⟩, hlv⟩, hlt⟩ := o.at_ _ _ _ hq
  simp only [cellsOfAC, cellsOfA]
  rcases hlv with ⟨h0, h1⟩ | ⟨h0, rest, h1⟩
  · have : l = [] := by simpa using h1
    subst this
    simp [h0, Enc.l]
  · rw [if_neg h0, h1]
    simp only [Option.bind_some]
    rw [if_pos ⟨trivial, by rw [List.length_append, hlen]; omega⟩, Option.map_some, List.drop_zero, List.take_append_of_le_length (by rw [hlen]; exact Nat.le_refl _), List.take_of_length_le (by rw [hlen]; exact Nat.le_refl _), Enc.l_canon]
def mkl (b : Nat) {α : Type} (n : Int) (z : α) : Option (List α) := if 0 ≤ n ∧ n.toNat * (b + 1) ≤ 1099511627776 then some (List.replicate n.toNat z) else none
theorem mk_own {n : Int} {z : α} {zv : AV} {r : List α} (T : slB P t E.n b = true) (o : Has h K) (e0 : TypeId) (he0 : P.underlying t = some (.slice e0)) (hz0 : zeroA P e0 = some zv) (hzc : zv.cells = E.f z) (hok : (E.f z).all AV.cellOK = true) (hr : mkl b n z = some r) :
    ∃ i h', makeSliceA P h t (.int .i64 n) (.int .i64 n) = some (.rs i 0 r.length E.n, h') ∧ Has h' ((i, .sl r.length E.n (E.l r)) :: K) := by
  have hz : ∀ e, P.underlying t = some (.slice e) → zeroA P e = some zv := fun e he => by
    rw [he0] at he; cases he; exact hz0
  unfold mkl at hr
  split at hr
  rotate_left
  · cases hr
  rename_i hcond
  obtain ⟨h0, h1⟩ := hcond
  cases hr
  obtain ⟨e, inf, g1, g2, g3, g4, g5, g6⟩ := slB_spec T
  have hpos := E.pos
  have hrep : ∀ k, replA (E.f z) k = E.l (List.replicate k z) := by
    intro k
    induction k with
    | zero => rfl
    | succ k ih => rw [replA, ih, List.replicate_succ, Enc.l_cons]
  refine ⟨h.next, h.alloc (.cells (E.l (List.replicate n.toNat z))), ?_, o.new (fun k hk => by rw [AHeap.alloc, put_get, if_neg (by omega)]) (Nat.le_succ _) (.inr (Nat.le_refl _)) (Nat.lt_succ_self _) ⟨⟨Enc.l_length, Enc.l_small (by rw [List.length_replicate]; rw [Nat.mul_add, Nat.mul_one] at h1; omega)⟩, .inr ⟨by have := o.pos; omega, [], by rw [AHeap.alloc, put_get, if_pos rfl]; simp⟩⟩⟩
  rw [Nat.mul_add, Nat.mul_one] at h1
  simp only [makeSliceA, g1, Option.bind_some, g2, hz e g1, hzc, E.len, hrep, List.length_replicate, g3, g4]
  have hb : n * (b : Int) ≤ roomA := by
    have : n * (b : Int) = ((n.toNat * b : Nat) : Int) := by
      rw [Int.natCast_mul, Int.toNat_of_nonneg h0]
    simp only [roomA]
    rw [this]
    omega
  rw [if_pos ⟨h0, Int.le_refl _, hb, trivial, hpos, by omega, hok⟩]
theorem o_fr_own (o : Has h K) (hq : K[q]? = some (i, .sl l.length E.n (E.l l))) (hp : E.flat = true := by rfl) : ∃ h', frzV 0 h (.rs i 0 l.length E.n) = some (E.fz l, h') ∧ Has h' (K.eraseIdx q) := by
  obtain ⟨⟨⟨hlen, hsm⟩, hlv⟩, hlt⟩ := o.at_ _ _ _ hq
  rcases hlv with ⟨h0, h1⟩ | ⟨h0, rest, h1⟩
  · have : l = [] := by simpa using h1
    subst this
    exact ⟨h, by simp [frzV, h0, Enc.fz, Enc.l], o.del q⟩
  · refine ⟨h.kill i, ?_, ?_⟩
    · simp only [frzV]
      rw [if_neg h0, h1]
      simp only [Option.bind_some]
      have e1 : ((E.l l ++ rest).drop 0).take (l.length * E.n) = E.l l := by
        rw [List.drop_zero, List.take_append_of_le_length (by rw [hlen]; exact Nat.le_refl _), List.take_of_length_le (by rw [hlen]; exact Nat.le_refl _)]
      rw [e1, if_pos ⟨by rw [List.length_append, hlen]; omega, (Enc.l_pure hp).1⟩]
      rfl
    · have o2 := o.turn (i' := 0) (c' := .sl 0 1 []) (h' := h.kill i) hq (fun k hk _ => by rw [kill_get, if_neg hk]) (Nat.le_succ _) (.inr (.inl rfl)) (Nat.succ_pos _) ⟨⟨by simp, by simp⟩, .inl ⟨rfl, rfl⟩⟩
      have := o2.del q
      rwa [List.eraseIdx_set_eq] at this
variable {n : Nat}
theorem has_len (o : Has h K) (hq : K[q]? = some (i, .sl n E.n (E.l l))) : n = l.length := by
  have h1 := (o.at_ _ _ _ hq).1.1.1
  rw [Enc.l_length] at h1
  exact (Nat.eq_of_mul_eq_mul_right (Nat.pos_of_ne_zero E.pos) h1).symm
theorem ia_ownL (T : slB P t E.n b = true) (o : Has h K) (hq : K[q]? = some (i, .sl n E.n (E.l l))) (hj : ix l j = some a) : indexAddrA P t (.rs i 0 n E.n) (.int k j) = some (.ptr i (0 + j.toNat * E.n)) := by
  have hn := has_len o hq
  subst hn
  exact ia_own T (ix_spec hj).1 (ix_spec hj).2.1
theorem ld_own1 (o : Has h K) (hq : K[q]? = some (i, .sl n E.n (E.l l))) (ha : isAggT P tf = some false) (hj : ix l j = some a) (hc : (E.f a)[off]? = some c) : loadH P h tf (.ptr i (0 + j.toNat * E.n + off)) = some c := by
  have hn := has_len o hq
  subst hn
  exact o_ld_own1 o hq ha hj hc
theorem ld_own0 (o : Has h K) (hq : K[q]? = some (i, .sl n E.n (E.l l))) (ha : isAggT P tf = some false) (hj : ix l j = some a) (hc : (E.f a)[0]? = some c) : loadH P h tf (.ptr i (0 + j.toNat * E.n)) = some c := by
  have hn := has_len o hq
  subst hn
  exact o_ld_own0 o hq ha hj hc
theorem ld_ownA (o : Has h K) (hq : K[q]? = some (i, .sl n E.n (E.l l))) (ha : isAggT P tf = some true) (hs : szOf P tf = some E.n) (hj : ix l j = some a) : loadH P h tf (.ptr i (0 + j.toNat * E.n)) = some (.agg (E.f a)) := by
  have hn := has_len o hq
  subst hn
  exact o_ld_ownA o hq ha hs hj
theorem st_own (o : Has h K) (hq : K[q]? = some (i, .sl n E.n (E.l l))) (hs : szOf P tf = some E.n) (hj : ix l j = some a) {x : AV} (hv : x.cells = E.f v) (hok : (E.f v).all AV.cellOK = true) :
    ∃ h', storeH P h tf (.ptr i (0 + j.toNat * E.n)) x = some h' ∧ Has h' (K.set q (i, .sl n E.n (E.l (l.set j.toNat v)))) := by
  have hn := has_len o hq
  subst hn
  exact o_st_own o hq hs hj hv hok
theorem st_own1 (o : Has h K) (hq : K[q]? = some (i, .sl n E.n (E.l l))) (hs : szOf P tf = some 1) (hj : ix l j = some a) {x : AV} (hx : x.cells = [x]) (hok : x.cellOK = true) (ho : off < E.n) (hb : (E.f a).set off x = E.f v) :
    ∃ h', storeH P h tf (.ptr i (0 + j.toNat * E.n + off)) x = some h' ∧ Has h' (K.set q (i, .sl n E.n (E.l (l.set j.toNat v)))) := by
  have hn := has_len o hq
  subst hn
  exact o_st_own1 o hq hs hj hx hok ho hb
theorem ap_own {t2 : TypeId} {l2 r : List α} {x : AV} (T : slB P t E.n b = true) (o : Has h K) (hq : K[q]? = some (i, .sl n E.n (E.l l))) (hx : cellsOfAC h E.n x = some (E.l l2, l2.length)) (hsrc : srcOK P t2 x = true) (hr : app b l l2 = some r) :
    ∃ i' h', appendA P h t t2 (.rs i 0 n E.n) x = some (.rs i' 0 r.length E.n, h') ∧ Has h' (K.set q (i', .sl r.length E.n (E.l r))) := by
  have hn := has_len o hq
  subst hn
  exact o_ap_own T o hq hx hsrc hr
theorem cells_own (o : Has h K) (hq : K[q]? = some (i, .sl n E.n (E.l l))) : cellsOfAC h E.n (.rs i 0 n E.n) = some (E.l l, l.length) := by
  have hn := has_len o hq
  subst hn
  exact o_cells_own o hq
theorem fr_own (o : Has h K) (hq : K[q]? = some (i, .sl n E.n (E.l l))) (hp : E.flat = true := by rfl) : ∃ h', frzV 0 h (.rs i 0 n E.n) = some (E.fz l, h') ∧ Has h' (K.eraseIdx q) := by
  have hn := has_len o hq
  subst hn
  exact o_fr_own o hq hp
end
end Go.R

namespace Go.R
open Go
structure VNode where
  kind : Int
  int : Int
  label : ByteArray
  args : List Int
structure VTree where
  nodes : List VNode
  root : Int
def eI (k : IntKind) : Enc Int := { n := 1, f := fun a => [.int k a], len := fun _ => rfl, pos := by decide, pure := fun _ _ => ⟨rfl, rfl⟩, canon := fun _ => rfl }
abbrev eInt : Enc Int := eI .i64
abbrev eByte : Enc Int := eI .u8
def eBool : Enc Bool := { n := 1, f := fun a => [.bool a], len := fun _ => rfl, pos := by decide, pure := fun _ _ => ⟨rfl, rfl⟩, canon := fun _ => rfl }
theorem pure_cons {x : AV} {xs : List AV} (h : x.noId = true ∧ x.unex = x) (k : noIds xs = true ∧ unexs xs = xs) : noIds (x :: xs) = true ∧ unexs (x :: xs) = x :: xs :=
  ⟨by simp [noIds, h.1, k.1], by simp [unexs, h.2, k.2]⟩
theorem pure_nil : noIds [] = true ∧ unexs [] = [] := ⟨rfl, rfl⟩
theorem pure_int {k : IntKind} {n : Int} : (AV.int k n).noId = true ∧ (AV.int k n).unex = .int k n := ⟨rfl, rfl⟩
theorem pure_str {s : ByteArray} : (AV.str s).noId = true ∧ (AV.str s).unex = .str s := ⟨rfl, rfl⟩
def eNode : Enc VNode := { n := 4, f := fun x => [.int .i64 x.kind, .int .i64 x.int, .str x.label, eInt.fz x.args], len := fun _ => rfl, pos := by decide, pure := fun x _ => pure_cons pure_int (pure_cons pure_int (pure_cons pure_str (pure_cons Enc.fz_pure pure_nil))), canon := fun _ => rfl }
def eTree : Enc VTree := { n := 2, f := fun x => [eNode.fz x.nodes, .int .i64 x.root], len := fun _ => rfl, pos := by decide, pure := fun x _ => pure_cons Enc.fz_pure (pure_cons pure_int pure_nil), canon := fun _ => rfl }
end Go.R

namespace Go.R
open Go
theorem ne_true {b : Bool} (h : b = false) : ¬ b = true := by rw [h]; decide
section
variable {P : Program} {cf : CallF} {A : Ann} {m : Nat}
theorem ends_mono {c : Code} {s : St} {Q R : Ex → St → Prop} (h : Enz P cf A m c s Q) (k : ∀ e s', Q e s' → R e s') : Enz P cf A m c s R := by
  obtain ⟨e, s', h1, h2⟩ := h
  exact ⟨e, s', h1, k _ _ h2⟩
theorem ends_fin {c : Code} {s : St} {Q : St → Prop} {R : Ex → St → Prop} (hQ : ∀ e s', (e = .ret ∨ e = .norm) ∧ Q s' → R e s') (h : Enz P cf A m c s (fun e s' => (e = .ret ∨ e = .norm) ∧ Q s')) : Enz P cf A m c s R := ends_mono h hQ
end
def bigN : Nat := 1125899906842630
def FrzA (k : Nat) (h : AHeap) (x y : AV) : Prop := ∀ n, bigN + k ≤ n → freezeA h n x = some y
def FrzS (k : Nat) (h : AHeap) (x y : List AV) : Prop := ∀ n, bigN + k ≤ n → freezeAs h n x = some y
def Frz (h : AHeap) (x y : AV) : Prop := FrzA 1000 h x y
section
variable {h : AHeap} {α : Type} {E : Enc α} {l : List α} {K : Mem} {q i : Nat}
theorem FrzA.mono {k k' : Nat} {x y : AV} (hk : k ≤ k') (f : FrzA k h x y) : FrzA k' h x y := fun n hn => f n (by omega)
theorem frz {k : Nat} {x y : AV} (f : FrzA k h x y) (hk : k ≤ 1000 := by decide) : Frz h x y := f.mono hk
theorem succ_of {n : Nat} (h : bigN ≤ n) : ∃ k, n = k + 1 ∧ bigN ≤ k + 1 := ⟨n - 1, by simp only [bigN] at h; omega, by omega⟩
theorem fr_atom {x : AV} (h1 : x.noId = true) (h2 : ∀ n, freezeA h (n + 1) x = if x.noId then some x.unex else none) {y : AV} (h3 : x.unex = y) : FrzA 0 h x y := fun n hn => by
  obtain ⟨k, rfl, _⟩ := succ_of (show bigN ≤ n by omega)
  rw [h2, h1, h3]; rfl
theorem fr_int {k : IntKind} {n : Int} : FrzA 0 h (.int k n) (.int k n) := fr_atom rfl (fun _ => rfl) rfl
theorem fr_str {s : ByteArray} : FrzA 0 h (.str s) (.str s) := fr_atom rfl (fun _ => rfl) rfl
theorem fr_fz (hp : E.flat = true := by rfl) : FrzA 0 h (E.fz l) (E.fz l) := fr_atom (Enc.fz_pure hp).1 (fun _ => rfl) (Enc.fz_pure hp).2
theorem fr_nils : FrzA 0 h .nils (E.fz []) := fr_atom rfl (fun _ => rfl) rfl
theorem fr_lit {cs : List AV} (h1 : (noIds cs = true)) (h2 : unexs cs = E.l l) {n : Nat} {b : Bool} (h3 : n = l.length) : FrzA 0 h (.fz cs n b) (E.fz l) := by
  refine fr_atom (by simpa [AV.noId] using h1) (fun _ => rfl) ?_
  subst h3
  show AV.fz (unexs cs) l.length false = _
  rw [h2]; rfl
theorem freezeAs_pure : ∀ {cs : List AV} {n : Nat}, noIds cs = true → (∀ x ∈ cs, ∀ n, freezeA h (n + 1) x = if x.noId then some x.unex else none) → cs.length + 1 < n → freezeAs h n cs = some (unexs cs)
  | [], n, _, _, hn => by
    obtain ⟨k, rfl⟩ : ∃ k, n = k + 1 := ⟨n - 1, by omega⟩
    rfl
  | x :: cs, n, h1, h2, hn => by
    obtain ⟨k, rfl⟩ : ∃ k, n = k + 1 + 1 := ⟨n - 2, by simp at hn; omega⟩
    simp only [noIds, Bool.and_eq_true] at h1
    simp only [freezeAs]
    rw [h2 x (by simp) k, h1.1]
    simp only [if_true, Option.bind_some]
    rw [freezeAs_pure h1.2 (fun y hy => h2 y (by simp [hy])) (by simp at hn; omega)]
    rfl
def flatC : AV → Bool
  | .agg _ | .tup _ => false
  | _ => true
theorem flat_frz {x : AV} (hf : flatC x = true) (hn : x.noId = true) (n : Nat) : freezeA h (n + 1) x = if x.noId then some x.unex else none := by
  cases x <;> first | rfl | (simp [AV.noId] at hn; done) | (simp [flatC] at hf; done)
theorem o_fr_rs (o : Has h K) (hq : K[q]? = some (i, .sl l.length E.n (E.l l))) (hf : ∀ a : α, (E.f a).all flatC = true) (hp : E.flat = true := by rfl) : FrzA 0 h (.rs i 0 l.length E.n) (E.fz l) := fun n hn => by
  obtain ⟨⟨⟨hlen, hsm⟩, hlv⟩, hlt⟩ := o.at_ _ _ _ hq
  obtain ⟨k, rfl, hk⟩ := succ_of (show bigN ≤ n by omega)
  simp only [freezeA]
  rcases hlv with ⟨h0, h1⟩ | ⟨h0, rest, h1⟩
  · have : l = [] := by simpa using h1
    subst this
    simp [h0, Enc.fz, Enc.l]
  · rw [if_neg h0, h1]
    simp only [Option.bind_some]
    have e1 : ((E.l l ++ rest).drop 0).take (l.length * E.n) = E.l l := by
      rw [List.drop_zero, List.take_append_of_le_length (by rw [hlen]; exact Nat.le_refl _), List.take_of_length_le (by rw [hlen]; exact Nat.le_refl _)]
    rw [if_pos (by rw [List.length_append, hlen]; omega), e1, freezeAs_pure (Enc.l_pure hp).1 (fun x hx => ?_) (by simp only [bigN] at hk; omega), (Enc.l_pure hp).2]
    · rfl
    · have hnx : x.noId = true := by
        have : ∀ (cs : List AV), noIds cs = true → x ∈ cs → x.noId = true := by
          intro cs
          induction cs with
          | nil => intro _ h; cases h
          | cons y ys ih =>
            intro h hm
            simp only [noIds, Bool.and_eq_true] at h
            rcases List.mem_cons.1 hm with rfl | hm
            · exact h.1
            · exact ih h.2 hm
        exact this _ (Enc.l_pure hp).1 hx
      have hfl : flatC x = true := by
        unfold Enc.l at hx
        rw [List.mem_flatMap] at hx
        obtain ⟨a, _, ha⟩ := hx
        exact List.all_eq_true.1 (hf a) x ha
      exact fun n => flat_frz hfl hnx n
theorem fr_rs {n : Nat} (o : Has h K) (hq : K[q]? = some (i, .sl n E.n (E.l l))) (hf : ∀ a : α, (E.f a).all flatC = true) (hp : E.flat = true := by rfl) : FrzA 0 h (.rs i 0 n E.n) (E.fz l) := by
  have hn := has_len o hq
  subst hn
  exact o_fr_rs o hq hf hp
theorem fr_nil : FrzS 0 h [] [] := fun n hn => by
  obtain ⟨k, rfl, _⟩ := succ_of (show bigN ≤ n by omega)
  rfl
theorem fr_cons {k1 k2 : Nat} {x y : AV} {xs ys : List AV} (f : FrzA k1 h x y) (g : FrzS k2 h xs ys) : FrzS (k1 + k2 + 1) h (x :: xs) (y :: ys) := fun n hn => by
  obtain ⟨k, rfl⟩ : ∃ k, n = k + 1 := ⟨n - 1, by omega⟩
  simp only [freezeAs]
  rw [f k (by omega), g k (by omega)]
  rfl
theorem fr_agg {k : Nat} {xs ys : List AV} (f : FrzS k h xs ys) : FrzA (k + 1) h (.agg xs) (.agg ys) := fun n hn => by
  obtain ⟨k, rfl⟩ : ∃ k, n = k + 1 := ⟨n - 1, by omega⟩
  simp only [freezeA]
  rw [f k (by omega)]; rfl
theorem fr_tup {k : Nat} {xs ys : List AV} (f : FrzS k h xs ys) : FrzA (k + 1) h (.tup xs) (.tup ys) := fun n hn => by
  obtain ⟨k, rfl⟩ : ∃ k, n = k + 1 := ⟨n - 1, by omega⟩
  simp only [freezeA]
  rw [f k (by omega)]; rfl
end
def bitsAnd (k : IntKind) (x y : Int) : Int := k.wrap ((BitVec.ofInt k.bits x &&& BitVec.ofInt k.bits y).toNat : Int)
def bitsOr (k : IntKind) (x y : Int) : Int := k.wrap ((BitVec.ofInt k.bits x ||| BitVec.ofInt k.bits y).toNat : Int)
def bitsXor (k : IntKind) (x y : Int) : Int := k.wrap ((BitVec.ofInt k.bits x ^^^ BitVec.ofInt k.bits y).toNat : Int)
def shR (k : IntKind) (x : Int) (n : Nat) : Int := x.fdiv (2 ^ (min n k.bits))
section
variable {P : Program} {t : TypeId} {b : Nat} {α : Type} {E : Enc α} {h : AHeap} {K : Mem} {l r : List α} {i q : Nat} {j lo hi : Int} {k k' : IntKind}
theorem ix_str {s : ByteArray} {v : Int} (hu : P.underlying t = some .string) (h : bt s j = some v) : indexA P t (.str s) (.int k j) = some (.int .u8 v) := by
  unfold bt at h
  split at h
  · rename_i h0
    rw [Option.map_eq_some_iff] at h
    obtain ⟨b, hb, rfl⟩ := h
    simp only [indexA, hu, Option.bind_some, h0, if_true, hb, Option.map_some]
  · cases h
theorem slc_take (h : slc l lo hi = some r) : (((E.l l).drop (lo.toNat * E.n)).take ((hi.toNat - lo.toNat) * E.n)) = E.l r ∧ r.length = hi.toNat - lo.toNat := by
  obtain ⟨h0, h1, h2, rfl⟩ := slc_spec h
  refine ⟨by rw [Enc.l_drop, Enc.l_take], ?_⟩
  rw [List.length_take, List.length_drop]
  omega
theorem o_sl_own (o : Has h K) (hq : K[q]? = some (i, .sl l.length E.n (E.l l))) (T : slB P t E.n b = true) (hs : slc l 0 hi = some r) :
    sliceA P t (.rs i 0 l.length E.n) none (some (.int k hi)) none = some (.rs i 0 r.length E.n) ∧ Has h (K.set q (i, .sl r.length E.n (E.l r))) := by
  obtain ⟨e, inf, g1, g2, g3, g4, g5, g6⟩ := slB_spec T
  obtain ⟨h0, h1, h2, hr⟩ := slc_spec hs
  obtain ⟨h3, h4⟩ := slc_take (E := E) hs
  simp only [Int.toNat_zero, Nat.sub_zero] at h4 hr
  have hr' : r = l.take hi.toNat := by rw [hr]; simp
  refine ⟨?_, ?_⟩
  · simp only [sliceA, g1, Option.bind_some, g6, if_true, boundsA]
    rw [if_pos ⟨by omega, h2⟩]
    simp only [Option.bind_some, Option.map_some, Nat.zero_mul, Nat.add_zero, Nat.sub_zero, h4]
  · obtain ⟨⟨⟨hlen, hsm⟩, hlv⟩, hlt⟩ := o.at_ _ _ _ hq
    refine o.turn hq (fun _ _ _ => rfl) (Nat.le_refl _) (.inl rfl) hlt ⟨⟨Enc.l_length, ?_⟩, ?_⟩
    · rw [Enc.l_length]
      refine Nat.le_trans (Nat.mul_le_mul_right _ ?_) (hlen ▸ hsm)
      rw [h4]; omega
    · rcases hlv with ⟨h5, h6⟩ | ⟨h5, rest, h6⟩
      · left; exact ⟨h5, by rw [h4]; omega⟩
      · right
        refine ⟨h5, E.l (l.drop hi.toNat) ++ rest, ?_⟩
        rw [h6, hr', ← List.append_assoc, ← Enc.l_append, List.take_append_drop]
theorem sl_own {n : Nat} (o : Has h K) (hq : K[q]? = some (i, .sl n E.n (E.l l))) (T : slB P t E.n b = true) (hs : slc l 0 hi = some r) :
    sliceA P t (.rs i 0 n E.n) none (some (.int k hi)) none = some (.rs i 0 r.length E.n) ∧ Has h (K.set q (i, .sl r.length E.n (E.l r))) := by
  have hn := has_len o hq
  subst hn
  exact o_sl_own o hq T hs
end
theorem body_of_ends2 {P : Program} {cf : CallF} {m : Nat} {ann : FuncId → Ann} {f : FuncId} {fn : Func} {A : Ann} (ha : ann f = A) {args : List AV} {h : AHeap} {R : AV → AHeap → Prop} (hf : P.funcs[f]? = some fn) (hb : fn.body = some (codeOf fn)) (hn : Nat.ble args.length fn.ntmps = true)
    (he : Enz P cf A m (codeOf fn) ⟨argsVars A.keep args, A.locs.map fun _ => none, h⟩ (fun e s => (e = .ret ∨ e = .norm) ∧ ∃ r, resultA P (s.open A) fn.results.toList = some r ∧ R r s.h)) :
    ∃ r h', bodyA P ann cf m f args h = some (r, h') ∧ R r h' := by
  subst ha
  exact body_of_ends hf hb hn he
def strLe (a b : ByteArray) : Bool := Op.bytesLess a.data.toList b.data.toList || a.data.toList == b.data.toList
end Go.R

namespace Go.R
open Go
mutual
theorem freezeA_noId {h : AHeap} : ∀ (n : Nat) (x y : AV), x.noId = true → freezeA h n x = some y → y = x.unex
  | 0, x, y, _, h => by simp [freezeA] at h
  | n + 1, x, y, hn, h => by
    cases x with
    | agg cs =>
      simp only [freezeA, Option.map_eq_some_iff] at h
      obtain ⟨cs', hcs, rfl⟩ := h
      rw [freezeAs_noIds n cs cs' (by simpa [AV.noId] using hn) hcs]; rfl
    | tup cs =>
      simp only [freezeA, Option.map_eq_some_iff] at h
      obtain ⟨cs', hcs, rfl⟩ := h
      rw [freezeAs_noIds n cs cs' (by simpa [AV.noId] using hn) hcs]; rfl
    | ptr _ _ => simp [AV.noId] at hn
    | rs _ _ _ _ => simp [AV.noId] at hn
    | _ => simp only [freezeA, hn, if_true, Option.some.injEq] at h; exact h.symm
theorem freezeAs_noIds {h : AHeap} : ∀ (n : Nat) (xs ys : List AV), noIds xs = true → freezeAs h n xs = some ys → ys = unexs xs
  | 0, xs, ys, _, h => by simp [freezeAs] at h
  | n + 1, [], ys, _, h => by simp only [freezeAs, Option.some.injEq] at h; exact h.symm
  | n + 1, x :: xs, ys, hn, h => by
    simp only [noIds, Bool.and_eq_true] at hn
    simp only [freezeAs, Option.bind_eq_some_iff, Option.map_eq_some_iff] at h
    obtain ⟨y, hy, zs, hz, rfl⟩ := h
    rw [freezeA_noId n x y hn.1 hy, freezeAs_noIds n xs zs hn.2 hz]; rfl
end
mutual
theorem freezeB_A {h : AHeap} : ∀ (n : Nat) (x y : AV), freezeB h n x = some y → freezeA h n x = some y
  | 0, x, y, h => by simp [freezeB] at h
  | n + 1, x, y, h => by
    unfold freezeB at h
    split at h
    · exact h
    · exact h
    · exact h
    · exact h
    · exact h
    · exact h
    · exact h
    · exact h
    · rename_i id off len esz
      simp only [freezeA]
      split at h
      · rename_i h0; rw [if_pos h0]; exact h
      · rename_i h0
        rw [if_neg h0]
        rw [Option.bind_eq_some_iff] at h ⊢
        obtain ⟨ob, ho, h⟩ := h
        refine ⟨ob, ho, ?_⟩
        cases ob with
        | map es => cases h
        | row t cs => cases h
        | cells cs =>
          simp only at h ⊢
          split at h
          · rename_i hle
            rw [if_pos hle]
            rw [Option.map_eq_some_iff] at h ⊢
            obtain ⟨cs', hcs, h2⟩ := h
            exact ⟨cs', freezeBs_As n _ _ hcs, h2⟩
          · cases h
    · simp only [freezeA]
      rw [Option.map_eq_some_iff] at h ⊢
      obtain ⟨cs', hcs, h2⟩ := h
      exact ⟨cs', freezeBs_As n _ _ hcs, h2⟩
    · simp only [freezeA]
      rw [Option.map_eq_some_iff] at h ⊢
      obtain ⟨cs', hcs, h2⟩ := h
      exact ⟨cs', freezeBs_As n _ _ hcs, h2⟩
    · cases h
theorem freezeBs_As {h : AHeap} : ∀ (n : Nat) (xs ys : List AV), freezeBs h n xs = some ys → freezeAs h n xs = some ys
  | 0, xs, ys, h => by simp [freezeBs] at h
  | n + 1, [], ys, h => h
  | n + 1, x :: xs, ys, h => by
    simp only [freezeBs, freezeAs, Option.bind_eq_some_iff, Option.map_eq_some_iff] at h ⊢
    obtain ⟨y, hy, zs, hz, h2⟩ := h
    exact ⟨y, freezeB_A n x y hy, zs, freezeBs_As n xs zs hz, h2⟩
end
def FrbA (k : Nat) (h : AHeap) (x y : AV) : Prop := ∀ n, bigN + k ≤ n → freezeB h n x = some y
def FrbS (k : Nat) (h : AHeap) (x y : List AV) : Prop := ∀ n, bigN + k ≤ n → freezeBs h n x = some y
def Frb (h : AHeap) (x y : AV) : Prop := FrbA 1000 h x y
section
variable {h : AHeap} {α : Type} {E : Enc α} {l : List α} {K : Mem} {q i : Nat}
theorem Frb.frz {x y : AV} (f : Frb h x y) : Frz h x y := fun n hn => freezeB_A _ _ _ (f n hn)
theorem frb {k : Nat} {x y : AV} (f : FrbA k h x y) (hk : k ≤ 1000 := by decide) : Frb h x y := fun n hn => f n (by omega)
theorem fb_atom {x y : AV} (h2 : ∀ n, freezeB h (n + 1) x = some y) : FrbA 0 h x y := fun n hn => by
  obtain ⟨k, rfl, _⟩ := succ_of (show bigN ≤ n by omega)
  exact h2 k
theorem fb_int {k : IntKind} {n : Int} : FrbA 0 h (.int k n) (.int k n) := fb_atom fun _ => rfl
theorem fb_bool {b : Bool} : FrbA 0 h (.bool b) (.bool b) := fb_atom fun _ => rfl
theorem fb_nils : FrbA 0 h .nils (E.fz []) := fb_atom fun _ => rfl
def atomC : AV → Bool
  | .int _ _ | .bool _ | .str _ => true
  | _ => false
theorem freezeBs_atoms : ∀ {cs : List AV} {n : Nat}, cs.all atomC = true → cs.length + 1 < n → freezeBs h n cs = some cs
  | [], n, _, hn => by
    obtain ⟨k, rfl⟩ : ∃ k, n = k + 1 := ⟨n - 1, by omega⟩
    rfl
  | x :: cs, n, h1, hn => by
    obtain ⟨k, rfl⟩ : ∃ k, n = k + 1 + 1 := ⟨n - 2, by simp at hn; omega⟩
    simp only [List.all_cons, Bool.and_eq_true] at h1
    simp only [freezeBs]
    have : freezeB h (k + 1) x = some x := by cases x <;> first | rfl | (simp [atomC] at h1)
    rw [this, Option.bind_some, freezeBs_atoms h1.2 (by simp at hn; omega)]
    rfl
theorem fb_rs {n : Nat} (o : Has h K) (hq : K[q]? = some (i, .sl n E.n (E.l l))) (hf : ∀ a : α, (E.f a).all atomC = true) : FrbA 0 h (.rs i 0 n E.n) (E.fz l) := fun m hm => by
  have hn := has_len o hq
  subst hn
  obtain ⟨⟨⟨hlen, hsm⟩, hlv⟩, hlt⟩ := o.at_ _ _ _ hq
  obtain ⟨k, rfl, hk⟩ := succ_of (show bigN ≤ m by omega)
  simp only [freezeB]
  rcases hlv with ⟨h0, h1⟩ | ⟨h0, rest, h1⟩
  · have : l = [] := by simpa using h1
    subst this
    simp [h0, Enc.fz, Enc.l]
  · rw [if_neg h0, h1]
    simp only [Option.bind_some]
    have e1 : ((E.l l ++ rest).drop 0).take (l.length * E.n) = E.l l := by
      rw [List.drop_zero, List.take_append_of_le_length (by rw [hlen]; exact Nat.le_refl _), List.take_of_length_le (by rw [hlen]; exact Nat.le_refl _)]
    rw [if_pos (by rw [List.length_append, hlen]; omega), e1, freezeBs_atoms ?_ (by simp only [bigN] at hk; omega)]
    · rfl
    · rw [List.all_eq_true]
      intro x hx
      unfold Enc.l at hx
      rw [List.mem_flatMap] at hx
      obtain ⟨a, _, ha⟩ := hx
      exact List.all_eq_true.1 (hf a) x ha
theorem fb_nil : FrbS 0 h [] [] := fun n hn => by
  obtain ⟨k, rfl, _⟩ := succ_of (show bigN ≤ n by omega)
  rfl
theorem fb_cons {k1 k2 : Nat} {x y : AV} {xs ys : List AV} (f : FrbA k1 h x y) (g : FrbS k2 h xs ys) : FrbS (k1 + k2 + 1) h (x :: xs) (y :: ys) := fun n hn => by
  obtain ⟨k, rfl⟩ : ∃ k, n = k + 1 := ⟨n - 1, by omega⟩
  simp only [freezeBs]
  rw [f k (by omega), g k (by omega)]
  rfl
theorem fb_tup {k : Nat} {xs ys : List AV} (f : FrbS k h xs ys) : FrbA (k + 1) h (.tup xs) (.tup ys) := fun n hn => by
  obtain ⟨k, rfl⟩ : ∃ k, n = k + 1 := ⟨n - 1, by omega⟩
  simp only [freezeB]
  rw [f k (by omega)]; rfl
def bigK : Nat := 4503599627370496
theorem frs {k : Nat} {xs ys : List AV} (f : FrzS k h xs ys) (hk : k ≤ bigK := by decide) : FrzS bigK h xs ys := fun n hn => f n (by omega)
def PureA (x y : AV) : Prop := x.noId = true ∧ x.unex = y
def PureS (xs ys : List AV) : Prop := noIds xs = true ∧ unexs xs = ys
theorem pu_int {k : IntKind} {n : Int} : PureA (.int k n) (.int k n) := ⟨rfl, rfl⟩
theorem pu_str {s : ByteArray} : PureA (.str s) (.str s) := ⟨rfl, rfl⟩
theorem pu_fz (hp : E.flat = true := by rfl) : PureA (E.fz l) (E.fz l) := Enc.fz_pure hp
theorem pu_nil : PureS [] [] := ⟨rfl, rfl⟩
theorem pu_cons {x y : AV} {xs ys : List AV} (a : PureA x y) (b : PureS xs ys) : PureS (x :: xs) (y :: ys) := ⟨by simp [noIds, a.1, b.1], by simp [unexs, a.2, b.2]⟩
theorem pu_agg {xs ys : List AV} (a : PureS xs ys) : PureA (.agg xs) (.agg ys) := ⟨by simpa [AV.noId] using a.1, by show AV.agg (unexs xs) = _; rw [a.2]⟩
end
end Go.R

namespace Go.R
open Go
def compl (k : IntKind) (x : Int) : Int := bitsXor k (if k.signed then -1 else k.max) x
def bytesStr (l : List Int) : ByteArray := ⟨(l.map fun n => UInt8.ofNat n.toNat).toArray⟩
def strBytes (s : ByteArray) : List Int := s.data.toList.map fun b => (b.toNat : Int)
section
variable {P : Program} {h : AHeap} {K : Mem} {i q : Nat} {cs cs' : List AV} {x z : AV} {t : TypeId} {off : Nat}
theorem bx_new (o : Has h K) (hok : cs.all AV.cellOK = true) : ∃ i h', boxH h cs = some (.ptr i 0, h') ∧ Has h' ((i, .ob cs) :: K) := by
  refine ⟨h.next, h.alloc (.cells cs), by unfold boxH; rw [if_pos hok], o.new (fun k hk => by rw [AHeap.alloc, put_get, if_neg (by omega)]) (Nat.le_succ _) (.inr (Nat.le_refl _)) (Nat.lt_succ_self _) ⟨by have := o.pos; omega, by rw [AHeap.alloc, put_get, if_pos rfl]⟩⟩
theorem ld_ob (o : Has h K) (hq : K[q]? = some (i, .ob cs)) (hr : readCs P t cs off = some z) : loadH P h t (.ptr i off) = some z := by
  obtain ⟨⟨h1, h2⟩, _⟩ := o.at_ _ _ _ hq
  simp only [loadH, loadA, h2, Option.bind_some, hr]
theorem st_ob (o : Has h K) (hq : K[q]? = some (i, .ob cs)) (hw : writeCs P t cs off x = some cs') : ∃ h', storeH P h t (.ptr i off) x = some h' ∧ Has h' (K.set q (i, .ob cs')) := by
  obtain ⟨⟨h1, h2⟩, _⟩ := o.at_ _ _ _ hq
  exact ⟨h.put i (.cells cs'), by simp only [storeH, h2, Option.bind_some, hw, Option.map_some], has_put o hq ⟨h1, by rw [put_get, if_pos rfl]⟩⟩
theorem u8s_enc : ∀ (l : List Int), u8s (eByte.l l) = some (l.map fun n => UInt8.ofNat n.toNat)
  | [] => rfl
  | a :: l => by
    have := u8s_enc l
    show (u8s (eByte.l l)).map _ = _
    rw [this]; rfl
theorem cv_str {a b e : TypeId} {l : List Int} {h : AHeap} {x : AV} (ha : P.underlying a = some (.slice e)) (hb : P.underlying b = some .string) (hu : isU8 P e = true) (hc : ∃ n, cellsOfA h 1 x = some (eByte.l l, n)) : convertA P h a b x = some (.str (bytesStr l)) := by
  obtain ⟨n, hc⟩ := hc
  simp only [convertA, ha, hb, hu, if_true, hc, Option.bind_some, u8s_enc, Option.map_some, bytesStr]
theorem cc_fz {l : List Int} (h : AHeap) : ∃ n, cellsOfA h 1 (eByte.fz l) = some (eByte.l l, n) := by
  refine ⟨l.length, ?_⟩
  simp only [cellsOfA, Enc.fz]
  rw [if_pos (by rw [Enc.l_length]; rfl)]
theorem strBytes_enc (s : ByteArray) : (AV.fz (s.data.toList.map fun b => AV.int .u8 b.toNat) s.size false) = eByte.fz (strBytes s) := by
  have h1 : ∀ l : List UInt8, (l.map fun b => AV.int .u8 b.toNat) = eByte.l (l.map fun b => (b.toNat : Int)) := by
    intro l
    induction l with
    | nil => rfl
    | cons b l ih => rw [List.map_cons, List.map_cons, Enc.l_cons, ← ih]; rfl
  unfold Enc.fz strBytes
  rw [h1, List.length_map]
  rfl
theorem cv_bytes {a b e : TypeId} {h : AHeap} {s : ByteArray} (ha : P.underlying a = some .string) (hb : P.underlying b = some (.slice e)) (hu : isU8 P e = true) : convertA P h a b (.str s) = some (eByte.fz (strBytes s)) := by
  simp only [convertA, ha, hb, hu, if_true]
  rw [strBytes_enc]
end
theorem can_pure {x y : AV} (h : PureA x y) : canonArg x = y := by
  unfold canonArg
  rw [h.1, h.2]; rfl
theorem can_nil : ([] : List AV).map canonArg = [] := rfl
theorem can_cons {x y : AV} {xs ys : List AV} (a : canonArg x = y) (b : xs.map canonArg = ys) : (x :: xs).map canonArg = y :: ys := by
  rw [List.map_cons, a, b]
theorem app_at {α : Type} {K L : List α} {q : Nat} {p : α} (h : L[q]? = some p) : (K ++ L)[K.length + q]? = some p := by
  rw [List.getElem?_append_right (by omega), Nat.add_sub_cancel_left, h]
theorem lit_new {α : Type} {E : Enc α} {h : AHeap} {K : Mem} {l : List α} {cs : List AV} (o : Has h K) (hc : cs = E.l l) (hl : l.length ≤ 1024 := by simp) :
    ∃ i h', some (AV.rs h.next 0 l.length E.n, h.alloc (.cells cs)) = some (AV.rs i 0 l.length E.n, h') ∧ Has h' ((i, .sl l.length E.n (E.l l)) :: K) := by
  subst hc
  exact ⟨h.next, _, rfl, o.new (fun k hk => by rw [AHeap.alloc, put_get, if_neg (by omega)]) (Nat.le_succ _) (.inr (Nat.le_refl _)) (Nat.lt_succ_self _) ⟨⟨Enc.l_length, Enc.l_small (by omega)⟩, .inr ⟨by have := o.pos; omega, [], by rw [AHeap.alloc, put_get, if_pos rfl]; simp⟩⟩⟩
end Go.R

namespace Go.R
open Go
def mn (x y : Int) : Int := if y < x then y else x
def mx (x y : Int) : Int := if y > x then y else x
def mgI (l : List (Int × Int)) (k : Int) : Int × Bool :=
  match l with
  | [] => (0, false)
  | (a, b) :: l => if k = a then (b, true) else mgI l k
def msI (l : List (Int × Int)) (k v : Int) : List (Int × Int) :=
  match l with
  | [] => [(k, v)]
  | (a, b) :: l => if k = a then (k, v) :: l else (a, b) :: msI l k v
def goodA (n : Nat) (l : List (List Int × Int)) (k : List Int) : Bool := k.length == n && l.all fun p => p.1.length == n
def mgA' (l : List (List Int × Int)) (k : List Int) : Int × Bool :=
  match l with
  | [] => (0, false)
  | (a, b) :: l => if k = a then (b, true) else mgA' l k
def mgA (n : Nat) (l : List (List Int × Int)) (k : List Int) : Option (Int × Bool) := if goodA n l k = true then some (mgA' l k) else none
def msA' (l : List (List Int × Int)) (k : List Int) (v : Int) : List (List Int × Int) :=
  match l with
  | [] => [(k, v)]
  | (a, b) :: l => if k = a then (k, v) :: l else (a, b) :: msA' l k v
def msA (n : Nat) (l : List (List Int × Int)) (k : List Int) (v : Int) : Option (List (List Int × Int)) := if goodA n l k = true then some (msA' l k v) else none
def mpI (l : List (Int × Int)) : List (AV × AV) := l.map fun p => (.int .i64 p.1, .int .i64 p.2)
def mpA (l : List (List Int × Int)) : List (AV × AV) := l.map fun p => (.agg (eInt.l p.1), .int .i64 p.2)
theorem findA_I (k : Int) : ∀ l : List (Int × Int), findA (.int .i64 k) (mpI l) = some (if (mgI l k).2 = true then some (.int .i64 (mgI l k).1) else none)
  | [] => rfl
  | (a, b) :: l => by
    simp only [mpI, List.map_cons, findA, sameShape, keyEq, keyEq1, mgI]
    have ih := findA_I k l
    simp only [mpI] at ih
    by_cases h : k = a
    · subst h; simp
    · simp [h, ih]
theorem updA_I (k v : Int) : ∀ l : List (Int × Int), updA (.int .i64 k) (.int .i64 v) (mpI l) = some (mpI (msI l k v))
  | [] => rfl
  | (a, b) :: l => by
    have ih := updA_I k v l
    simp only [mpI, List.map_cons, updA, sameShape, keyEq, keyEq1, msI] at ih ⊢
    by_cases h : k = a
    · subst h; simp
    · simp [h, ih]
theorem allInt (l : List Int) : (eInt.l l).all intCell = true := by
  induction l with
  | nil => rfl
  | cons a l ih => rw [Enc.l_cons, List.all_append, ih]; rfl
theorem lenInt (l : List Int) : (eInt.l l).length = l.length := by rw [Enc.l_length]; exact Nat.mul_one _
theorem keyEqs_int : ∀ a b : List Int, keyEqs (eInt.l a) (eInt.l b) = decide (a = b)
  | [], [] => rfl
  | [], b :: l => by simp [Enc.l_cons, Enc.l_nil, eI, keyEqs]
  | a :: l, [] => by simp [Enc.l_cons, Enc.l_nil, eI, keyEqs]
  | a :: l, b :: l' => by
    have ih := keyEqs_int l l'
    rw [Enc.l_cons, Enc.l_cons]
    show (keyEq1 (.int .i64 a) (.int .i64 b) && keyEqs (eInt.l l) (eInt.l l')) = _
    rw [ih]
    simp only [keyEq1]
    by_cases h1 : a = b <;> by_cases h2 : l = l' <;> simp [h1, h2]
theorem findA_A (n : Nat) (k : List Int) (hk : k.length = n) : ∀ l : List (List Int × Int), (l.all fun p => p.1.length == n) = true → findA (.agg (eInt.l k)) (mpA l) = some (if (mgA' l k).2 = true then some (.int .i64 (mgA' l k).1) else none)
  | [], _ => rfl
  | (a, b) :: l, h => by
    simp only [List.all_cons, Bool.and_eq_true, beq_iff_eq] at h
    have ih := findA_A n k hk l h.2
    simp only [mpA, List.map_cons, findA, sameShape, keyEq, mgA', allInt, lenInt, hk, h.1, keyEqs_int, beq_self_eq_true, Bool.true_and, if_true] at ih ⊢
    by_cases hka : k = a
    · subst hka; simp
    · simp [hka, ih]
theorem updA_A (n : Nat) (k : List Int) (v : Int) (hk : k.length = n) : ∀ l : List (List Int × Int), (l.all fun p => p.1.length == n) = true → updA (.agg (eInt.l k)) (.int .i64 v) (mpA l) = some (mpA (msA' l k v))
  | [], _ => rfl
  | (a, b) :: l, h => by
    simp only [List.all_cons, Bool.and_eq_true, beq_iff_eq] at h
    have ih := updA_A n k v hk l h.2
    simp only [mpA, List.map_cons, updA, sameShape, keyEq, msA', allInt, lenInt, hk, h.1, keyEqs_int, beq_self_eq_true, Bool.true_and, if_true] at ih ⊢
    by_cases hka : k = a
    · subst hka; simp
    · simp [hka, ih]
def mapIB (P : Program) (t : TypeId) : Bool :=
  match P.underlying t with
  | some (.map kt et) => (P.underlying kt matches some (.int .i64)) && (match zeroA P et with | some (.int .i64 n) => n == 0 | _ => false)
  | _ => false
def mapAB (P : Program) (t : TypeId) (n : Nat) : Bool :=
  match P.underlying t with
  | some (.map kt et) => (match P.underlying kt with | some (.array m e) => m == n && (P.underlying e matches some (.int .i64)) && szOf P e == some 1 | _ => false) && (match zeroA P et with | some (.int .i64 n) => n == 0 | _ => false)
  | _ => false
section
variable {P : Program} {h : AHeap} {K : Mem} {i q : Nat} {t : TypeId} {n : Nat}
theorem mapIB_spec (T : mapIB P t = true) : ∃ kt et, P.underlying t = some (.map kt et) ∧ (∀ k, keyOK P kt (.int .i64 k) = true) ∧ zeroA P et = some (.int .i64 0) := by
  unfold mapIB at T
  split at T
  · rename_i kt et ht
    simp only [Bool.and_eq_true] at T
    obtain ⟨h1, h2⟩ := T
    refine ⟨kt, et, ht, fun k => ?_, ?_⟩
    · revert h1
      split
      · rename_i hk; intro _; simp [keyOK, hk]
      · intro h; cases h
    · split at h2
      · rename_i z hz; simp only [beq_iff_eq] at h2; subst h2; exact hz
      · cases h2
  · cases T
theorem mapAB_spec (T : mapAB P t n = true) : ∃ kt et, P.underlying t = some (.map kt et) ∧ (∀ k : List Int, k.length = n → keyOK P kt (.agg (eInt.l k)) = true) ∧ zeroA P et = some (.int .i64 0) := by
  unfold mapAB at T
  split at T
  · rename_i kt et ht
    simp only [Bool.and_eq_true] at T
    obtain ⟨h1, h2⟩ := T
    refine ⟨kt, et, ht, fun k hk => ?_, ?_⟩
    · split at h1
      · rename_i m e hk2
        simp only [Bool.and_eq_true, beq_iff_eq] at h1
        obtain ⟨⟨h3, h4⟩, h5⟩ := h1
        subst h3
        simp only [keyOK, hk2, lenInt, hk, allInt, h5, beq_self_eq_true, Bool.true_and, Bool.and_true]
        exact h4
      · cases h1
    · split at h2
      · rename_i z hz; simp only [beq_iff_eq] at h2; subst h2; exact hz
      · cases h2
  · cases T
theorem mp_new (o : Has h K) : ∃ i h', (AV.mp h.next, h.alloc (.map [])) = (AV.mp i, h') ∧ Has h' ((i, .mp []) :: K) :=
  ⟨h.next, _, rfl, o.new (fun k hk => by rw [AHeap.alloc, put_get, if_neg (by omega)]) (Nat.le_succ _) (.inr (Nat.le_refl _)) (Nat.lt_succ_self _) ⟨by have := o.pos; omega, by rw [AHeap.alloc, put_get, if_pos rfl]⟩⟩
theorem lk_I {l : List (Int × Int)} {k : Int} (T : mapIB P t = true) (o : Has h K) (hq : K[q]? = some (i, .mp (mpI l))) : lookupA P h t (.mp i) (.int .i64 k) true = some (.tup [.int .i64 (mgI l k).1, .bool (mgI l k).2]) ∧ lookupA P h t (.mp i) (.int .i64 k) false = some (.int .i64 (mgI l k).1) := by
  obtain ⟨kt, et, h1, h2, h3⟩ := mapIB_spec T
  obtain ⟨⟨_, h4⟩, _⟩ := o.at_ _ _ _ hq
  have hz : (mgI l k).2 = false → (mgI l k).1 = 0 := by
    clear hq h4
    induction l with
    | nil => intro _; rfl
    | cons p l ih =>
      obtain ⟨a, b⟩ := p
      simp only [mgI]
      split
      · intro h; cases h
      · exact ih
  simp only [lookupA, h1, Option.bind_some, h2, Bool.true_eq_false, if_false, h4, findA_I]
  cases hc : (mgI l k).2 with
  | true => simp
  | false => simp [h3, hz hc]
theorem lk_A {l : List (List Int × Int)} {k : List Int} {r : Int × Bool} (T : mapAB P t n = true) (o : Has h K) (hq : K[q]? = some (i, .mp (mpA l))) (hr : mgA n l k = some r) : lookupA P h t (.mp i) (.agg (eInt.l k)) true = some (.tup [.int .i64 r.1, .bool r.2]) ∧ lookupA P h t (.mp i) (.agg (eInt.l k)) false = some (.int .i64 r.1) := by
  obtain ⟨kt, et, h1, h2, h3⟩ := mapAB_spec T
  obtain ⟨⟨_, h4⟩, _⟩ := o.at_ _ _ _ hq
  unfold mgA at hr
  split at hr
  rotate_left
  · cases hr
  rename_i hg
  cases hr
  simp only [goodA, Bool.and_eq_true, beq_iff_eq] at hg
  have hz : (mgA' l k).2 = false → (mgA' l k).1 = 0 := by
    clear hq h4 hg
    induction l with
    | nil => intro _; rfl
    | cons p l ih =>
      obtain ⟨a, b⟩ := p
      simp only [mgA']
      split
      · intro h; cases h
      · exact ih
  simp only [lookupA, h1, Option.bind_some, h2 k hg.1, Bool.true_eq_false, if_false, h4, findA_A n k hg.1 l hg.2]
  cases hc : (mgA' l k).2 with
  | true => simp
  | false => simp [h3, hz hc]
theorem mu_I {l : List (Int × Int)} {k v : Int} (T : mapIB P t = true) (o : Has h K) (hq : K[q]? = some (i, .mp (mpI l))) : ∃ h', mapUpdA P h t (.mp i) (.int .i64 k) (.int .i64 v) = some h' ∧ Has h' (K.set q (i, .mp (mpI (msI l k v)))) := by
  obtain ⟨kt, et, h1, h2, h3⟩ := mapIB_spec T
  obtain ⟨⟨h5, h4⟩, _⟩ := o.at_ _ _ _ hq
  refine ⟨h.put i (.map (mpI (msI l k v))), ?_, has_put o hq ⟨h5, by rw [put_get, if_pos rfl]⟩⟩
  simp only [mapUpdA, h1, Option.bind_some, h2]
  rw [if_neg (by simp [AV.argOK])]
  simp only [h4, Option.bind_some, updA_I, Option.map_some]
theorem mu_A {l r : List (List Int × Int)} {k : List Int} {v : Int} (T : mapAB P t n = true) (o : Has h K) (hq : K[q]? = some (i, .mp (mpA l))) (hr : msA n l k v = some r) : ∃ h', mapUpdA P h t (.mp i) (.agg (eInt.l k)) (.int .i64 v) = some h' ∧ Has h' (K.set q (i, .mp (mpA r))) := by
  obtain ⟨kt, et, h1, h2, h3⟩ := mapAB_spec T
  obtain ⟨⟨h5, h4⟩, _⟩ := o.at_ _ _ _ hq
  unfold msA at hr
  split at hr
  rotate_left
  · cases hr
  rename_i hg
  cases hr
  simp only [goodA, Bool.and_eq_true, beq_iff_eq] at hg
  refine ⟨h.put i (.map (mpA (msA' l k v))), ?_, has_put o hq ⟨h5, by rw [put_get, if_pos rfl]⟩⟩
  simp only [mapUpdA, h1, Option.bind_some, h2 k hg.1]
  rw [if_neg (by simp [AV.argOK])]
  simp only [h4, Option.bind_some, updA_A n k v hg.1 l hg.2, Option.map_some]
theorem ln_mp {es : List (AV × AV)} {kt et : TypeId} (ht : P.underlying t = some (.map kt et)) (o : Has h K) (hq : K[q]? = some (i, .mp es)) : lenA P h t (.mp i) = some (.int .i64 es.length) := by
  obtain ⟨⟨_, h4⟩, _⟩ := o.at_ _ _ _ hq
  simp only [lenA, ht, Option.bind_some, h4]
theorem ln_A {l : List (List Int × Int)} {kt et : TypeId} (ht : P.underlying t = some (.map kt et)) (o : Has h K) (hq : K[q]? = some (i, .mp (mpA l))) : lenA P h t (.mp i) = some (.int .i64 l.length) := by
  rw [ln_mp ht o hq, mpA, List.length_map]
variable {l : List Int} {j : Int} {a : Int} {k : IntKind} {cs : List AV}
def arrB (P : Program) (t : TypeId) (n : Nat) : Bool := match P.underlying t with | some (.array m e) => m == n && szOf P e == some 1 && szOf P t == some n && (isAggT P t == some true) | _ => false
theorem arrB_spec (T : arrB P t n = true) : ∃ e, P.underlying t = some (.array n e) ∧ szOf P e = some 1 ∧ szOf P t = some n ∧ isAggT P t = some true := by
  unfold arrB at T
  split at T
  · rename_i m e h
    simp only [Bool.and_eq_true, beq_iff_eq] at T
    obtain ⟨⟨⟨h1, h2⟩, h3⟩, h4⟩ := T
    subst h1
    exact ⟨e, h, h2, h3, h4⟩
  · cases T
theorem arr_new (o : Has h K) (hc : cs = eInt.l l) (hl : l.length ≤ 1024 := by decide) : ∃ i h', boxH h cs = some (.ptr i 0, h') ∧ Has h' ((i, .sl l.length 1 (eInt.l l)) :: K) := by
  subst hc
  refine ⟨h.next, h.alloc (.cells (eInt.l l)), ?_, o.new (fun k hk => by rw [AHeap.alloc, put_get, if_neg (by omega)]) (Nat.le_succ _) (.inr (Nat.le_refl _)) (Nat.lt_succ_self _) ⟨⟨Enc.l_length, Enc.l_small (by omega)⟩, .inr ⟨by have := o.pos; omega, [], by rw [AHeap.alloc, put_get, if_pos rfl]; simp⟩⟩⟩
  unfold boxH
  rw [if_pos]
  have : ∀ l : List Int, (eInt.l l).all AV.cellOK = true := fun l => by
    induction l with
    | nil => rfl
    | cons a l ih => rw [Enc.l_cons, List.all_append, ih]; rfl
  exact this l
theorem ia_arr (T : arrB P t n = true) (o : Has h K) (hq : K[q]? = some (i, .sl n 1 (eInt.l l))) (hj : ix l j = some a) : indexAddrA P t (.ptr i 0) (.int k j) = some (.ptr i (0 + j.toNat * 1)) := by
  obtain ⟨e, h1, h2, _, _⟩ := arrB_spec T
  have hn := has_len (E := eInt) o hq
  obtain ⟨g1, g2, g3⟩ := ix_spec hj
  simp only [indexAddrA, h1, Option.bind_some, h2]
  rw [if_pos ⟨g1, by omega⟩]
  rfl
theorem arr_cells (o : Has h K) (hq : K[q]? = some (i, .sl n 1 (eInt.l l))) (hn0 : n ≠ 0) : i ≠ 0 ∧ ∃ rest, h.get i = some (.cells (eInt.l l ++ rest)) := by
  obtain ⟨⟨_, h1⟩, _⟩ := o.at_ _ _ _ hq
  rcases h1 with ⟨_, h1⟩ | h1
  · exact absurd h1 hn0
  · exact h1
theorem ld_arr (T : arrB P t n = true) (o : Has h K) (hq : K[q]? = some (i, .sl n 1 (eInt.l l))) (hn0 : n ≠ 0 := by decide) : loadH P h t (.ptr i 0) = some (.agg (eInt.l l)) := by
  obtain ⟨e, h1, h2, h3, h4⟩ := arrB_spec T
  have hn := has_len (E := eInt) o hq
  obtain ⟨_, rest, h5⟩ := arr_cells o hq hn0
  simp only [loadH, loadA, h5, Option.bind_some, readCs, h4, if_true, h3]
  rw [if_pos (by rw [List.length_append, lenInt]; omega), List.drop_zero, List.take_append_of_le_length (by rw [lenInt]; omega), List.take_of_length_le (by rw [lenInt]; omega)]
theorem st_arr {l' : List Int} {x : AV} (T : arrB P t n = true) (o : Has h K) (hq : K[q]? = some (i, .sl n 1 (eInt.l l))) (hx : x.cells = eInt.l l') (hl : l'.length = n) (hn0 : n ≠ 0 := by decide) : ∃ h', storeH P h t (.ptr i 0) x = some h' ∧ Has h' (K.set q (i, .sl n 1 (eInt.l l'))) := by
  obtain ⟨e, h1, h2, h3, h4⟩ := arrB_spec T
  have hn := has_len (E := eInt) o hq
  obtain ⟨h6, rest, h5⟩ := arr_cells o hq hn0
  have hok : (eInt.l l').all AV.cellOK = true := by
    clear hx hl
    induction l' with
    | nil => rfl
    | cons a l ih => rw [Enc.l_cons, List.all_append, ih]; rfl
  have hsm := (o.at_ _ _ _ hq).1.1.2
  refine ⟨h.put i (.cells (eInt.l l' ++ rest)), ?_, has_put o hq ⟨⟨by rw [lenInt, hl, Nat.mul_one], by rw [lenInt, hl, hn, ← lenInt]; exact hsm⟩, .inr ⟨h6, rest, by rw [put_get, if_pos rfl]⟩⟩⟩
  simp only [storeH, h5, Option.bind_some, writeCs, h3, hx]
  rw [if_pos ⟨by rw [lenInt, hl], hok, by rw [List.length_append, lenInt]; omega⟩, Option.map_some]
  have := splice_append (eInt.l l) (eInt.l l') [] rest (by rw [lenInt, lenInt]; omega)
  simp only [List.nil_append, List.length_nil] at this
  rw [this]
end
end Go.R

