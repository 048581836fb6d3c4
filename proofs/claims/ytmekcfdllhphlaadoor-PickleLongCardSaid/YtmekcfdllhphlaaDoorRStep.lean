/- Stepping: what simp needs to run the interpreter where values are not closed. -/
import Derived.Test.YtmekcfdllhphlaaDoorRRow
set_option linter.unusedVariables false
set_option linter.unusedSimpArgs false
namespace Go.R
open Go

section
variable {P : Program} {cf : CallF} {locs ds : List Nat} {s : RS} {d : Option Tmp} {t : TypeId} {p : String} {a : Array Edge} {g : Option (Nat × Bool)} {ops : List Oper} {ρ : Nat → AV} {bx : Nat → Option (List AV)} {h : AHeap}

@[simp] theorem runA_nil : runA P cf locs ops s [] = some s := rfl
@[simp] theorem runA_cons {o os} : runA P cf locs ops s (o :: os) = (stepA P cf locs ops s o).bind fun s' => runA P cf locs ops s' os := rfl
@[simp] theorem stepA_none {op} : stepA P cf locs ops s ⟨d, op, t, p, a, none⟩ = opA P cf locs (ops.filterMap (·.dst)) s ⟨d, op, t, p, a, none⟩ := rfl
@[simp] theorem stepA_some {op j w} : stepA P cf locs ops s ⟨d, op, t, p, a, some (j, w)⟩ =
    ((((ops[j]?).bind (·.dst)).bind fun e => match s.ρ e with | .bool b => some (b == w) | .tup [] => some false | _ => none).bind fun v =>
      if v then opA P cf locs (ops.filterMap (·.dst)) s ⟨d, op, t, p, a, some (j, w)⟩ else some (s.set d (.tup []))) := rfl

@[simp] theorem opA_move {x} : opA P cf locs ds s ⟨d, .move x, t, p, a, g⟩ = some (s.set d (opnd s.ρ x)) := rfl
@[simp] theorem opA_assign {x} : opA P cf locs ds s ⟨d, .assign x, t, p, a, g⟩ = some (s.set d (opnd s.ρ x)) := rfl
@[simp] theorem opA_pick {c x y} : opA P cf locs ds s ⟨d, .pick c x y, t, p, a, g⟩ = (boolA (opnd s.ρ c)).map fun b => s.set d (if b then opnd s.ρ x else opnd s.ρ y) := rfl
@[simp] theorem opA_alloc {u} : opA P cf locs ds s ⟨d, .alloc u, t, p, a, g⟩ = (zeroA P u).bind fun z => newBox s locs ds ⟨d, .alloc u, t, p, a, g⟩ z.cells := rfl
@[simp] theorem opA_box {u x} : opA P cf locs ds s ⟨d, .box u x, t, p, a, g⟩ = newBox s locs ds ⟨d, .box u x, t, p, a, g⟩ (opnd s.ρ x).cells := rfl
@[simp] theorem opA_build {u ps} : opA P cf locs ds s ⟨d, .build u ps, t, p, a, g⟩ = (buildA P u (ps.toList.map fun (i, x) => (i, opnd s.ρ x))).map fun z => s.set d z := rfl
@[simp] theorem opA_buildSlice {u n ps} : opA P cf locs ds s ⟨d, .buildSlice u n ps, t, p, a, g⟩ = (buildSliceA P u n (ps.toList.map fun (i, x) => (i, opnd s.ρ x))).map fun z => s.set d z := rfl
@[simp] theorem opA_load {u x} : opA P cf locs ds s ⟨d, .load u x, t, p, a, g⟩ = (loadA P s.bx s.h u (opnd s.ρ x)).map fun z => s.set d z := rfl
@[simp] theorem opA_store {u x y} : opA P cf locs ds s ⟨none, .store u x y, t, p, a, g⟩ = (match opnd s.ρ x with
    | .lp k off => (s.bx k).bind fun cs => (writeCs P u cs off (opnd s.ρ y)).map fun cs' => s.box k cs'
    | .ptr id off => (s.h.get id).bind fun | .cells cs => (writeCs P u cs off (opnd s.ρ y)).map fun cs' => { s with h := s.h.put id (.cells cs') } | _ => none
    | _ => none) := rfl
@[simp] theorem opA_nilCheck {x} : opA P cf locs ds s ⟨d, .nilCheck x, t, p, a, g⟩ = (nilCheckA (opnd s.ρ x)).map fun z => s.set d z := rfl
@[simp] theorem opA_binOp {op u x y u2} : opA P cf locs ds s ⟨d, .binOp op u x y u2, t, p, a, g⟩ = (binOpA P op u (opnd s.ρ x) (opnd s.ρ y)).map fun z => s.set d z := rfl
@[simp] theorem opA_unOp {op u x} : opA P cf locs ds s ⟨d, .unOp op u x, t, p, a, g⟩ = ((opnd s.ρ x).conc1.bind fun v => (pureRun P (Op.unary op v)).bind ofV1).map fun z => s.set d z := rfl
@[simp] theorem opA_convert {u v x} : opA P cf locs ds s ⟨d, .convert u v x, t, p, a, g⟩ = (convertA P s.h u v (opnd s.ρ x)).map fun z => s.set d z := rfl
@[simp] theorem opA_makeFunc {f first cap} : opA P cf locs ds s ⟨d, .makeFunc (.func f) first cap, t, p, a, g⟩ = (if first.isEmpty ∧ (cap.toList.map (opnd s.ρ)).all AV.cellOK then some (s.set d (.fn f (cap.toList.map (opnd s.ρ)))) else none) := rfl
@[simp] theorem opA_makeMap {u} : opA P cf locs ds s ⟨d, .makeMap u none, t, p, a, g⟩ = some (({ s with h := s.h.alloc (.map []) } : RS).set d (.mp s.h.next)) := rfl
@[simp] theorem opA_makeSlice {u l c} : opA P cf locs ds s ⟨d, .makeSlice u l c, t, p, a, g⟩ = (makeSliceA P s.h u (opnd s.ρ l) (opnd s.ρ c)).map fun x => ({ s with h := x.2 } : RS).set d x.1 := rfl
@[simp] theorem opA_slice {u x lo hi mx} : opA P cf locs ds s ⟨d, .slice u x lo hi mx, t, p, a, g⟩ = (sliceA P u (opnd s.ρ x) (lo.map (opnd s.ρ)) (hi.map (opnd s.ρ)) (mx.map (opnd s.ρ))).map fun z => s.set d z := rfl
@[simp] theorem opA_fieldAddr {u x f} : opA P cf locs ds s ⟨d, .fieldAddr u x f, t, p, a, g⟩ = (fieldAddrA P u (opnd s.ρ x) f).map fun z => s.set d z := rfl
@[simp] theorem opA_field {u x f} : opA P cf locs ds s ⟨d, .field u x f, t, p, a, g⟩ = (fieldA P u (opnd s.ρ x) f).map fun z => s.set d z := rfl
@[simp] theorem opA_indexAddr {u x i} : opA P cf locs ds s ⟨d, .indexAddr u x i, t, p, a, g⟩ = (indexAddrA P u (opnd s.ρ x) (opnd s.ρ i)).map fun z => s.set d z := rfl
@[simp] theorem opA_index {u x i} : opA P cf locs ds s ⟨d, .index u x i, t, p, a, g⟩ = (indexA P u (opnd s.ρ x) (opnd s.ρ i)).map fun z => s.set d z := rfl
@[simp] theorem opA_lookup {u m k ok} : opA P cf locs ds s ⟨d, .lookup u m k ok, t, p, a, g⟩ = (lookupA P s.h u (opnd s.ρ m) (opnd s.ρ k) ok).map fun z => s.set d z := rfl
@[simp] theorem opA_mapUpdate {u m k x} : opA P cf locs ds s ⟨none, .mapUpdate u m k x, t, p, a, g⟩ = (mapUpdA P s.h u (opnd s.ρ m) (opnd s.ρ k) (opnd s.ρ x)).map fun h => { s with h } := rfl
@[simp] theorem opA_insert {u m k x} : opA P cf locs ds s ⟨none, .insert u m k x, t, p, a, g⟩ = (mapUpdA P s.h u (opnd s.ρ m) (opnd s.ρ k) (opnd s.ρ x)).map fun h => { s with h } := rfl
@[simp] theorem opA_extract {x i} : opA P cf locs ds s ⟨d, .extract x i, t, p, a, g⟩ = (extractA (opnd s.ρ x) i).map fun z => s.set d z := rfl
@[simp] theorem opA_builtin {b args ats} : opA P cf locs ds s ⟨d, .call ⟨.builtin b, args, ats⟩, t, p, a, g⟩ = callBuiltin P s ⟨d, .call ⟨.builtin b, args, ats⟩, t, p, a, g⟩ b ats.toList (args.toList.map (opnd s.ρ)) := rfl
@[simp] theorem opA_call {f args ats} : opA P cf locs ds s ⟨d, .call ⟨.value f, args, ats⟩, t, p, a, g⟩ = (match opnd s.ρ f with
    | .fn f cap => if (args.toList.map (opnd s.ρ)).all AV.argOK then (cf f (args.toList.map (opnd s.ρ) ++ cap) s.h).map fun x => ({ s with h := x.2 } : RS).set d x.1 else none
    | _ => none) := rfl

@[simp] theorem opnd_tmp {t} : opnd ρ (.tmp t) = ρ t := rfl
@[simp] theorem opnd_int {k n} : opnd ρ (.const (.int k n)) = .int k n := rfl
@[simp] theorem opnd_bool {b} : opnd ρ (.const (.bool b)) = .bool b := rfl
@[simp] theorem opnd_string {b} : opnd ρ (.const (.string b)) = .str b := rfl
@[simp] theorem opnd_nilp : opnd ρ (.const (.pointer none)) = .nilp := rfl
@[simp] theorem opnd_nils : opnd ρ (.const (.slice none 0 0)) = .nils := rfl
@[simp] theorem opnd_nilm : opnd ρ (.const (.map none)) = .nilm := rfl
@[simp] theorem opnd_nilf : opnd ρ (.const .nilFunc) = .nilf := rfl
@[simp] theorem opnd_agg {vs} : opnd ρ (.const (.agg vs)) = ((ofV (.agg vs)).getD .any) := rfl
@[simp] theorem opnd_func {f} : opnd ρ (.func f) = .fn f [] := rfl

@[simp] theorem set_ρ1 {e v t} : (s.set (some e) v).ρ t = if t = e then v else s.ρ t := set_ρ s e t v
@[simp] theorem set_ρ0 {v} : s.set none v = s := rfl
@[simp] theorem set_h1 {v} : (s.set d v).h = s.h := set_h s d v
@[simp] theorem set_bx1 {v} : (s.set d v).bx = s.bx := set_bx s d v
@[simp] theorem box_ρ1 {k cs} : (s.box k cs).ρ = s.ρ := rfl
@[simp] theorem box_h1 {k cs} : (s.box k cs).h = s.h := rfl
@[simp] theorem box_bx1 {k cs j} : (s.box k cs).bx j = if j = k then some cs else s.bx j := box_bx s k j cs

@[simp] theorem look_cons {α : Type} {e : α} {k ks v vs t} : look e (k :: ks) (v :: vs) t = if t = k then v else look e ks vs t := by simp [look, beq_nat]
@[simp] theorem look_nil {α : Type} {e : α} {vs t} : look e [] vs t = e := by cases vs <;> rfl
@[simp] theorem look_nil' {α : Type} {e : α} {ks t} : look e ks [] t = e := by cases ks <;> rfl

@[simp] theorem open_ρ {A : Ann} {vars bxs h} : (St.open A ⟨vars, bxs, h⟩).ρ = look AV.any A.keep vars := rfl
@[simp] theorem open_bx {A : Ann} {vars bxs h} : (St.open A ⟨vars, bxs, h⟩).bx = look none A.locs bxs := rfl
@[simp] theorem open_h {A : Ann} {vars bxs h} : (St.open A ⟨vars, bxs, h⟩).h = h := rfl
@[simp] theorem shut_eq {A : Ann} : RS.shut A s = ⟨A.keep.map (shutV A.locs s.ρ), A.locs.map s.bx, s.h⟩ := rfl

/-- What is kept of a value. -/
def keepV (locs : List Nat) (t : Nat) : AV → AV
  | .lp k off => bif Nat.beq k t && Nat.beq off 0 && locs.contains k then .lp k off else .any
  | v => v
@[simp] theorem shutV_eq {t} : shutV locs ρ t = keepV locs t (ρ t) := by
  unfold shutV keepV
  split <;> simp_all

variable {A : Ann} {m : Nat} {st : St}
@[simp] theorem execA_skip : execA P cf A m .skip st = some (.norm, st) := rfl
@[simp] theorem execA_label {l} : execA P cf A m (.label l) st = some (.norm, st) := rfl
@[simp] theorem execA_ret : execA P cf A m .ret st = some (.ret, st) := rfl
@[simp] theorem execA_exit {id} : execA P cf A m (.exit id) st = some (.exit id, st) := rfl
theorem execA_seq {x y} : execA P cf A m (.seq x y) st = (execA P cf A m x st).bind fun
    | (.norm, s') => execA P cf A m y s'
    | r => some r := rfl
theorem execA_block {id x} : execA P cf A m (.block id x) st = (execA P cf A m x st).map fun
    | (.exit i, s') => (if i = id then .norm else .exit i, s')
    | r => r := rfl
theorem execA_cond {k x y} : execA P cf A m (.cond k x y) st = (boolA (opnd (st.open A).ρ k)).bind fun t => if t then execA P cf A m x st else execA P cf A m y st := rfl
theorem execA_loop {x} : execA P cf A m (.loop x) st = iterA (execA P cf A m x) m st := rfl
theorem execA_region {id ops} : execA P cf A m (.region id ops false) st = (runA P cf A.locs ops.toList (st.open A) ops.toList).map fun s' => (.norm, s'.shut A) := rfl
theorem execA_draws {id ops} : execA P cf A m (.region id ops true) st = (drawsA P cf A.locs ops (st.open A)).map fun s' => (.norm, s'.shut A) := rfl
theorem iterA_succ {f : St → Option (Ex × St)} {n st} : iterA f (n + 1) st = (f st).bind fun
    | (.norm, s') => iterA f n s'
    | r => some r := rfl
end

section
variable {locs : List Nat} {t : Nat}
@[simp] theorem keepV_any : keepV locs t (.any) = .any := rfl
@[simp] theorem keepV_bool {b} : keepV locs t (.bool b) = .bool b := rfl
@[simp] theorem keepV_int {k n} : keepV locs t (.int k n) = .int k n := rfl
@[simp] theorem keepV_str {b} : keepV locs t (.str b) = .str b := rfl
@[simp] theorem keepV_nilp : keepV locs t (.nilp) = .nilp := rfl
@[simp] theorem keepV_ptr {i o} : keepV locs t (.ptr i o) = .ptr i o := rfl
@[simp] theorem keepV_fp {cs o} : keepV locs t (.fp cs o) = .fp cs o := rfl
@[simp] theorem keepV_nils : keepV locs t (.nils) = .nils := rfl
@[simp] theorem keepV_fz {cs n e} : keepV locs t (.fz cs n e) = .fz cs n e := rfl
@[simp] theorem keepV_rs {i o l z} : keepV locs t (.rs i o l z) = .rs i o l z := rfl
@[simp] theorem keepV_nilm : keepV locs t (.nilm) = .nilm := rfl
@[simp] theorem keepV_mp {i} : keepV locs t (.mp i) = .mp i := rfl
@[simp] theorem keepV_fn {f cs} : keepV locs t (.fn f cs) = .fn f cs := rfl
@[simp] theorem keepV_nilf : keepV locs t (.nilf) = .nilf := rfl
@[simp] theorem keepV_agg {cs} : keepV locs t (.agg cs) = .agg cs := rfl
@[simp] theorem keepV_tup {cs} : keepV locs t (.tup cs) = .tup cs := rfl
@[simp] theorem keepV_own {k : Nat} : keepV locs k (.lp k 0) = if locs.contains k then .lp k 0 else .any := by
  unfold keepV
  by_cases h : locs.contains k = true <;> simp [h]
end

section
variable {P : Program} {s : RS} {o : Oper} {t t2 : TypeId} {x y : AV} {h : AHeap} {a b : Int}
@[simp] theorem builtin_len : callBuiltin P s o .len [t] [x] = (lenA P s.h t x).map fun v => s.set o.dst v := rfl
@[simp] theorem builtin_append : callBuiltin P s o .append [t, t2] [x, y] = (appendA P s.h t t2 x y).map fun z => ({ s with h := z.2 } : RS).set o.dst z.1 := rfl
@[simp] theorem builtin_copy : callBuiltin P s o .copy [t, t2] [x, y] = (copyA P s.h t t2 x y).map fun z => ({ s with h := z.2 } : RS).set o.dst z.1 := rfl
@[simp] theorem boolA_bool {b : Bool} : boolA (.bool b) = some b := rfl
@[simp] theorem bin_lss : binOpA P .lss t (.int .i64 a) (.int .i64 b) = some (.bool (decide (a < b))) := rfl
@[simp] theorem bin_leq : binOpA P .leq t (.int .i64 a) (.int .i64 b) = some (.bool (decide (a ≤ b))) := rfl
@[simp] theorem bin_gtr : binOpA P .gtr t (.int .i64 a) (.int .i64 b) = some (.bool (decide (a > b))) := rfl
@[simp] theorem bin_geq : binOpA P .geq t (.int .i64 a) (.int .i64 b) = some (.bool (decide (a ≥ b))) := rfl
@[simp] theorem bin_eql : binOpA P .eql t (.int .i64 a) (.int .i64 b) = some (.bool (a == b)) := rfl
@[simp] theorem bin_neq : binOpA P .neq t (.int .i64 a) (.int .i64 b) = some (.bool (!(a == b))) := rfl
@[simp] theorem bin_add : binOpA P .add t (.int .i64 a) (.int .i64 b) = some (.int .i64 (IntKind.i64.wrap (a + b))) := rfl
@[simp] theorem bin_sub : binOpA P .sub t (.int .i64 a) (.int .i64 b) = some (.int .i64 (IntKind.i64.wrap (a - b))) := rfl
end
end Go.R
