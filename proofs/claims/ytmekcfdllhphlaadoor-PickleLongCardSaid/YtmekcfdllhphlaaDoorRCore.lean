/- The abstract interpreter: definitions alone. -/
import GoSem.Dispatch
import GoSem.Machine.Return
import Derived.Orders
namespace Go.R
open Go

/-- Abstract values. 'any': nothing is known. 'lp k off': into the frame's own box k. 'fp cs off': into memory that never changes. 'fz cs n ex': a slice of memory that never changes (its cells, its length, whether its capacity is its length). 'rs id off len esz': a slice of the array id. -/
inductive AV where
  | any
  | bool (b : Bool)
  | int (k : IntKind) (n : Int)
  | str (s : ByteArray)
  | nilp
  | ptr (id off : Nat)
  | lp (k off : Nat)
  | fp (cs : List AV) (off : Nat)
  | nils
  | fz (cs : List AV) (n : Nat) (ex : Bool)
  | rs (id off len esz : Nat)
  | nilm
  | mp (id : Nat)
  | fn (f : FuncId) (cap : List AV)
  | nilf
  | agg (cs : List AV)
  | tup (vs : List AV)
  deriving Inhabited

inductive AObj where
  | cells (cs : List AV)
  | map (es : List (AV × AV))
  | row (e : TypeId) (cs : List AV)
  deriving Inhabited

/-- 'ver': when an object was turned last. -/
structure AHeap where
  get : Nat → Option AObj
  ver : Nat → Nat
  next : Nat

def AHeap.put (h : AHeap) (id : Nat) (o : AObj) : AHeap := { get := fun i => bif Nat.beq i id then some o else h.get i, ver := fun i => bif Nat.beq i id then h.next else h.ver i, next := h.next + 1 }
def AHeap.kill (h : AHeap) (id : Nat) : AHeap := { get := fun i => bif Nat.beq i id then none else h.get i, ver := fun i => bif Nat.beq i id then h.next else h.ver i, next := h.next + 1 }
def AHeap.alloc (h : AHeap) (o : AObj) : AHeap := h.put h.next o

def AV.cells : AV → List AV
  | .agg cs => cs
  | v => [v]

/-- May it lie in a cell? -/
def AV.cellOK : AV → Bool
  | .any | .lp .. | .agg _ | .tup _ => false
  | _ => true

/-- May it leave the frame? -/
def AV.argOK : AV → Bool
  | .lp .. | .any => false
  | .agg cs => cs.all AV.cellOK
  | _ => true

/-- A closed value of one cell. -/
def AV.conc1 : AV → Option Value
  | .bool b => some (.bool b)
  | .int k n => some (.int k n)
  | .str s => some (.string s)
  | .nilp => some (.pointer none)
  | .nilf => some .nilFunc
  | .nilm => some (.map none)
  | .nils => some (.slice none 0 0)
  | _ => none
def conc1s : List AV → Option (List Value)
  | [] => some []
  | x :: xs => (x.conc1).bind fun v => (conc1s xs).bind fun vs => some (v :: vs)
def AV.conc : AV → Option Value
  | .agg cs => (conc1s cs).map fun vs => .agg vs.toArray
  | v => v.conc1

def ofV1 : Value → Option AV
  | .bool b => some (.bool b)
  | .int k n => some (.int k n)
  | .string s => some (.str s)
  | .pointer none => some .nilp
  | .slice none 0 0 => some .nils
  | .map none => some .nilm
  | .nilFunc => some .nilf
  | _ => none
def ofV1s : List Value → Option (List AV)
  | [] => some []
  | x :: xs => (ofV1 x).bind fun v => (ofV1s xs).bind fun vs => some (v :: vs)
def ofV : Value → Option AV
  | .agg cs => (ofV1s cs.toList).map .agg
  | v => ofV1 v

/-- What a computation that asks nothing of the world comes to. -/
def pureRun {α : Type} (P : Program) : Sem α → Option α
  | .pure a => some a
  | .program k => pureRun P (k P)
  | _ => none

def opnd (ρ : Nat → AV) : Operand → AV
  | .tmp t => ρ t
  | .const v => (ofV v).getD .any
  | .func f => .fn f []
  | .global _ => .any

section
variable (P : Program)

def szOf (t : TypeId) : Option Nat := (P.info? t).map (·.size)
def zeroA (t : TypeId) : Option AV := (P.info? t).bind fun i => i.zero.bind ofV
def isAggT (t : TypeId) : Option Bool := (P.underlying t).map fun | .struct _ | .array _ _ => true | _ => false

/-- A variable read out of cells. -/
def readCs (t : TypeId) (cs : List AV) (off : Nat) : Option AV :=
  (isAggT P t).bind fun ag => if ag then (szOf P t).bind fun n => if off + n ≤ cs.length then some (.agg ((cs.drop off).take n)) else none else cs[off]?

def splice : List AV → Nat → List AV → List AV
  | cs, _, [] => cs
  | cs, i, v :: vs => splice (cs.set i v) (i + 1) vs

/-- A variable written into cells. -/
def writeCs (t : TypeId) (cs : List AV) (off : Nat) (v : AV) : Option (List AV) :=
  (szOf P t).bind fun n => if v.cells.length = n ∧ v.cells.all AV.cellOK ∧ off + n ≤ cs.length then some (splice cs off v.cells) else none

def fillA (place : Nat → Option (Nat × Nat)) (cells : List AV) : List (Nat × AV) → Option (List AV)
  | [] => some cells
  | (i, v) :: rest =>
    (place i).bind fun (off, size) =>
      if v.cells.length = size ∧ v.cells.all AV.cellOK ∧ off + size ≤ cells.length then fillA place (splice cells off v.cells) rest else none

def places (fs : List Field) (i : Nat) : Option (Nat × Nat) := (fs[i]?).bind fun f => (szOf P f.type).map fun n => (f.offset, n)

def buildA (t : TypeId) (parts : List (Nat × AV)) : Option AV :=
  (zeroA P t).bind fun z => (P.underlying t).bind fun
    | .struct fs => if fs.toList.all (fun f => (szOf P f.type).isSome) then (fillA (places P fs.toList) z.cells parts).map .agg else none
    | .array _ e => (szOf P e).bind fun n => (fillA (fun i => some (i * n, n)) z.cells parts).map .agg
    | _ => none

def replA (z : List AV) : Nat → List AV
  | 0 => []
  | n + 1 => z ++ replA z n

def buildSliceA (t : TypeId) (len : Nat) (parts : List (Nat × AV)) : Option AV :=
  (P.underlying t).bind fun
    | .slice e => (szOf P e).bind fun n => if n = 0 ∨ len * n > 16777216 then none else if len = 0 then (if parts.isEmpty then some (.fz [] 0 true) else none) else
        (zeroA P e).bind fun z => if z.cells.length = n then (fillA (fun i => some (i * n, n)) (replA z.cells len) parts).map fun cs => .fz cs len true else none
    | _ => none

def AV.shift : AV → Nat → Option AV
  | .ptr id off, n => some (.ptr id (off + n))
  | .lp k off, n => some (.lp k (off + n))
  | .fp cs off, n => some (.fp cs (off + n))
  | _, _ => none

def fieldAddrA (s : TypeId) (x : AV) (f : Nat) : Option AV :=
  (P.underlying s).bind fun
    | .struct fs => (fs[f]?).bind fun fd => (szOf P fd.type).bind fun n => if n = 0 then none else x.shift fd.offset
    | _ => none

def indexAddrA (t : TypeId) (x i : AV) : Option AV :=
  match i with
  | .int _ i =>
    (P.underlying t).bind fun
      | .array len e => (szOf P e).bind fun n => if 0 ≤ i ∧ i < len then x.shift (i.toNat * n) else none
      | .slice e => (szOf P e).bind fun n =>
        match x with
        | .fz cs len _ => if 0 ≤ i ∧ i < len ∧ i.toNat * n < cs.length then some (.fp cs (i.toNat * n)) else none
        | .rs id off len esz => if esz = n ∧ 0 ≤ i ∧ i < len then some (.ptr id (off + i.toNat * n)) else none
        | _ => none
      | _ => none
  | _ => none

def partA (t : TypeId) (cs : List AV) (off : Nat) : Option AV := readCs P t cs off

def fieldA (s : TypeId) (x : AV) (f : Nat) : Option AV :=
  match x with
  | .agg cs => (P.underlying s).bind fun
    | .struct fs => (fs[f]?).bind fun fd => partA P fd.type cs fd.offset
    | _ => none
  | _ => none

def indexA (t : TypeId) (x i : AV) : Option AV :=
  match i with
  | .int _ i =>
    (P.underlying t).bind fun
      | .array len e => match x with
        | .agg cs => (szOf P e).bind fun n => if 0 ≤ i ∧ i < len then partA P e cs (i.toNat * n) else none
        | _ => none
      | .string => match x with
        | .str s => if 0 ≤ i then (s.data.toList[i.toNat]?).map fun b => .int .u8 b.toNat else none
        | _ => none
      | _ => none
  | _ => none

/-- low and high of a slice expression without a third index. -/
def boundsA (len cap : Nat) (lo hi : Option AV) : Option (Nat × Nat) :=
  (match hi with | none => some len | some (.int _ i) => if 0 ≤ i ∧ i ≤ cap then some i.toNat else none | _ => none).bind fun h =>
  (match lo with | none => some 0 | some (.int _ i) => if 0 ≤ i ∧ i ≤ h then some i.toNat else none | _ => none).bind fun l => some (l, h)

def isZero : Option AV → Bool
  | none => true
  | some (.int _ i) => i == 0
  | _ => false

def sliceA (t : TypeId) (x : AV) (lo hi mx : Option AV) : Option AV :=
  (P.underlying t).bind fun
    | .string => match x, mx with
      | .str s, none => (boundsA s.size s.size lo hi).map fun (l, h) => .str (s.extract l h)
      | _, _ => none
    | .slice e => (szOf P e).bind fun n =>
      match mx with
      | some m => match hi with
        | some _ => if isZero lo && isZero hi && isZero (some m) then (match x with | .fz .. | .rs .. => some (.fz [] 0 true) | .nils => some .nils | _ => none) else none
        | none => none
      | none =>
        match x with
        | .nils => (boundsA 0 0 lo hi).map fun _ => .nils
        | .fz cs len ex => (boundsA len len lo hi).map fun (l, h) => .fz ((cs.drop (l * n)).take ((h - l) * n)) (h - l) (ex && h == len)
        | .rs id off len esz => if esz = n then (boundsA len len lo hi).map fun (l, h) => .rs id (off + l * n) (h - l) esz else none
        | _ => none
    | _ => none

/-- The cells that a slice (or a string) holds, n elements. -/
def cellsOfA (h : AHeap) (size : Nat) (x : AV) : Option (List AV × Nat) :=
  match x with
  | .nils => some ([], 0)
  | .fz cs n _ => if cs.length = n * size then some (cs, n) else none
  | .rs id off len esz => (h.get id).bind fun
    | .cells cs => if esz = size ∧ off + len * size ≤ cs.length then some ((cs.drop off).take (len * size), len) else none
    | _ => none
  | .str s => if size = 1 then some (s.data.toList.map fun b => .int .u8 b.toNat, s.size) else none
  | _ => none

def roomA : Nat := 1099511627776

def srcOK (t2 : TypeId) (x : AV) : Bool :=
  match x with
  | .str _ => (P.underlying t2 matches some .string)
  | _ => (P.underlying t2 matches some (.slice _))

def zOK (i : TypeInfo) : Bool := match i.zero.bind ofV with | some z => z.cells.length == i.size | none => false

def appendA (h : AHeap) (t t2 : TypeId) (s x : AV) : Option (AV × AHeap) :=
  (P.underlying t).bind fun
    | .slice e => (P.info? e).bind fun i =>
      (cellsOfA h i.size x).bind fun (new, n) =>
        if i.size = 0 ∨ srcOK P t2 x = false ∨ zOK i = false then none else
        match s with
        | .nils => if n * i.bytes > roomA ∨ n > roomA then none else if n = 0 then some (.nils, h) else some (.rs h.next 0 n i.size, h.alloc (.cells new))
        | .fz cs len true => if (len + n) * i.bytes > roomA ∨ len + n > roomA ∨ cs.length ≠ len * i.size then none else if n = 0 then some (s, h) else some (.rs h.next 0 (len + n) i.size, h.alloc (.cells (cs ++ new)))
        | .rs id off len esz => (h.get id).bind fun
          | .cells cs => if esz ≠ i.size ∨ off + len * esz > cs.length ∨ (len + n) * i.bytes > roomA ∨ len + n > roomA then none else
              if n = 0 then some (s, h) else some (.rs h.next 0 (len + n) esz, (h.kill id).put h.next (.cells ((cs.drop off).take (len * esz) ++ new)))
          | _ => none
        | _ => none
    | _ => none

/-- Keys of maps: closed values of one or more cells. -/
def keyEq1 : AV → AV → Bool
  | .int k a, .int l b => k == l && a == b
  | .str a, .str b => a.data.toList == b.data.toList
  | .bool a, .bool b => a == b
  | _, _ => false
def keyEqs : List AV → List AV → Bool
  | [], [] => true
  | x :: xs, y :: ys => keyEq1 x y && keyEqs xs ys
  | _, _ => false
def keyEq : AV → AV → Bool
  | .agg xs, .agg ys => keyEqs xs ys
  | x, y => keyEq1 x y
def intCell : AV → Bool
  | .int .i64 _ => true
  | _ => false
/-- Keys that are served: an int; a string; an array or a struct of ints (type int). -/
def keyOK (t : TypeId) (k : AV) : Bool :=
  match P.underlying t, k with
  | some (.int q), .int k _ => q == k
  | some .string, .str _ => true
  | some (.array n e), .agg cs => cs.length == n && cs.all intCell && (P.underlying e matches some (.int .i64)) && szOf P e == some 1
  | some (.struct fs), .agg cs => cs.length == fs.size && cs.all intCell && fs.toList.zipIdx.all (fun (f, i) => f.name != "_" && f.offset == i && (P.underlying f.type matches some (.int .i64)) && szOf P f.type == some 1) && !P.stoodInHeld t
  | _, _ => false

def sameShape : AV → AV → Bool
  | .int k _, .int l _ => k == l
  | .str _, .str _ => true
  | .agg xs, .agg ys => xs.length == ys.length && xs.all intCell && ys.all intCell
  | _, _ => false
/-- The place of a key; none: keys of several shapes. -/
def findA (k : AV) : List (AV × AV) → Option (Option AV)
  | [] => some none
  | (k', v) :: es => if sameShape k k' then (if keyEq k k' then some (some v) else findA k es) else none
def updA (k v : AV) : List (AV × AV) → Option (List (AV × AV))
  | [] => some [(k, v)]
  | (k', v') :: es => if sameShape k k' then (if keyEq k k' then some ((k, v) :: es) else (updA k v es).map ((k', v') :: ·)) else none
def lookupA (h : AHeap) (t : TypeId) (m k : AV) (ok : Bool) : Option AV :=
  (P.underlying t).bind fun
    | .map kt et => if keyOK P kt k = false then none else
      (match m with
        | .nilm => some []
        | .mp id => (h.get id).bind fun | .map es => some es | _ => none
        | _ => none).bind fun es =>
      (findA k es).bind fun
      | some v => some (if ok then .tup [v, .bool true] else v)
      | none => (zeroA P et).map fun z => if ok then .tup [z, .bool false] else z
    | _ => none

def mapUpdA (h : AHeap) (t : TypeId) (m k v : AV) : Option AHeap :=
  (P.underlying t).bind fun
    | .map kt _ => if keyOK P kt k = false ∨ v.argOK = false then none else
      match m with
      | .mp id => (h.get id).bind fun | .map es => (updA k v es).map fun es' => h.put id (.map es') | _ => none
      | _ => none
    | _ => none

def lenA (h : AHeap) (t : TypeId) (x : AV) : Option AV :=
  (P.underlying t).bind fun
    | .slice _ => match x with
      | .nils => some (.int .i64 0)
      | .fz _ n _ => some (.int .i64 n)
      | .rs _ _ n _ => some (.int .i64 n)
      | _ => none
    | .string => match x with
      | .str s => some (.int .i64 s.size)
      | _ => none
    | .map _ _ => match x with
      | .nilm => some (.int .i64 0)
      | .mp id => (h.get id).bind fun | .map es => some (.int .i64 es.length) | _ => none
      | _ => none
    | _ => none

/-- The source is no longer than the target. -/
def copyA (h : AHeap) (t t2 : TypeId) (d x : AV) : Option (AV × AHeap) :=
  (P.underlying t).bind fun
    | .slice e => (P.info? e).bind fun i => (cellsOfA h i.size x).bind fun (new, m) =>
      if srcOK P t2 x = false then none else
      match d with
      | .rs id off len esz => (h.get id).bind fun
        | .cells cs => if esz = i.size ∧ m ≤ len ∧ off + m * i.size ≤ cs.length then some (.int .i64 m, h.put id (.cells (splice cs off new))) else none
        | _ => none
      | .nils => if m = 0 then some (.int .i64 0, h) else none
      | _ => none
    | _ => none

/-- 'clear' of a map. -/
def clearA (h : AHeap) (t : TypeId) (x : AV) : Option AHeap :=
  (P.underlying t).bind fun _ => match x with
  | .nilm => some h
  | .mp id => (h.get id).bind fun | .map _ => some (h.put id (.map [])) | _ => none
  | _ => none

def makeSliceA (h : AHeap) (t : TypeId) (l c : AV) : Option (AV × AHeap) :=
  match l, c with
  | .int .i64 l, .int .i64 c =>
    (P.underlying t).bind fun
      | .slice e => (P.info? e).bind fun i => (zeroA P e).bind fun z =>
        if 0 ≤ l ∧ l ≤ c ∧ c * i.bytes ≤ roomA ∧ z.cells.length = i.size ∧ i.size ≠ 0 ∧ c ≤ 1099511627776 ∧ z.cells.all AV.cellOK then some (.rs h.next 0 l.toNat i.size, h.alloc (.cells (replA z.cells l.toNat))) else none
      | _ => none
  | _, _ => none

def u8s : List AV → Option (List UInt8)
  | [] => some []
  | .int .u8 n :: xs => (u8s xs).map fun l => UInt8.ofNat n.toNat :: l
  | _ :: _ => none

def isU8 (e : TypeId) : Bool := (P.underlying e matches some (.int .u8)) && szOf P e == some 1

def convertA (h : AHeap) (src dst : TypeId) (x : AV) : Option AV :=
  match P.underlying src, P.underlying dst with
  | some (.slice e), some .string => if isU8 P e then (cellsOfA h 1 x).bind fun (cs, _) => (u8s cs).map fun l => .str ⟨l.toArray⟩ else none
  | some .string, some (.slice e) => match x with
    | .str s => if isU8 P e then some (.fz (s.data.toList.map fun b => .int .u8 b.toNat) s.size false) else none
    | _ => none
  | some (.slice _), some (.slice e) => match x with
    | .fz cs n true => if src == dst && isU8 P e && 0 < cs.length then some (.fz cs n true) else none
    | _ => none
  | _, _ => (x.conc1).bind fun v => (pureRun P (convert src dst v)).bind ofV1

/-- As the model's stringOp, over the bytes' own list. -/
def strOpA (op : BinOp) (x y : ByteArray) : Option AV :=
  let a := x.data.toList
  let b := y.data.toList
  match op with
  | .add => if x.size + y.size ≤ 1099511627776 then some (.str (x ++ y)) else none
  | .eql => some (.bool (a == b))
  | .neq => some (.bool (!(a == b)))
  | .lss => some (.bool (Op.bytesLess a b))
  | .leq => some (.bool (Op.bytesLess a b || a == b))
  | .gtr => some (.bool (!(Op.bytesLess a b || a == b)))
  | .geq => some (.bool (!Op.bytesLess a b))
  | _ => none

/-- Is it == (true) or != (false)? -/
def eqOp : BinOp → Option Bool
  | .eql => some true
  | .neq => some false
  | _ => none

def binOpA (op : BinOp) (t : TypeId) (x y : AV) : Option AV :=
  match x, y with
  | .str a, .str b => strOpA op a b
  | .ptr .., .nilp | .nilp, .ptr .. | .fp .., .nilp => (eqOp op).bind fun pol => if (P.underlying t matches some (.pointer _)) then some (.bool (!pol)) else none
  | .fz .., .nils | .rs .., .nils => (eqOp op).bind fun pol => if (P.underlying t matches some (.slice _)) then some (.bool (!pol)) else none
  | .agg _, .agg _ => (eqOp op).bind fun pol => if keyOK P t x && keyOK P t y && sameShape x y && !P.eqGuardType P.depth t then some (.bool (keyEq x y == pol)) else none
  | x, y => (x.conc1).bind fun a => (y.conc1).bind fun b => (pureRun P (binOp op t a b)).bind ofV1

def foldMin (op : Value → Value → Sem Value) : Value → List Value → Option Value
  | v, [] => some v
  | v, x :: xs => (pureRun P (op v x)).bind fun u => foldMin op u xs

def dstOf (o : Oper) : Nat := o.dst.getD 0

/-- The state of a region: temporaries, the frame's own boxes, the heap. -/
structure RS where
  ρ : Nat → AV
  bx : Nat → Option (List AV)
  h : AHeap

def RS.set (s : RS) (d : Option Nat) (v : AV) : RS :=
  match d with
  | none => s
  | some d => { s with ρ := fun t => bif Nat.beq t d then v else s.ρ t }
def RS.box (s : RS) (k : Nat) (cs : List AV) : RS := { s with bx := fun t => bif Nat.beq t k then some cs else s.bx t }

abbrev CallF := FuncId → List AV → AHeap → Option (AV × AHeap)

/-- No other temporary points into box k. -/
def noLp (k : Nat) (ρ : Nat → AV) : List Nat → Bool
  | [] => true
  | t :: ts => (match ρ t with | .lp j _ => j != k | _ => true) && noLp k ρ ts

def newBox (s : RS) (locs ds : List Nat) (o : Oper) (cs : List AV) : Option RS :=
  if cs.all AV.cellOK then
    match o.dst with
    | some d => if locs.contains d then (if noLp d s.ρ (ds.filter fun t => !Nat.beq t d) then some ((s.box d cs).set (some d) (.lp d 0)) else none) else some ({ s with h := s.h.alloc (.cells cs) }.set (some d) (.ptr s.h.next 0))
    | none => none
  else none

def boolA : AV → Option Bool
  | .bool b => some b
  | _ => none

def callBuiltin (s : RS) (o : Oper) (b : Builtin) (ts : List TypeId) (args : List AV) : Option RS :=
  match b, ts, args with
  | .len, [t], [x] => (lenA P s.h t x).map fun v => s.set o.dst v
  | .append, [t, t2], [x, y] => (appendA P s.h t t2 x y).map fun (v, h) => { s with h }.set o.dst v
  | .copy, [t, t2], [x, y] => (copyA P s.h t t2 x y).map fun (v, h) => { s with h }.set o.dst v
  | .clear, [t], [x] => (clearA P s.h t x).map fun h => { s with h }.set o.dst (.tup [])
  | .min, _, x :: xs => (x.conc1).bind fun v => (conc1s xs).bind fun vs => (foldMin P Builtin.min2 v vs).bind fun u => (ofV1 u).map fun r => s.set o.dst r
  | .max, _, x :: xs => (x.conc1).bind fun v => (conc1s xs).bind fun vs => (foldMin P Builtin.max2 v vs).bind fun u => (ofV1 u).map fun r => s.set o.dst r
  | _, _, _ => none

def loadA (bx : Nat → Option (List AV)) (h : AHeap) (t : TypeId) (x : AV) : Option AV :=
  match x with
  | .lp k off => (bx k).bind fun cs => readCs P t cs off
  | .fp cs off => if cs.isEmpty then none else readCs P t cs off
  | .ptr id off => (h.get id).bind fun | .cells cs => readCs P t cs off | _ => none
  | _ => none

def nilCheckA : AV → Option AV
  | .ptr id off => some (.ptr id off)
  | .lp k off => some (.lp k off)
  | .fp cs off => some (.fp cs off)
  | _ => none

def extractA : AV → Nat → Option AV
  | .tup vs, i => vs[i]?
  | _, _ => none

/-- One operation; its operands' values are given. -/
def opE (cf : CallF) (locs ds : List Nat) (e : Operand → AV) (s : RS) (o : Oper) : Option RS :=
  let v (r : Option AV) : Option RS := r.map fun x => s.set o.dst x
  match o.op with
  | .move x | .assign x => some (s.set o.dst (e x))
  | .pick c a b => (boolA (e c)).map fun t => s.set o.dst (if t then e a else e b)
  | .alloc t => (zeroA P t).bind fun z => newBox s locs ds o z.cells
  | .box _ x => newBox s locs ds o (e x).cells
  | .build t ps => v (buildA P t (ps.toList.map fun (i, x) => (i, e x)))
  | .buildSlice t n ps => v (buildSliceA P t n (ps.toList.map fun (i, x) => (i, e x)))
  | .load t a => v (loadA P s.bx s.h t (e a))
  | .store t a x => if o.dst.isSome then none else
    match e a with
    | .lp k off => (s.bx k).bind fun cs => (writeCs P t cs off (e x)).map fun cs' => s.box k cs'
    | .ptr id off => (s.h.get id).bind fun | .cells cs => (writeCs P t cs off (e x)).map fun cs' => { s with h := s.h.put id (.cells cs') } | _ => none
    | _ => none
  | .nilCheck x => v (nilCheckA (e x))
  | .binOp op t x y _ => v (binOpA P op t (e x) (e y))
  | .unOp op _ x => v ((e x).conc1.bind fun a => (pureRun P (Op.unary op a)).bind ofV1)
  | .convert a b x => v (convertA P s.h a b (e x))
  | .makeFunc (.func f) first cap => if first.isEmpty ∧ (cap.toList.map e).all AV.cellOK then v (some (.fn f (cap.toList.map e))) else none
  | .makeMap _ none => some ({ s with h := s.h.alloc (.map []) }.set o.dst (.mp s.h.next))
  | .makeSlice t l c => (makeSliceA P s.h t (e l) (e c)).map fun (x, h) => { s with h }.set o.dst x
  | .slice t x lo hi mx => v (sliceA P t (e x) (lo.map e) (hi.map e) (mx.map e))
  | .fieldAddr t x f => v (fieldAddrA P t (e x) f)
  | .field t x f => v (fieldA P t (e x) f)
  | .indexAddr t x i => v (indexAddrA P t (e x) (e i))
  | .index t x i => v (indexA P t (e x) (e i))
  | .lookup t m k ok => v (lookupA P s.h t (e m) (e k) ok)
  | .mapUpdate t m k x | .insert t m k x => if o.dst.isSome then none else (mapUpdA P s.h t (e m) (e k) (e x)).map fun h => { s with h }
  | .extract t i => v (extractA (e t) i)
  | .call { callee := .builtin b, args, argTypes } => callBuiltin P s o b argTypes.toList (args.toList.map e)
  | .call { callee := .value f, args, .. } =>
    match e f with
    | .fn f cap => let as := args.toList.map e
        if as.all AV.argOK then (cf f (as ++ cap) s.h).map fun (r, h) => { s with h }.set o.dst r else none
    | _ => none
  | _ => none

def opA (cf : CallF) (locs ds : List Nat) (s : RS) (o : Oper) : Option RS := opE P cf locs ds (opnd s.ρ) s o

def wantedA (ops : List Oper) (ρ : Nat → AV) (o : Oper) : Option Bool :=
  match o.guard with
  | none => some true
  | some (j, want) => ((ops[j]?).bind (·.dst)).bind fun d => match ρ d with
    | .bool b => some (b == want)
    | .tup [] => some false
    | _ => none

/-- One operation of a region, its guard asked. -/
def stepA (cf : CallF) (locs : List Nat) (ops : List Oper) (s : RS) (o : Oper) : Option RS :=
  (wantedA ops s.ρ o).bind fun w => if w then opA P cf locs (ops.filterMap (·.dst)) s o else some (s.set o.dst (.tup []))

def runA (cf : CallF) (locs : List Nat) (ops : List Oper) : RS → List Oper → Option RS
  | s, [] => some s
  | s, o :: os => (stepA P cf locs ops s o).bind fun s' => runA cf locs ops s' os
end

/-! ### A region whose order is open -/

/-- What an operation reads and writes: boxes, objects; 'wh': the heap turns; 'al': a box of the frame is laid. -/
structure Foot where
  rb : List Nat := []
  wb : Option Nat := none
  rh : List Nat := []
  wh : Bool := false
  al : Bool := false

def footE (locs : List Nat) (e : Operand → AV) (o : Oper) : Foot :=
  match o.op with
  | .alloc _ | .box _ _ => match o.dst with
    | some d => if locs.contains d then { wb := some d, al := true } else { wh := true }
    | none => {}
  | .load _ a => match e a with
    | .lp k _ => { rb := [k] }
    | .ptr id _ => { rh := [id] }
    | _ => {}
  | .store _ a _ => match e a with
    | .lp k _ => { rb := [k], wb := some k }
    | _ => { wh := true }
  | .convert _ _ x => match e x with
    | .rs id _ _ _ => { rh := [id] }
    | _ => {}
  | .lookup _ m _ _ => match e m with
    | .mp id => { rh := [id] }
    | _ => {}
  | .makeMap _ _ | .makeSlice _ _ _ | .mapUpdate _ _ _ _ | .insert _ _ _ _ => { wh := true }
  | .call { callee := .builtin b, args, .. } => match b, args.toList.map e with
    | .len, [.mp id] => { rh := [id] }
    | .len, _ | .min, _ | .max, _ => {}
    | _, _ => { wh := true }
  | .call _ => { wh := true }
  | _ => {}

/-- One operation as it came to run in the text's order. -/
structure Ent where
  o : Oper
  f : Foot
  s : RS
  s' : RS

def Ent.out (e : Ent) : AV :=
  match e.o.dst with
  | some d => e.s'.ρ d
  | none => .any

def Foot.quiet (f : Foot) : Bool := f.rb.isEmpty && f.wb.isNone && f.rh.isEmpty && !f.wh

def isLp (k : Nat) : AV → Bool
  | .lp j _ => j == k
  | _ => false

/-- x's writing does not touch what y does. -/
def Ent.spares (x y : Ent) : Bool :=
  (match x.f.wb with
   | some k => !y.f.rb.contains k && y.f.wb != some k
   | none => true) &&
  (!x.f.wh || (!y.f.wh && y.f.rh.all fun id => Nat.beq (x.s.h.ver id) (x.s'.h.ver id)))

/-- Which operations surely come before: a mask for each. -/
def masksA : List Nat → List Oper → List Nat
  | acc, [] => acc
  | acc, o :: os => masksA (acc ++ [o.after.toList.foldl (fun m e => bif Region.binds .any e then m ||| (2 ^ e.on ||| acc.getD e.on 0) else m) 0]) os

def apartA (ops : Array Oper) (x y : Oper) : Bool :=
  (match x.dst with
   | some d => !(y.looksAt ops).contains d && y.dst != some d
   | none => true)

def edgesOK : Nat → List Oper → Bool
  | _, [] => true
  | k, o :: os => o.after.toList.all (fun e => !Region.binds .any e || Nat.blt e.on k) && edgesOK (k + 1) os

/-- All pairs (i, x), (j, y) of a list, i before j. -/
def pairsAll {α : Type} (p : Nat → α → Nat → α → Bool) : Nat → List α → Bool
  | _, [] => true
  | i, x :: xs => (xs.zipIdx (i + 1)).all (fun (y, j) => p i x j y) && pairsAll p (i + 1) xs

/-- The text alone: whoever writes a temporary that another one touches is in order with it. -/
def stillText (ops : Array Oper) (ms : List Nat) : Bool :=
  edgesOK 0 ops.toList &&
  pairsAll (fun i x j y => (ms.getD j 0).testBit i || (apartA ops x y && apartA ops y x)) 0 ops.toList

def runD (P : Program) (cf : CallF) (locs : List Nat) (ops : List Oper) : RS → List Oper → Option (List Ent × RS)
  | s, [] => some ([], s)
  | s, o :: os =>
    (wantedA ops s.ρ o).bind fun w =>
      (if w then opA P cf locs (ops.filterMap (·.dst)) s o else some (s.set o.dst (.tup []))).bind fun s1 =>
        (runD P cf locs ops s1 os).map fun (l, r) => ({ o, f := if w then footE locs (opnd s.ρ) o else {}, s, s' := s1 } :: l, r)

/-- A box is laid where no temporary can point into it. -/
def allocOK (ms : List Nat) (ds : List Nat) (s0 : RS) (es : List (Ent × Nat)) (x : Ent) (i : Nat) : Bool :=
  match x.f.al, x.o.dst with
  | true, some d => noLp d s0.ρ (ds.filter fun t => !Nat.beq t d) && es.all fun (y, j) => Nat.beq i j || (ms.getD j 0).testBit i || !isLp d y.out
  | _, _ => true

def drawsA (P : Program) (cf : CallF) (locs : List Nat) (ops : Array Oper) (s : RS) : Option RS :=
  let ms := masksA [] ops.toList
  if stillText ops ms then
    (runD P cf locs ops.toList s ops.toList).bind fun (es, r) =>
      let is := es.zipIdx
      let loud := is.filter fun (x, _) => !x.f.quiet
      if loud.all (fun (x, i) => allocOK ms (ops.toList.filterMap (·.dst)) s is x i && loud.all fun (y, j) => Nat.ble j i || (ms.getD j 0).testBit i || (x.spares y && y.spares x)) then some r else none
  else none

/-- What a frame keeps between regions. -/
structure St where
  vars : List AV
  bxs : List (Option (List AV))
  h : AHeap

inductive Ex where
  | norm
  | exit (id : Nat)
  | ret

def look {α : Type} (d : α) : List Nat → List α → Nat → α
  | k :: ks, v :: vs, t => bif Nat.beq t k then v else look d ks vs t
  | _, _, _ => d

structure Ann where
  keep : List Nat
  locs : List Nat

def St.open (A : Ann) (s : St) : RS := { ρ := look AV.any A.keep s.vars, bx := look (none : Option (List AV)) A.locs s.bxs, h := s.h }

/-- A variable that is kept points into a box of the frame only if it is that box's own. -/
def shutV (locs : List Nat) (ρ : Nat → AV) (t : Nat) : AV :=
  match ρ t with
  | .lp k off => bif Nat.beq k t && Nat.beq off 0 && locs.contains k then .lp k off else .any
  | v => v
def RS.shut (A : Ann) (s : RS) : St := { vars := A.keep.map (shutV A.locs s.ρ), bxs := A.locs.map s.bx, h := s.h }

def iterA (f : St → Option (Ex × St)) : Nat → St → Option (Ex × St)
  | 0, _ => none
  | n + 1, s => (f s).bind fun
    | (.norm, s') => iterA f n s'
    | r => some r

def execA (P : Program) (cf : CallF) (A : Ann) (n : Nat) : Code → St → Option (Ex × St)
  | .skip, s => some (.norm, s)
  | .label _, s => some (.norm, s)
  | .ret, s => some (.ret, s)
  | .exit id, s => some (.exit id, s)
  | .seq a b, s => (execA P cf A n a s).bind fun
    | (.norm, s') => execA P cf A n b s'
    | r => some r
  | .cond c x y, s => (boolA (opnd (s.open A).ρ c)).bind fun t => if t then execA P cf A n x s else execA P cf A n y s
  | .block id body, s => (execA P cf A n body s).map fun
    | (.exit i, s') => (if i = id then .norm else .exit i, s')
    | r => r
  | .loop body, s => iterA (execA P cf A n body) n s
  | .region _ ops draw, s => ((if draw then drawsA P cf A.locs ops (s.open A) else runA P cf A.locs ops.toList (s.open A) ops.toList)).map fun s' => (.norm, s'.shut A)
  | _, _ => none

def resA (P : Program) (s : RS) : List ResultVar → Option (List AV)
  | [] => some []
  | .tmp t :: rs => (resA P s rs).map fun l => s.ρ t :: l
  | .cell a t :: rs => (loadA P s.bx s.h t (s.ρ a)).bind fun v => (resA P s rs).map fun l => v :: l

def resultA (P : Program) (s : RS) (rs : List ResultVar) : Option AV :=
  (resA P s rs).bind fun l => if l.all AV.argOK then (match l with | [v] => some v | l => some (.tup l)) else none

def argsVars (keep : List Nat) (args : List AV) : List AV := keep.map fun t => args.getD t AV.any

mutual
/-- Nothing in it is tracked. -/
def AV.noId : AV → Bool
  | .any | .lp .. | .ptr .. | .rs .. | .mp _ => false
  | .fp cs _ | .fz cs _ _ | .agg cs | .tup cs | .fn _ cs => noIds cs
  | _ => true
def noIds : List AV → Bool
  | [] => true
  | x :: xs => x.noId && noIds xs
end

mutual
/-- Nothing is said of capacities. -/
def AV.unex : AV → AV
  | .fz cs n _ => .fz (unexs cs) n false
  | .fp cs off => .fp (unexs cs) off
  | .agg cs => .agg (unexs cs)
  | .tup cs => .tup (unexs cs)
  | .fn f cs => .fn f (unexs cs)
  | x => x
def unexs : List AV → List AV
  | [] => []
  | x :: xs => x.unex :: unexs xs
end

mutual
/-- What is handed on of a heap that nobody writes any more. -/
def freezeA (h : AHeap) : Nat → AV → Option AV
  | 0, _ => none
  | n + 1, x =>
    match x with
    | .ptr id off => (h.get id).bind fun | .cells cs => (freezeAs h n cs).map fun cs' => .fp cs' off | _ => none
    | .rs id off len esz => (h.get id).bind fun | .cells cs => if off + len * esz ≤ cs.length then (freezeAs h n ((cs.drop off).take (len * esz))).map fun cs' => .fz cs' len false else none | _ => none
    | .agg cs => (freezeAs h n cs).map .agg
    | .tup cs => (freezeAs h n cs).map .tup
    | x => if x.noId then some x else none
def freezeAs (h : AHeap) : Nat → List AV → Option (List AV)
  | 0, _ => none
  | _ + 1, [] => some []
  | n + 1, x :: xs => (freezeA h n x).bind fun y => (freezeAs h n xs).map fun ys => y :: ys
end

def heap0 : AHeap := { get := fun _ => none, ver := fun _ => 0, next := 1 }

/-- The body of a call. -/
def bodyA (P : Program) (ann : FuncId → Ann) (cf : CallF) (m : Nat) (f : FuncId) (args : List AV) (h : AHeap) : Option (AV × AHeap) :=
  (P.funcs[f]?).bind fun fn => fn.body.bind fun c =>
    if args.length ≤ fn.ntmps then
      (execA P cf (ann f) m c { vars := argsVars (ann f).keep args, bxs := (ann f).locs.map fun _ => none, h }).bind fun
        | (.norm, s) | (.ret, s) => (resultA P (s.open (ann f)) fn.results.toList).map fun r => (r, s.h)
        | _ => none
    else none

/-- What the interpreter is told of a program: the slots that are kept; the functions that are served otherwise; those that are run with no heap (how deep their results may lie). -/
structure Tells where
  ann : FuncId → Ann
  intr : FuncId → Option (List AV → AHeap → Option (AV × AHeap))
  pure : FuncId → Option Nat

/-- A call, with so much fuel. -/
def callA (P : Program) (T : Tells) (m : Nat) : Nat → CallF
  | 0 => fun _ _ _ => none
  | n + 1 => fun f args h =>
    match T.intr f with
    | some g => g args h
    | none =>
      match T.pure f with
      | some deep => if noIds args then (bodyA P T.ann (callA P T m n) m f (unexs args) heap0).bind fun x => (freezeA x.2 deep x.1).map fun r => (r, h) else bodyA P T.ann (callA P T m n) m f args h
      | none => bodyA P T.ann (callA P T m n) m f args h
end Go.R
