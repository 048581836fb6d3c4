/- Part of the proof: RCore, RRel, RFrame, ROps1, ROps2, RKeys. -/
import GoSem.Dispatch
import GoSem.Machine.Return
import Derived.Orders
import Derived.Below
import Derived.Laws.World
import Derived.Laws.Sem
import Derived.Tactics
import Derived.Laws.Cells
import Derived.Laws.Entries
import Derived.ChangeKeysEq
import Derived.WideKeyRuns
set_option linter.unusedVariables false
set_option linter.unusedSimpArgs false
set_option maxRecDepth 100000
open Array renaming getElem?_eq_some_iff → U1, getElem?_setIfInBounds → Vr
open Bool renaming and_eq_true → Ux, false_eq_true → UE, not_eq_true' → VC
open List renaming getElem?_eq_some_iff → UA, getElem?_eq_getElem → UC, drop_eq_getElem_cons → UH, length_cons → UI, mem_of_getElem? → UM, all_eq_true → UN, mem_cons → UT, map_cons → UX, all_cons → Vi
open Nat renaming le_refl → Uy, zero_add → UR, lt_of_lt_of_le → US, beq → U5, le_trans → Vj, add_assoc → Vq, eq_of_beq_eq_true → Vx, le_succ → VD, add_mul → VE, add_sub_cancel_left → VJ, add_right_comm → VM, ble → VP
open Option renaming bind_eq_some_iff → Ut, map_eq_some_iff → Uv
open Option.some renaming injEq → Uw
open Prod.mk renaming injEq → UB
namespace Go.R
open Go
inductive AV where
 | any
 | bool (b:Bool)
 | int (k:IntKind) (n:Int)
 | str (s:ByteArray)
 | nl
 | ptr (id off:Nat)
 | lp (k off:Nat)
 | fp (cs:List AV) (off:Nat)
 | nils
 | fz (cs:List AV) (n:Nat) (ex:Bool)
 | rs (id off len ib:Nat)
 | lB
 | mp (id:Nat)
 | fn (f:FuncId) (cap:List AV)
 | nM
 | agg (cs:List AV)
 | tup (vs:List AV)
 deriving Inhabited
inductive AObj where
 | cells (cs:List AV)
 | map (es:List (AV × AV))
 | row (e:TypeId) (cs:List AV)
 deriving Inhabited
structure AHeap where
 get:Nat→Option AObj
 ver:Nat→Nat
 next:Nat
def AHeap.put (h:AHeap)(id:Nat)(o:AObj):AHeap:={get:=fun i=>bif U5 i id then some o else h.get i,ver:=fun i=>bif U5 i id then h.next else h.ver i,next:=h.next+1}
def AHeap.kill (h:AHeap)(id:Nat):AHeap:={get:=fun i=>bif U5 i id then none else h.get i,ver:=fun i=>bif U5 i id then h.next else h.ver i,next:=h.next+1}
def AHeap.alloc (h:AHeap)(o:AObj):AHeap:=h.put h.next o
def AV.cells:AV→List AV
 | .agg cs=>cs
 | v=>[v]
def AV.bP:AV→Bool
 | .any | .lp .. | .agg _ | .tup _=>false
 | _=>true
def AV.kj:AV→Bool
 | .lp .. | .any=>false
 | .agg cs=>cs.all AV.bP
 | _=>true
mutual
def AV.dO:AV→Bool
 | .any | .lp .. | .ptr .. | .rs .. | .mp _=>false
 | .fp cs _ | .fz cs _ _ | .agg cs | .tup cs | .fn _ cs=>cC cs
 | _=>true
def cC:List AV→Bool
 | []=>true
 | x::xs=>x.dO&&cC xs
end
mutual
def AV.jd:AV→AV
 | .nils=>.fz [] 0 false
 | .fz cs n _=>.fz (dk cs) n false
 | .fp cs off=>.fp (dk cs) off
 | .agg cs=>.agg (dk cs)
 | .tup cs=>.tup (dk cs)
 | .fn f cs=>.fn f (dk cs)
 | x=>x
def dk:List AV→List AV
 | []=>[]
 | x::xs=>x.jd::dk xs
end
def AV.fV:AV→Option Value
 | .bool b=>some (.bool b)
 | .int k n=>some (.int k n)
 | .str s=>some (.string s)
 | .nl=>some (.pointer none)
 | .nM=>some .nilFunc
 | .lB=>some (.map none)
 | .nils=>some (.slice none 0 0)
 | _=>none
def iK:List AV→Option (List Value)
 | []=>some []
 | x::xs=>(x.fV).bind fun v=>(iK xs).bind fun vs=>some (v::vs)
def AV.xV:AV→Option Value
 | .agg cs=>(iK cs).map fun vs=>.agg vs.toArray
 | v=>v.fV
def nN:Value→Option AV
 | .bool b=>some (.bool b)
 | .int k n=>some (.int k n)
 | .string s=>some (.str s)
 | .pointer none=>some .nl
 | .slice none 0 0=>some .nils
 | .map none=>some .lB
 | .nilFunc=>some .nM
 | _=>none
def pI:List Value→Option (List AV)
 | []=>some []
 | x::xs=>(nN x).bind fun v=>(pI xs).bind fun vs=>some (v::vs)
def CL:Value→Option AV
 | .agg cs=>(pI cs.toList).map .agg
 | v=>nN v
def iq {α:Type}(P:Program):Sem α→Option α
 | .pure a=>some a
 | .program k=>iq P (k P)
 | _=>none
def bJ (ρ:Nat→AV):Operand→AV
 | .tmp t=>ρ t
 | .const v=>(CL v).getD .any
 | .func f=>.fn f []
 | .global _=>.any
section
variable (P:Program)
def eO (t:TypeId):Option Nat:=(P.info? t).map (·.size)
def ir (t:TypeId):Option AV:=(P.info? t).bind fun i=>i.zero.bind CL
def fJ (t:TypeId):Option Bool:=(P.underlying t).map fun | .struct _ | .array _ _=>true | _=>false
def iL (t:TypeId)(cs:List AV)(off:Nat):Option AV:=
 (fJ P t).bind fun ag=>if ag then (eO P t).bind fun n=>if off+n≤cs.length then some (.agg ((cs.drop off).take n)) else none else cs[off]?
def da:List AV→Nat→List AV→List AV
 | cs,_,[]=>cs
 | cs,i,v::vs=>da (cs.set i v) (i+1) vs
def gI (t:TypeId)(cs:List AV)(off:Nat)(v:AV):Option (List AV):=
 (eO P t).bind fun n=>if v.cells.length=n∧v.cells.all AV.bP∧off+n≤cs.length then some (da cs off v.cells) else none
def q7 (place:Nat→Option (Nat × Nat))(cells:List AV):List (Nat × AV)→Option (List AV)
 | []=>some cells
 | (i,v)::rest=>
  (place i).bind fun (off,size)=>
   if v.cells.length=size∧v.cells.all AV.bP∧off+size≤cells.length then q7 place (da cells off v.cells) rest else none
def xW (fs:List Field)(i:Nat):Option (Nat × Nat):=(fs[i]?).bind fun f=>(eO P f.type).map fun n=>(f.offset,n)
def xX (t:TypeId)(parts:List (Nat × AV)):Option AV:=
 (ir P t).bind fun z=>(P.underlying t).bind fun
  | .struct fs=>if fs.toList.all (fun f=>(eO P f.type).isSome) then (q7 (xW P fs.toList) z.cells parts).map .agg else none
  | .array _ e=>(eO P e).bind fun n=>(q7 (fun i=>some (i*n,n)) z.cells parts).map .agg
  | _=>none
def ic (z:List AV):Nat→List AV
 | 0=>[]
 | n+1=>z++ic z n
def gx (t:TypeId)(len:Nat)(parts:List (Nat × AV)):Option AV:=
 (P.underlying t).bind fun
  | .slice e=>(eO P e).bind fun n=>if n=0∨len*n > 16777216 then none else if len=0 then (if parts.isEmpty then some (.fz [] 0 true) else none) else
    (ir P e).bind fun z=>if z.cells.length=n then (q7 (fun i=>some (i*n,n)) (ic z.cells len) parts).map fun cs=>.fz cs len true else none
  | _=>none
def AV.shift:AV→Nat→Option AV
 | .ptr id off,n=>some (.ptr id (off+n))
 | .lp k off,n=>some (.lp k (off+n))
 | .fp cs off,n=>some (.fp cs (off+n))
 | _,_=>none
def nn (s:TypeId)(x:AV)(f:Nat):Option AV:=
 (P.underlying s).bind fun
  | .struct fs=>(fs[f]?).bind fun fd=>(eO P fd.type).bind fun n=>if n=0 then none else x.shift fd.offset
  | _=>none
def eD (t:TypeId)(x i:AV):Option AV:=
 match i with
 | .int _ i=>
  (P.underlying t).bind fun
   | .array len e=>(eO P e).bind fun n=>if 0≤i∧i<len then x.shift (i.toNat*n) else none
   | .slice e=>(eO P e).bind fun n=>
    match x with
    | .fz cs len _=>if 0≤i∧i<len∧i.toNat*n<cs.length then some (.fp cs (i.toNat*n)) else none
    | .rs id off len ib=>if ib=n∧0≤i∧i<len then some (.ptr id (off+i.toNat*n)) else none
    | _=>none
   | _=>none
 | _=>none
def zk (t:TypeId)(cs:List AV)(off:Nat):Option AV:=iL P t cs off
def xY (s:TypeId)(x:AV)(f:Nat):Option AV:=
 match x with
 | .agg cs=>(P.underlying s).bind fun
  | .struct fs=>(fs[f]?).bind fun fd=>zk P fd.type cs fd.offset
  | _=>none
 | _=>none
def oV (t:TypeId)(x i:AV):Option AV:=
 match i with
 | .int _ i=>
  (P.underlying t).bind fun
   | .array len e=>match x with
    | .agg cs=>(eO P e).bind fun n=>if 0≤i∧i<len then zk P e cs (i.toNat*n) else none
    | _=>none
   | .string=>match x with
    | .str s=>if 0≤i then (s.data.toList[i.toNat]?).map fun b=>.int .u8 b.toNat else none
    | _=>none
   | _=>none
 | _=>none
def jP (len cap:Nat)(lo hi:Option AV):Option (Nat × Nat):=
 (match hi with | none=>some len | some (.int _ i)=>if 0≤i∧i≤cap then some i.toNat else none | _=>none).bind fun h=>
 (match lo with | none=>some 0 | some (.int _ i)=>if 0≤i∧i≤h then some i.toNat else none | _=>none).bind fun l=>some (l,h)
def isZero:Option AV→Bool
 | none=>true
 | some (.int _ i)=>i==0
 | _=>false
def kM (t:TypeId)(x:AV)(lo hi mx:Option AV):Option AV:=
 (P.underlying t).bind fun
  | .string=>match x,mx with
   | .str s,none=>(jP s.size s.size lo hi).map fun (l,h)=>.str (s.extract l h)
   | _,_=>none
  | .slice e=>(eO P e).bind fun n=>
   match mx with
   | some m=>match hi with
    | some _=>if isZero lo&&isZero hi&&isZero (some m) then (match x with | .fz .. | .rs ..=>some (.fz [] 0 true) | .nils=>some .nils | _=>none) else none
    | none=>none
   | none=>
    match x with
    | .nils=>(jP 0 0 lo hi).map fun _=>.nils
    | .fz cs len ex=>(jP len len lo hi).map fun (l,h)=>.fz ((cs.drop (l*n)).take ((h - l)*n)) (h - l) (ex&&h==len)
    | .rs id off len ib=>if ib=n then (jP len len lo hi).map fun (l,h)=>.rs id (off+l*n) (h - l) ib else none
    | _=>none
  | _=>none
def dU (h:AHeap)(size:Nat)(x:AV):Option (List AV × Nat):=
 match x with
 | .nils=>some ([],0)
 | .fz cs n _=>if cs.length=n*size then some (cs,n) else none
 | .rs id off len ib=>if id=0∨(len=0∧(h.get id).isNone=true) then (if len=0 then some ([],0) else none) else (h.get id).bind fun
  | .cells cs=>if ib=size∧off+len*size≤cs.length then some ((cs.drop off).take (len*size),len) else none
  | _=>none
 | .str s=>if size=1 then some (s.data.toList.map fun b=>.int .u8 b.toNat,s.size) else none
 | _=>none
def gm:Nat:=1099511627776
def iu (t2:TypeId)(x:AV):Bool:=
 match x with
 | .str _=>(P.underlying t2 matches some .string)
 | _=>(P.underlying t2 matches some (.slice _))
def G4 (i:TypeInfo):Bool:=match i.zero.bind CL with | some z=>z.cells.length==i.size | none=>false
def js:AV→AV
 | .nils=>.fz [] 0 false
 | x=>x
def fo (h:AHeap)(size:Nat)(x:AV):Option (List AV × Nat):=(dU h size x).map fun p=>(p.1.map js,p.2)
def dv (h:AHeap)(t t2:TypeId)(s x:AV):Option (AV × AHeap):=
 (P.underlying t).bind fun
  | .slice e=>(P.info? e).bind fun i=>
   (fo h i.size x).bind fun (new,n)=>
    if i.size=0∨iu P t2 x=false∨G4 i=false then none else
    match s with
    | .nils=>if n*i.bytes > gm∨n > gm then none else if n=0 then some (.rs 0 0 0 i.size,h) else some (.rs h.next 0 n i.size,h.alloc (.cells new))
    | .fz cs len true=>if (len+n)*i.bytes > gm∨len+n > gm∨cs.length≠len*i.size then none else if n=0 then (if len=0 then some (.rs 0 0 0 i.size,h) else some (s,h)) else some (.rs h.next 0 (len+n) i.size,h.alloc (.cells (cs++new)))
    | .rs id off len ib=>if id=0 then (if n*i.bytes > gm∨n > gm∨ib≠i.size then none else if n=0 then some (s,h) else some (.rs h.next 0 n i.size,h.alloc (.cells new))) else (h.get id).bind fun
     | .cells cs=>if ib≠i.size∨off+len*ib > cs.length∨(len+n)*i.bytes > gm∨len+n > gm then none else
       if n=0 then some (s,h) else some (.rs h.next 0 (len+n) ib,(h.kill id).put h.next (.cells ((cs.drop off).take (len*ib)++new)))
     | _=>none
    | _=>none
  | _=>none
def iM:AV→AV→Bool
 | .int k a,.int l b=>k==l&&a==b
 | .str a,.str b=>a.data.toList==b.data.toList
 | .bool a,.bool b=>a==b
 | _,_=>false
def kN:List AV→List AV→Bool
 | [],[]=>true
 | x::xs,y::ys=>iM x y&&kN xs ys
 | _,_=>false
def fe:AV→AV→Bool
 | .agg xs,.agg ys=>kN xs ys
 | x,y=>iM x y
def jQ:AV→Bool
 | .int .i64 _=>true
 | _=>false
def fW (t:TypeId)(k:AV):Bool:=
 match P.underlying t,k with
 | some (.int q),.int k _=>q==k
 | some .string,.str _=>true
 | some (.array n e),.agg cs=>cs.length==n&&cs.all jQ&&(P.underlying e matches some (.int .i64))&&eO P e==some 1
 | some (.struct fs), .agg cs => cs.length == fs.size && cs.all jQ && fs.toList.zipIdx.all (fun (f, i) => f.name != "_" && f.offset == i && (P.underlying f.type matches some (.int .i64)) && eO P f.type == some 1) && !P.stoodInHeld t
 | _,_=>false
def sameShape:AV→AV→Bool
 | .int k _,.int l _=>k==l
 | .str _,.str _=>true
 | .agg xs,.agg ys=>xs.length==ys.length&&xs.all jQ&&ys.all jQ
 | _,_=>false
def iv (k:AV):List (AV × AV)→Option (Option AV)
 | []=>some none
 | (k',v)::es=>if sameShape k k' then (if fe k k' then some (some v) else iv k es) else none
def ui (k v:AV):List (AV × AV)→Option (List (AV × AV))
 | []=>some [(k,v)]
 | (k',v')::es=>if sameShape k k' then (if fe k k' then some ((k,v)::es) else (ui k v es).map ((k',v') :: ·)) else none
def fK (h:AHeap)(t:TypeId)(m k:AV)(ok:Bool):Option AV:=
 (P.underlying t).bind fun
  | .map kt et=>if fW P kt k=false then none else
   (match m with
    | .lB=>some []
    | .mp id=>(h.get id).bind fun | .map es=>some es | _=>none
    | _=>none).bind fun es=>
   (iv k es).bind fun
   | some v=>some (if ok then .tup [v,.bool true] else v)
   | none=>(ir P et).map fun z=>if ok then .tup [z,.bool false] else z
  | _=>none
def iw (h:AHeap)(t:TypeId)(m k v:AV):Option AHeap:=
 (P.underlying t).bind fun
  | .map kt _=>if fW P kt k=false∨v.kj=false then none else
   match m with
   | .mp id=>(h.get id).bind fun | .map es=>(ui k v es).map fun pJ=>h.put id (.map pJ) | _=>none
   | _=>none
  | _=>none
def q8 (h:AHeap)(t:TypeId)(x:AV):Option AV:=
 (P.underlying t).bind fun
  | .slice _=>match x with
   | .nils=>some (.int .i64 0)
   | .fz _ n _=>some (.int .i64 n)
   | .rs _ _ n _=>some (.int .i64 n)
   | _=>none
  | .string=>match x with
   | .str s=>some (.int .i64 s.size)
   | _=>none
  | .map _ _=>match x with
   | .lB=>some (.int .i64 0)
   | .mp id=>(h.get id).bind fun | .map es=>some (.int .i64 es.length) | _=>none
   | _=>none
  | _=>none
def pK (h:AHeap)(t t2:TypeId)(d x:AV):Option (AV × AHeap):=
 (P.underlying t).bind fun
  | .slice e=>(P.info? e).bind fun i=>(dU h i.size x).bind fun (new,m)=>
   if iu P t2 x=false then none else
   match d with
   | .rs id off len ib=>if id=0 then (if m=0 then some (.int .i64 0,h) else none) else (h.get id).bind fun
    | .cells cs=>if ib=i.size∧m≤len∧off+m*i.size≤cs.length then some (.int .i64 m,h.put id (.cells (da cs off new))) else none
    | _=>none
   | .nils=>if m=0 then some (.int .i64 0,h) else none
   | _=>none
  | _=>none
def kO (h:AHeap)(t:TypeId)(x:AV):Option AHeap:=
 (P.underlying t).bind fun ty=>match x with
 | .lB=>some h
 | .mp id=>(h.get id).bind fun | .map _=>some (h.put id (.map [])) | _=>none
 | .rs id off len ib=>if len=0 then some h else if id=0 then none else match ty with
  | .slice e=>(P.info? e).bind fun i=>(ir P e).bind fun z=>(h.get id).bind fun
   | .cells cs=>if ib=i.size∧z.cells.length=i.size∧i.size≠0∧z.cells.all AV.bP∧off+len*ib≤cs.length then some (h.put id (.cells (da cs off (ic z.cells len)))) else none
   | _=>none
  | _=>none
 | _=>none
def gy (h:AHeap)(t:TypeId)(l c:AV):Option (AV × AHeap):=
 match l,c with
 | .int .i64 l,.int .i64 c=>
  (P.underlying t).bind fun
   | .slice e=>(P.info? e).bind fun i=>(ir P e).bind fun z=>
    if 0≤l∧l≤c∧c*i.bytes≤gm∧z.cells.length=i.size∧i.size≠0∧c≤1099511627776∧z.cells.all AV.bP then some (.rs h.next 0 l.toNat i.size,h.alloc (.cells (ic z.cells l.toNat))) else none
   | _=>none
 | _,_=>none
def G5:List AV→Option (List UInt8)
 | []=>some []
 | .int .u8 n::xs=>(G5 xs).map fun l=>UInt8.ofNat n.toNat::l
 | _::_=>none
def CM (e:TypeId):Bool:=(P.underlying e matches some (.int .u8))&&eO P e==some 1
def lN (h:AHeap)(src dst:TypeId)(x:AV):Option AV:=
 match P.underlying src,P.underlying dst with
 | some (.slice e),some .string=>if CM P e then (dU h 1 x).bind fun (cs,_)=>(G5 cs).map fun l=>.str ⟨l.toArray⟩ else none
 | some .string,some (.slice e)=>match x with
  | .str s=>if CM P e then some (.fz (s.data.toList.map fun b=>.int .u8 b.toNat) s.size false) else none
  | _=>none
 | some (.slice _),some (.slice e)=>match x with
  | .fz cs n true=>if src==dst&&CM P e&&0<cs.length then some (.fz cs n true) else none
  | _=>none
 | _,_=>(x.fV).bind fun v=>(iq P (convert src dst v)).bind nN
def xZ (op:BinOp)(x y:ByteArray):Option AV:=
 let a:=x.data.toList
 let b:=y.data.toList
 match op with
 | .add=>if x.size+y.size≤1099511627776 then some (.str (x++y)) else none
 | .eql=>some (.bool (a==b))
 | .neq=>some (.bool (!(a==b)))
 | .lss=>some (.bool (Op.bytesLess a b))
 | .leq=>some (.bool (Op.bytesLess a b||a==b))
 | .gtr=>some (.bool (!(Op.bytesLess a b||a==b)))
 | .geq=>some (.bool (!Op.bytesLess a b))
 | _=>none
def ya:BinOp→Option Bool
 | .eql=>some true
 | .neq=>some false
 | _=>none
def lO (op:BinOp)(t:TypeId)(x y:AV):Option AV:=
 match x,y with
 | .str a,.str b=>xZ op a b
 | .ptr ..,.nl | .nl,.ptr .. | .fp ..,.nl=>(ya op).bind fun oS=>if (P.underlying t matches some (.pointer _)) then some (.bool (!oS)) else none
 | .fz (_::_) ..,.nils | .rs (_+1) ..,.nils=>(ya op).bind fun oS=>if (P.underlying t matches some (.slice _)) then some (.bool (!oS)) else none
 | .agg _,.agg _=>(ya op).bind fun oS=>if fW P t x&&fW P t y&&sameShape x y && !P.eqGuardType P.depth t then some (.bool (fe x y==oS)) else none
 | x,y=>(x.fV).bind fun a=>(y.fV).bind fun b=>(iq P (binOp op t a b)).bind nN
def kP (op:Value→Value→Sem Value):Value→List Value→Option Value
 | v,[]=>some v
 | v,x::xs=>(iq P (op v x)).bind fun u=>kP op u xs
structure RS where
 ρ:Nat→AV
 bx:Nat→Option (List AV)
 h:AHeap
def RS.set (s:RS)(d:Option Nat)(v:AV):RS:=
 match d with
 | none=>s
 | some d=>{s with ρ:=fun t=>bif U5 t d then v else s.ρ t}
def RS.box (s:RS)(k:Nat)(cs:List AV):RS:={s with bx:=fun t=>bif U5 t k then some cs else s.bx t}
abbrev CallF:=FuncId→List AV→AHeap→Option (AV × AHeap)
def q9 (k:Nat)(ρ:Nat→AV):List Nat→Bool
 | []=>true
 | t::ts=>(match ρ t with | .lp j _=>j != k | _=>true)&&q9 k ρ ts
def hY (s:RS)(aE ds:List Nat)(o:Oper)(cs:List AV):Option RS:=
 if cs.all AV.bP then
  match o.dst with
  | some d=>if aE.contains d then (if q9 d s.ρ (ds.filter fun t=>!Nat.beq t d) then some ((s.box d cs).set (some d) (.lp d 0)) else none) else some ({s with h:=s.h.alloc (.cells cs)}.set (some d) (.ptr s.h.next 0))
  | none=>none
 else none
def re:AV→Option Bool
 | .bool b=>some b
 | _=>none
def fF (s:RS)(o:Oper)(b:Builtin)(ts:List TypeId)(args:List AV):Option RS:=
 match b,ts,args with
 | .len,[t],[x]=>(q8 P s.h t x).map fun v=>s.set o.dst v
 | .append,[t,t2],[x,y]=>(dv P s.h t t2 x y).map fun (v,h)=>{s with h}.set o.dst v
 | .copy,[t,t2],[x,y]=>(pK P s.h t t2 x y).map fun (v,h)=>{s with h}.set o.dst v
 | .clear,[t],[x]=>(kO P s.h t x).map fun h=>{s with h}.set o.dst (.tup [])
 | .min,_,x::xs=>(x.fV).bind fun v=>(iK xs).bind fun vs=>(kP P Builtin.min2 v vs).bind fun u=>(nN u).map fun r=>s.set o.dst r
 | .max,_,x::xs=>(x.fV).bind fun v=>(iK xs).bind fun vs=>(kP P Builtin.max2 v vs).bind fun u=>(nN u).map fun r=>s.set o.dst r
 | _,_,_=>none
def jt (bx:Nat→Option (List AV))(h:AHeap)(t:TypeId)(x:AV):Option AV:=
 match x with
 | .lp k off=>(bx k).bind fun cs=>iL P t cs off
 | .fp cs off=>if cs.isEmpty then none else iL P t cs off
 | .ptr id off=>(h.get id).bind fun | .cells cs=>iL P t cs off | _=>none
 | _=>none
def oW:AV→Option AV
 | .ptr id off=>some (.ptr id off)
 | .lp k off=>some (.lp k off)
 | .fp cs off=>some (.fp cs off)
 | _=>none
def rf:AV→Nat→Option AV
 | .tup vs,i=>vs[i]?
 | _,_=>none
def np (aE:List Nat)(o:Oper)(t:TypeId)(x:AV):Option (List AV × Nat × Nat):=
 match o.dst,x with
 | some d,.fz (c::cs) n true=>bif aE.contains d then (match P.underlying t with
   | some (.slice e)=>match eO P e with
    | some z=>bif U5 (c::cs).length (n*z) then some (c::cs,n,z) else none
    | none=>none
   | _=>none) else none
 | _,_=>none
def oX (aE:List Nat)(s:RS)(o:Oper)(t:TypeId)(x:AV):RS:=
 match np P aE o t x with
 | none=>s.set o.dst x
 | some (cs,n,z)=>{s with h:=s.h.alloc (.cells cs)}.set o.dst (.rs s.h.next 0 n z)
def CN:List Nat→Nat→Nat
 | [],_=>0
 | k::ks,d=>bif U5 (k % 1000000) d&&VP 1000000 k then k / 1000000 else CN ks d
def sL (n:Nat):AV→AV
 | .nils=>.rs 0 0 0 n
 | x=>x
def yb (n:Nat):Nat→List AV→List AV
 | _,[]=>[]
 | j,x::xs=>(match n / 100 / 10 ^ j % 10 with | 0=>x | k=>sL k x)::yb n (j+1) xs
def FE (cs:List AV):Nat→List AV
 | 0=>cs
 | n=>bif VP 100 n then yb n 0 cs else cs.map (sL n)
def yc (aE:List Nat)(d:Option Nat)(cs:List AV):List AV:=
 match d with
 | none=>cs
 | some d=>FE cs (CN aE d)
def HH (aE:List Nat)(d:Option Nat):AV→AV
 | .agg cs=>.agg (yc aE d cs)
 | x=>x
def Bm (h:AHeap)(x:AV):Option (AV × AHeap):=
 if x.dO then some (x,h) else
 match x with
 | .rs id off len ib=>if id=0 then (if len=0 then some (.fz [] 0 false,h) else none) else (h.get id).bind fun
  | .cells cs=>if off+len*ib≤cs.length∧cC ((cs.drop off).take (len*ib))=true then some (.fz ((cs.drop off).take (len*ib)) len false,h.kill id) else none
  | _=>none
 | _=>none
def uj (h:AHeap):List AV→Option (List AV × AHeap)
 | []=>some ([],h)
 | x::xs=>(Bm h x).bind fun a=>(uj a.2 xs).map fun b=>(a.1::b.1,b.2)
def iU (k:Nat)(h:AHeap)(x:AV):Option (AV × AHeap):=
 match k with
 | 0=>
  match x with
  | .nils=>some (.fz [] 0 false,h)
  | .rs id off len ib=>if id=0 then (if len=0 then some (.fz [] 0 false,h) else none) else (h.get id).bind fun
   | .cells cs=>if off+len*ib≤cs.length then (uj (h.kill id) ((cs.drop off).take (len*ib))).map fun r=>(.fz r.1 len false,r.2) else none
   | _=>none
  | .fz cs n _=>some (.fz cs n false,h)
  | _=>none
 | k+1=>
  match x with
  | .nils=>some (.rs 0 0 0 (k+1),h)
  | .fz [] 0 true=>some (.rs 0 0 0 (k+1),h)
  | .rs id off len ib=>some (.rs id off len ib,h)
  | _=>none
def JW (aE:List Nat)(d:Option Nat):Bool:=
 match d with
 | none=>false
 | some d=>aE.contains (1000000000+d)
def uk (aE:List Nat)(d:Option Nat)(x:AV × AHeap):Option (AV × AHeap):=
 bif JW aE d then iU 0 x.2 x.1 else some x
def yd (cf:CallF)(aE ds:List Nat)(e:Operand→AV)(s:RS)(o:Oper):Option RS:=
 let v (r:Option AV):Option RS:=r.map fun x=>s.set o.dst x
 match o.op with
 | .move x | .assign x=>some (s.set o.dst (e x))
 | .pick c a b=>(re (e c)).map fun t=>s.set o.dst (if t then e a else e b)
 | .alloc t=>(ir P t).bind fun z=>hY s aE ds o (yc aE o.dst z.cells)
 | .box _ x=>hY s aE ds o (e x).cells
 | .build t ps=>v ((xX P t (ps.toList.map fun (i,x)=>(i,e x))).map (HH aE o.dst))
 | .buildSlice t n ps=>(gx P t n (ps.toList.map fun (i,x)=>(i,e x))).map fun x=>oX P aE s o t x
 | .load t a=>v (jt P s.bx s.h t (e a))
 | .store t a x=>if o.dst.isSome then none else
  match e a with
  | .lp k off=>(s.bx k).bind fun cs=>(gI P t cs off (e x)).map fun eQ=>s.box k eQ
  | .ptr id off=>(s.h.get id).bind fun | .cells cs=>(gI P t cs off (e x)).map fun eQ=>{s with h:=s.h.put id (.cells eQ)} | _=>none
  | _=>none
 | .nilCheck x=>v (oW (e x))
 | .binOp op t x y _=>v (lO P op t (e x) (e y))
 | .unOp op _ x=>v ((e x).fV.bind fun a=>(iq P (Op.unary op a)).bind nN)
 | .convert a b x=>v (lN P s.h a b (e x))
 | .makeFunc (.func f) first cap=>if first.isEmpty∧(cap.toList.map e).all AV.bP then v (some (.fn f (cap.toList.map e))) else none
 | .makeMap _ none=>some ({s with h:=s.h.alloc (.map [])}.set o.dst (.mp s.h.next))
 | .makeSlice t l c=>(gy P s.h t (e l) (e c)).map fun (x,h)=>{s with h}.set o.dst x
 | .slice t x lo hi mx=>v (kM P t (e x) (lo.map e) (hi.map e) (mx.map e))
 | .fieldAddr t x f=>v (nn P t (e x) f)
 | .field t x f=>v (xY P t (e x) f)
 | .indexAddr t x i=>v (eD P t (e x) (e i))
 | .index t x i=>v (oV P t (e x) (e i))
 | .lookup t m k ok=>v (fK P s.h t (e m) (e k) ok)
 | .mapUpdate t m k x | .insert t m k x=>if o.dst.isSome then none else (iw P s.h t (e m) (e k) (e x)).map fun h=>{s with h}
 | .extract t i=>v (rf (e t) i)
 | .call {callee:=.builtin b,args,argTypes}=>fF P s o b argTypes.toList (args.toList.map e)
 | .call {callee:=.value f,args,..}=>
  match e f with
  | .fn f cap=>let as:=args.toList.map e
    if as.all AV.kj then ((cf f (as++cap) s.h).bind (uk aE o.dst)).map fun (r,h)=>{s with h}.set o.dst r else none
  | _=>none
 | _=>none
def um (cf:CallF)(aE ds:List Nat)(s:RS)(o:Oper):Option RS:=yd P cf aE ds (bJ s.ρ) s o
def gJ (ops:List Oper)(ρ:Nat→AV)(o:Oper):Option Bool:=
 match o.guard with
 | none=>some true
 | some (j,want)=>((ops[j]?).bind (·.dst)).bind fun d=>match ρ d with
  | .bool b=>some (b==want)
  | .tup []=>some false
  | _=>none
def lP (cf:CallF)(aE:List Nat)(ops:List Oper)(s:RS)(o:Oper):Option RS:=
 (gJ ops s.ρ o).bind fun w=>if w then um P cf aE (ops.filterMap (·.dst)) s o else some (s.set o.dst (.tup []))
def qa (cf:CallF)(aE:List Nat)(ops:List Oper):RS→List Oper→Option RS
 | s,[]=>some s
 | s,o::os=>(lP P cf aE ops s o).bind fun s'=>qa cf aE ops s' os
end
structure kl where
 rb:List Nat:=[]
 wb:Option Nat:=none
 rh:List Nat:=[]
 wh:Bool:=false
 al:Bool:=false
def bc (aE:List Nat)(e:Operand→AV)(o:Oper):kl:=
 match o.op with
 | .alloc _ | .box _ _=>match o.dst with
  | some d=>if aE.contains d then {wb:=some d,al:=true} else {wh:=true}
  | none=>{}
 | .load _ a=>match e a with
  | .lp k _=>{rb:=[k]}
  | .ptr id _=>{rh:=[id]}
  | _=>{}
 | .store _ a _=>match e a with
  | .lp k _=>{rb:=[k],wb:=some k}
  | _=>{wh:=true}
 | .convert _ _ x=>match e x with
  | .rs id _ _ _=>{rh:=[id]}
  | _=>{}
 | .lookup _ m _ _=>match e m with
  | .mp id=>{rh:=[id]}
  | _=>{}
 | .buildSlice _ _ _=>match o.dst with
  | some d=>if aE.contains d then {wh:=true} else {}
  | none=>{}
 | .makeMap _ _ | .makeSlice _ _ _ | .mapUpdate _ _ _ _ | .insert _ _ _ _=>{wh:=true}
 | .call {callee:=.builtin b,args,..}=>match b,args.toList.map e with
  | .len,[.mp id]=>{rh:=[id]}
  | .len,_ | .min,_ | .max,_=>{}
  | _,_=>{wh:=true}
 | .call _=>{wh:=true}
 | _=>{}
structure lC where
 o:Oper
 f:kl
 s:RS
 s':RS
def lC.out (e:lC):AV:=
 match e.o.dst with
 | some d=>e.s'.ρ d
 | none=>.any
def kl.quiet (f:kl):Bool:=f.rb.isEmpty&&f.wb.isNone&&f.rh.isEmpty && !f.wh
def HI (k:Nat):AV→Bool
 | .lp j _=>j==k
 | _=>false
def lC.je (x y:lC):Bool:=
 (match x.f.wb with
  | some k=>!y.f.rb.contains k&&y.f.wb != some k
  | none=>true) &&
 (!x.f.wh||(!y.f.wh&&y.f.rh.all fun id=>U5 (x.s.h.ver id) (x.s'.h.ver id)))
def jf:List Nat→List Oper→List Nat
 | acc,[]=>acc
 | acc,o::os=>jf (acc++[o.after.toList.foldl (fun m e=>bif Region.binds .any e then m ||| (2 ^ e.on ||| acc.getD e.on 0) else m) 0]) os
def uo (ops:Array Oper)(x y:Oper):Bool:=
 (match x.dst with
  | some d=>!(y.looksAt ops).contains d&&y.dst != some d
  | none=>true)
def qM:Nat→List Oper→Bool
 | _,[]=>true
 | k,o::os=>o.after.toList.all (fun e=>!Region.binds .any e||Nat.blt e.on k)&&qM (k+1) os
def nO {α:Type}(p:Nat→α→Nat→α→Bool):Nat→List α→Bool
 | _,[]=>true
 | i,x::xs=>(xs.zipIdx (i+1)).all (fun (y,j)=>p i x j y)&&nO p (i+1) xs
def mF (ops:Array Oper)(ms:List Nat):Bool:=
 qM 0 ops.toList &&
 nO (fun i x j y=>(ms.getD j 0).testBit i||(uo ops x y&&uo ops y x)) 0 ops.toList
def nP (P:Program)(cf:CallF)(aE:List Nat)(ops:List Oper):RS→List Oper→Option (List lC × RS)
 | s,[]=>some ([],s)
 | s,o::os=>
  (gJ ops s.ρ o).bind fun w=>
   (if w then um P cf aE (ops.filterMap (·.dst)) s o else some (s.set o.dst (.tup []))).bind fun s1=>
    (nP P cf aE ops s1 os).map fun (l,r)=>({o,f:=if w then bc aE (bJ s.ρ) o else {},s,s':=s1}::l,r)
def qN (ms:List Nat)(ds:List Nat)(s0:RS)(es:List (lC × Nat))(x:lC)(i:Nat):Bool:=
 match x.f.al,x.o.dst with
 | true,some d=>q9 d s0.ρ (ds.filter fun t=>!Nat.beq t d)&&es.all fun (y,j)=>U5 i j||(ms.getD j 0).testBit i || !HI d y.out
 | _,_=>true
def ju (P:Program)(cf:CallF)(aE:List Nat)(ops:Array Oper)(s:RS):Option RS:=
 let ms:=jf [] ops.toList
 if mF ops ms then
  (nP P cf aE ops.toList s ops.toList).bind fun (es,r)=>
   let is:=es.zipIdx
   let uq:=is.filter fun (x,_)=>!x.f.quiet
   if uq.all (fun (x,i)=>qN ms (ops.toList.filterMap (·.dst)) s is x i&&uq.all fun (y,j)=>VP j i||(ms.getD j 0).testBit i||(x.je y&&y.je x)) then some r else none
 else none
structure St where
 vars:List AV
 JA:List (Option (List AV))
 h:AHeap
inductive Ex where
 | norm
 | exit (id:Nat)
 | ret
def look {α:Type}(d:α):List Nat→List α→Nat→α
 | k::ks,v::vs,t=>bif U5 t k then v else look d ks vs t
 | _,_,_=>d
structure bX where
 keep:List Nat
 aE:List Nat
 dead:List (Nat × List Nat):=[]
 FF:List (Nat × List (Nat × Option Nat × Nat)):=[]
 ye:List (Nat × List (Nat × Option Nat × Nat)):=[]
def fL {α:Type}(r:Nat):List (Nat × List α)→List α
 | []=>[]
 | (k,l)::ks=>bif U5 k r then l else fL r ks
def St.open (A:bX)(s:St):RS:={ρ:=look AV.any A.keep s.vars,bx:=look (none:Option (List AV)) A.aE s.JA,h:=s.h}
def vK (aE:List Nat)(ρ:Nat→AV)(t:Nat):AV:=
 match ρ t with
 | .lp k off=>bif U5 k t&&U5 off 0&&aE.contains k then .lp k off else .any
 | v=>v
def RS.shut (A:bX)(s:RS):St:={vars:=A.keep.map (vK A.aE s.ρ),JA:=A.aE.map s.bx,h:=s.h}
def RS.lQ (A:bX)(r:Nat)(s:RS):St:=
 match fL r A.dead with
 | []=>s.shut A
 | ds=>{vars:=A.keep.map (fun t=>bif ds.contains t then .any else vK A.aE s.ρ t),JA:=A.aE.map (fun k=>bif ds.contains k then none else s.bx k),h:=s.h}
def ur (s:RS)(p:Nat × Option Nat × Nat):Option RS:=
 match p.2.1 with
 | none=>(iU p.2.2 s.h (s.ρ p.1)).map fun (y,h)=>{s with h:=h,ρ:=fun t=>bif U5 t p.1 then y else s.ρ t}
 | some i=>
  match s.bx p.1 with
  | some cs=>(cs[i]?).bind fun x=>(iU p.2.2 s.h x).map fun (y,h)=>{s with h:=h,bx:=fun k=>bif U5 k p.1 then some (cs.set i y) else s.bx k}
  | none=>none
def km (s:RS):List (Nat × Option Nat × Nat)→Option RS
 | []=>some s
 | p::ps=>(ur s p).bind fun s=>km s ps
def kn (f:St→Option (Ex × St)):Nat→St→Option (Ex × St)
 | 0,_=>none
 | n+1,s=>(f s).bind fun
  | (.norm,s')=>kn f n s'
  | r=>some r
def bI (P:Program)(cf:CallF)(A:bX)(n:Nat):Code→St→Option (Ex × St)
 | .skip,s=>some (.norm,s)
 | .label _,s=>some (.norm,s)
 | .ret,s=>some (.ret,s)
 | .exit id,s=>some (.exit id,s)
 | .seq a b,s=>(bI P cf A n a s).bind fun
  | (.norm,s')=>bI P cf A n b s'
  | r=>some r
 | .cond c x y,s=>(re (bJ (s.open A).ρ c)).bind fun t=>if t then bI P cf A n x s else bI P cf A n y s
 | .block id body,s=>(bI P cf A n body s).map fun
  | (.exit i,s')=>(if i=id then .norm else .exit i,s')
  | r=>r
 | .loop body,s=>kn (bI P cf A n body) n s
 | .region r ops draw,s=>(km (s.open A) (fL r A.FF)).bind fun s=>((if draw then ju P cf A.aE ops s else qa P cf A.aE ops.toList s ops.toList)).bind fun s'=>(km s' (fL r A.ye)).map fun s'=>(.norm,s'.lQ A r)
 | _,_=>none
def yf (P:Program)(s:RS):List ResultVar→Option (List AV)
 | []=>some []
 | .tmp t::rs=>(yf P s rs).map fun l=>s.ρ t::l
 | .cell a t::rs=>(jt P s.bx s.h t (s.ρ a)).bind fun v=>(yf P s rs).map fun l=>v::l
def aM (P:Program)(s:RS)(rs:List ResultVar):Option AV:=
 (yf P s rs).bind fun l=>if l.all AV.kj then (match l with | [v]=>some v | l=>some (.tup l)) else none
def lR (keep:List Nat)(args:List AV):List AV:=keep.map fun t=>args.getD t AV.any
mutual
def b9 (h:AHeap):Nat→AV→Option AV
 | 0,_=>none
 | n+1,x=>
  match x with
  | .ptr id off=>(h.get id).bind fun | .cells cs=>(bq h n cs).map fun eQ=>.fp eQ off | _=>none
  | .rs id off len ib=>if id=0 then (if len=0 then some (.fz [] 0 false) else none) else (h.get id).bind fun | .cells cs=>if off+len*ib≤cs.length then (bq h n ((cs.drop off).take (len*ib))).map fun eQ=>.fz eQ len false else none | _=>none
  | .agg cs=>(bq h n cs).map .agg
  | .tup cs=>(bq h n cs).map .tup
  | .fn f cs=>(bq h n cs).map (.fn f)
  | x=>if x.dO then some x.jd else none
def bq (h:AHeap):Nat→List AV→Option (List AV)
 | 0,_=>none
 | _+1,[]=>some []
 | n+1,x::xs=>(b9 h n x).bind fun y=>(bq h n xs).map fun ys=>y::ys
end
mutual
def fM (h:AHeap):Nat→AV→Option AV
 | 0,_=>none
 | n+1,x=>
  match x with
  | .bool b=>some (.bool b)
  | .int k v=>some (.int k v)
  | .str s=>some (.str s)
  | .nl=>some .nl
  | .lB=>some .lB
  | .nM=>some .nM
  | .nils=>some (.fz [] 0 false)
  | .fz [] 0 _=>some (.fz [] 0 false)
  | .rs id off len ib=>if id=0 then (if len=0 then some (.fz [] 0 false) else none) else (h.get id).bind fun | .cells cs=>if off+len*ib≤cs.length then (db h n ((cs.drop off).take (len*ib))).map fun eQ=>.fz eQ len false else none | _=>none
  | .agg cs=>(db h n cs).map .agg
  | .tup cs=>(db h n cs).map .tup
  | _=>none
def db (h:AHeap):Nat→List AV→Option (List AV)
 | 0,_=>none
 | _+1,[]=>some []
 | n+1,x::xs=>(fM h n x).bind fun y=>(db h n xs).map fun ys=>y::ys
end
def bu:AHeap:={get:=fun _=>none,ver:=fun _=>0,next:=1}
mutual
def cM (k:Nat):AV→Option AV
 | .bool b=>some (.bool b)
 | .int i n=>some (.int i n)
 | .str s=>some (.str s)
 | .nl=>some .nl
 | .lB=>some .lB
 | .nM=>some .nM
 | .nils=>some .nils
 | .ptr id off=>some (.ptr (id+k) off)
 | .rs id off len z=>if id=0 then some (.rs 0 off len z) else some (.rs (id+k) off len z)
 | .agg cs=>(cd k cs).map .agg
 | .tup cs=>(cd k cs).map .tup
 | _=>none
def cd (k:Nat):List AV→Option (List AV)
 | []=>some []
 | x::xs=>(cM k x).bind fun y=>(cd k xs).map fun ys=>y::ys
end
def fm (k:Nat):List AV→List AV
 | []=>[]
 | x::xs=>match cM k x with | some y=>y::fm k xs | none=>[]
def yg (k:Nat):AObj→Option AObj
 | .cells cs=>some (.cells (fm k cs))
 | _=>none
def AHeap.eu (h h1:AHeap):AHeap:={get:=fun i=>bif Nat.blt i h.next then h.get i else (h1.get (i - h.next)).bind (yg h.next),ver:=fun i=>bif Nat.blt i h.next then h.ver i else h.next+h1.ver (i - h.next),next:=h.next+h1.next}
def aK (x:AV):AV:=bif x.dO then x.jd else x
def a7 (P:Program)(aV:FuncId→bX)(cf:CallF)(m:Nat)(f:FuncId)(args:List AV)(h:AHeap):Option (AV × AHeap):=
 (P.funcs[f]?).bind fun fn=>fn.body.bind fun c=>
  if args.length≤fn.ntmps then
   (bI P cf (aV f) m c {vars:=lR (aV f).keep args,JA:=(aV f).aE.map fun _=>none,h}).bind fun
    | (.norm,s) | (.ret,s)=>(aM P (s.open (aV f)) fn.results.toList).map fun r=>(r,s.h)
    | _=>none
  else none
structure mW where
 aV:FuncId→bX
 intr:FuncId→Option (List AV→AHeap→Option (AV × AHeap))
 pure:FuncId→Option Nat
 eu:FuncId→Bool:=fun _=>false
def ez (P:Program)(T:mW)(m:Nat):Nat→CallF
 | 0=>fun _ _ _=>none
 | n+1=>fun f args h=>
  match T.intr f with
  | some g=>g args h
  | none=>
   match T.pure f with
   | some deep=>if T.eu f then (bq h deep args).bind fun us=>(a7 P T.aV (ez P T m n) m f us bu).bind fun x=>(cM h.next x.1).map fun r=>(r,h.eu x.2) else
     if cC args then (a7 P T.aV (ez P T m n) m f (dk args) bu).bind fun x=>(b9 x.2 deep x.1).map fun r=>(r,h) else
     match bq h deep args with
     | some as=>(a7 P T.aV (ez P T m n) m f as bu).bind fun x=>(fM x.2 deep x.1).map fun r=>(r,h)
     | none=>a7 P T.aV (ez P T m n) m f (args.map aK) h
   | none=>a7 P T.aV (ez P T m n) m f (args.map aK) h
end Go.R
namespace Go.R
open Go
structure Steady (h h':AHeap):Prop where
 next:h.next≤h'.next
 keep:∀id,(h'.ver id=h.ver id∧h'.get id=h.get id)∨h.next≤h'.ver id
 wf:(∀id,h.ver id<h.next)→∀id,h'.ver id<h'.next
theorem Steady.refl (h:AHeap):Steady h h:=⟨Uy _,fun _=>.inl ⟨rfl,rfl⟩,fun h=>h⟩
theorem Steady.trans {h h' Py:AHeap}(a:Steady h h')(b:Steady h' Py):Steady h Py:=
 ⟨Vj a.next b.next,fun id=>by
  rcases b.keep id with⟨h1,h2⟩| h1
  ·rcases a.keep id with⟨h3,h4⟩| h3
   ·exact .inl ⟨h1.trans h3,h2.trans h4⟩
   ·exact .inr (by rw [h1]; exact h3)
  ·exact .inr (Vj a.next h1),fun h=>b.wf (a.wf h)⟩
theorem beq_nat (a b:Nat):U5 a b=decide (a=b):=by
 by_cases h:a=b
 ·subst h; simp
 ·cases hb:U5 a b with
  | true=>exact absurd (Vx hb) h
  | false=>simp [h]
theorem Steady.put (h:AHeap)(id:Nat)(o:AObj):Steady h (h.put id o):=by
 refine⟨VD _,fun i=>?_,fun hw i=>?_⟩
 ·by_cases hi:i=id
  ·right; simp [AHeap.put,beq_nat,hi]
  ·left; simp [AHeap.put,beq_nat,hi]
 ·have:=hw i
  by_cases hi:i=id
  ·simp [AHeap.put,beq_nat,hi]
  ·simp only [AHeap.put,beq_nat,hi,decide_false,cond_false]; omega
theorem Steady.kill (h:AHeap)(id:Nat):Steady h (h.kill id):=by
 refine⟨VD _,fun i=>?_,fun hw i=>?_⟩
 ·by_cases hi:i=id
  ·right; simp [AHeap.kill,beq_nat,hi]
  ·left; simp [AHeap.kill,beq_nat,hi]
 ·have:=hw i
  by_cases hi:i=id
  ·simp [AHeap.kill,beq_nat,hi]
  ·simp only [AHeap.kill,beq_nat,hi,decide_false,cond_false]; omega
structure Cx where
 β:Nat→Nat × Nat
 h:AHeap
 w:World
 base:Nat
def Live (h:AHeap)(id:Nat):Prop:=id<h.next∧(h.get id).isSome=true
def RO (c:Cx)(L:Nat→Prop)(b:Nat):Prop:=(∀id,Live c.h id→(c.β id).1≠b)∧¬L b
def Cx.len (c:Cx)(b:Nat):Nat:=((c.w.shape? b).map (·.2)).getD 0
mutual
def VR (c:Cx)(L:Nat→Prop):AV→Value→Prop
 | .any,_=>True
 | .bool b,v=>v = .bool b
 | .int k n,v=>v = .int k n
 | .str s,v=>v = .string s
 | .nl,v=>v = .pointer none
 | .ptr id off,v=>id<c.h.next∧∃a,v = .pointer (some a)∧(Live c.h id→a=⟨(c.β id).1,(c.β id).2+off,none⟩)
 | .lp _ _,_=>False
 | .fp cs off,v=>∃b o,v = .pointer (some ⟨b,o+off,none⟩)∧(cs=[]∨(RO c L b∧Cells c L cs b o))
 | .nils,v=>v = .slice none 0 0
 | .fz cs n ex,v=>∃a cap,v = .slice a n cap∧n≤cap∧(ex=true→cap=n)∧(a.isSome=true∨cs=[]∧cap=0)∧(cs=[]∨∃b o,a=some ⟨b,o,none⟩∧RO c L b∧(ex=true→c.base≤b)∧Cells c L cs b o)
 | .rs id off len ib,v=>(id=0∧off=0∧len=0∧∃a,v = .slice a 0 0)∨id≠0∧id<c.h.next∧∃a cap,v = .slice a len cap∧len≤cap∧a.isSome=true∧(Live c.h id→(a=some ⟨(c.β id).1,(c.β id).2+off,none⟩∧(c.β id).2+off+cap*ib=c.len (c.β id).1)∨cap=0)
 | .lB,v=>v = .map none
 | .mp id,v=>id<c.h.next∧∃r,v = .map (some r)∧(Live c.h id→r=(c.β id).1)
 | .fn f cap,v=>∃vs:Array Value,v = .func (.func f) #[] vs∧VRs c L cap vs.toList
 | .nM,v=>v = .nilFunc
 | .agg cs,v=>∃vs:Array Value,v = .agg vs∧VRs c L cs vs.toList
 | .tup cs,v=>∃vs:Array Value,v = .tuple vs∧VRs c L cs vs.toList
def VRs (c:Cx)(L:Nat→Prop):List AV→List Value→Prop
 | [],[]=>True
 | x::xs,v::vs=>VR c L x v∧VRs c L xs vs
 | _,_=>False
def Cells (c:Cx)(L:Nat→Prop):List AV→Nat→Nat→Prop
 | [],_,_=>True
 | x::xs,b,o=>(∃v,c.w.cell? ⟨b,o,none⟩=some v∧v.oneCell'=true∧VR c L x v)∧Cells c L xs b (o+1)
end
def gS (w w':World)(b:Nat):Prop:=
 w'.heap[b]? = w.heap[b]?∨∃(C:Array Value) (e lo hi Fp jw:Nat),w.heap[b]? = some (.cells C e (lo,hi))∧w'.heap[b]? = some (.cells C e (Fp,jw))∧((lo=hi∨C.size≤lo)→(Fp=jw∨C.size≤Fp))
theorem gS.trans {w w' w'':World}{b:Nat}(h:gS w w' b)(k:gS w' w'' b):gS w w'' b:=by
 rcases h with h | ⟨C,e,lo,hi,Fp,jw,h1,h2,h3⟩<;>rcases k with k | ⟨C',e',l1,i1,l2,i2,k1,k2,k3⟩
 ·exact .inl (k.trans h)
 ·exact .inr ⟨C',e',l1,i1,l2,i2,h ▸ k1,k2,k3⟩
 ·exact .inr ⟨C,e,lo,hi,Fp,jw,h1,k.trans h2,h3⟩
 ·rw [h2] at k1
  simp only [Uw,Obj.cells.injEq,UB] at k1
  obtain⟨rfl,rfl,rfl,rfl⟩:=k1
  exact .inr ⟨C,e,lo,hi,l2,i2,h1,k2,fun x=>k3 (h3 x)⟩
theorem gS.cell {w w':World}{b:Nat}(h:gS w w' b)(o:Nat):w'.cell? ⟨b,o,none⟩=w.cell? ⟨b,o,none⟩:=by
 rcases h with h | ⟨C,e,lo,hi,Fp,jw,h1,h2,_⟩
 ·simp only [World.cell?,h]
 ·simp only [World.cell?,h1,h2]
structure Ext (c:Cx)(Lo:Nat→Prop)(c':Cx)(ji:Nat→Prop):Prop where
 next:c.h.next≤c'.h.next
 live:∀id,id<c.h.next→Live c'.h id→Live c.h id∧c'.β id=c.β id∧c'.len (c.β id).1=c.len (c.β id).1
 size:c.w.heap.size≤c'.w.heap.size
 keep:∀b,b<c.w.heap.size→¬Lo b→(∀id,Live c.h id→(c.β id).1≠b)→gS c.w c'.w b
 exact:∀b,b<c.base→c'.w.heap[b]? = c.w.heap[b]?
 base:c'.base=c.base
 FG:∀id,Live c'.h id→c.w.heap.size≤(c'.β id).1∨∃oT,Live c.h oT∧(c.β oT).1=(c'.β id).1
 own:∀b,Lo b→ji b
 grow:∀b,ji b→Lo b∨c.w.heap.size≤b
 os:c'.w.os=c.w.os
 tape:c'.w.tape=c.w.tape
 output:c'.w.output=c.w.output
theorem Ext.refl (c:Cx)(Lo:Nat→Prop):Ext c Lo c Lo:=
 ⟨Uy _,fun _ _ h=>⟨h,rfl,rfl⟩,Uy _,fun _ _ _ _=>.inl rfl,fun _ _=>rfl,rfl,fun id h=>.inr ⟨id,h,rfl⟩,fun _ h=>h,fun _ h=>.inl h,rfl,rfl,rfl⟩
theorem Ext.trans {c c' Pz:Cx}{L L' PA:Nat→Prop}(h:Ext c L c' L')(k:Ext c' L' Pz PA):Ext c L Pz PA where
 next:=Vj h.next k.next
 live:=fun id hi hl=>by
  obtain⟨l1,b1,s1⟩:=k.live id (US hi h.next) hl
  obtain⟨l0,b0,s0⟩:=h.live id hi l1
  refine⟨l0,b1.trans b0,?_⟩
  rw [b0] at s1
  exact s1.trans s0
 size:=Vj h.size k.size
 keep:=fun b hb hL hi=>by
  have e1:=h.keep b hb hL hi
  refine e1.trans (k.keep b (US hb h.size) (fun Rk=>?_) (fun id hl he=>?_))
  ·rcases h.grow b Rk with h1 | h1
   ·exact hL h1
   ·omega
  ·rcases h.FG id hl with h1 | ⟨oT,h1,h2⟩
   ·omega
   ·exact hi oT h1 (h2.trans he)
 exact:=fun b hb=>(k.exact b (h.base ▸ hb)).trans (h.exact b hb)
 base:=k.base.trans h.base
 FG:=fun id hl=>by
  rcases k.FG id hl with h1 | ⟨Rl,h1,h2⟩
  ·exact .inl (Vj h.size h1)
  ·rcases h.FG Rl h1 with h3 | ⟨oT,h3,h4⟩
   ·exact .inl (h2 ▸ h3)
   ·exact .inr ⟨oT,h3,h4.trans h2⟩
 own:=fun b hb=>k.own b (h.own b hb)
 grow:=fun b hb=>by
  rcases k.grow b hb with h1 | h1
  ·exact h.grow b h1
  ·exact .inr (Vj h.size h1)
 os:=k.os.trans h.os
 tape:=k.tape.trans h.tape
 output:=k.output.trans h.output
def un (L0 Lo:Nat→Prop):Nat→Prop:=fun b=>L0 b∨Lo b
theorem ri {w w':World}{b:Nat}(h:w'.heap[b]? = w.heap[b]?)(o:Nat):w'.cell? ⟨b,o,none⟩=w.cell? ⟨b,o,none⟩:=by
 simp only [World.cell?,h]
theorem RO.ext {c c':Cx}{L0 Lo ji:Nat→Prop}{b:Nat}(h:RO c (un L0 Lo) b)(e:Ext c Lo c' ji)(hb:b<c.w.heap.size):RO c' (un L0 ji) b:=by
 refine⟨fun id hl he=>?_,fun hL=>?_⟩
 ·rcases e.FG id hl with h1 | ⟨oT,h1,h2⟩
  ·omega
  ·exact h.1 oT h1 (h2.trans he)
 ·rcases hL with h1 | h1
  ·exact h.2 (.inl h1)
  ·rcases e.grow b h1 with h2 | h2
   ·exact h.2 (.inr h2)
   ·omega
theorem Ext.cell {c c':Cx}{L0 Lo ji:Nat→Prop}{b:Nat}(e:Ext c Lo c' ji)(h:RO c (un L0 Lo) b)(hb:b<c.w.heap.size)(o:Nat):c'.w.cell? ⟨b,o,none⟩=c.w.cell? ⟨b,o,none⟩:=
 (e.keep b hb (fun h1=>h.2 (.inr h1)) h.1).cell o
theorem rj {c c':Cx}{Lo ji:Nat→Prop}(e:Ext c Lo c' ji){id:Nat}(hi:id<c.h.next):id<c'.h.next:=US hi e.next
theorem jx {c:Cx}{L:Nat→Prop}{x:AV}{cs:List AV}{b o:Nat}(h:Cells c L (x::cs) b o):b<c.w.heap.size:=by
 obtain⟨⟨v,hv,_⟩,_⟩:=h
 exact World.block_lt_of_cell? c.w ⟨b,o,none⟩ hv
mutual
theorem VR.ext {c c':Cx}{L0 Lo ji:Nat→Prop}(e:Ext c Lo c' ji):∀(x:AV) (v:Value),VR c (un L0 Lo) x v→VR c' (un L0 ji) x v
 | .any,_,_=>trivial
 | .bool _,_,h=>h
 | .int _ _,_,h=>h
 | .str _,_,h=>h
 | .nl,_,h=>h
 | .ptr id off,v,h=>by
  simp only [VR] at h ⊢
  obtain⟨hi,a,rfl,ha⟩:=h
  refine⟨rj e hi,a,rfl,fun hl=>?_⟩
  obtain⟨l0,b0,_⟩:=e.live id hi hl
  rw [b0]
  exact ha l0
 | .lp _ _,_,h=>h
 | .fp cs off,v,h=>by
  simp only [VR] at h ⊢
  obtain⟨b,o,rfl,hc⟩:=h
  refine⟨b,o,rfl,?_⟩
  rcases hc with hc | ⟨hr,hc⟩
  ·exact .inl hc
  ·cases cs with
   | nil=>exact .inl rfl
   | cons x xs=>exact .inr ⟨hr.ext e (jx hc),Cells.ext e (x::xs) b o hr (jx hc) hc⟩
 | .nils,_,h=>h
 | .fz cs n ex,v,h=>by
  simp only [VR] at h ⊢
  obtain⟨a,cap,rfl,h1,h2,hs,hc⟩:=h
  refine⟨a,cap,rfl,h1,h2,hs,?_⟩
  rcases hc with hc | ⟨b,o,ha,hr,hex,hc⟩
  ·exact .inl hc
  ·cases cs with
   | nil=>exact .inl rfl
   | cons x xs=>exact .inr ⟨b,o,ha,hr.ext e (jx hc),by rw [e.base]; exact hex,Cells.ext e (x::xs) b o hr (jx hc) hc⟩
 | .rs id off len ib,v,h=>by
  simp only [VR] at h ⊢
  rcases h with h | h
  ·exact .inl h
  obtain⟨hz,hi,a,cap,rfl,h1,h3,h2⟩:=h
  refine .inr ⟨hz,rj e hi,a,cap,rfl,h1,h3,fun hl=>?_⟩
  obtain⟨l0,b0,s0⟩:=e.live id hi hl
  rw [b0,s0]
  exact h2 l0
 | .lB,_,h=>h
 | .mp id,v,h=>by
  simp only [VR] at h ⊢
  obtain⟨hi,r,rfl,h2⟩:=h
  refine⟨rj e hi,r,rfl,fun hl=>?_⟩
  obtain⟨l0,b0,_⟩:=e.live id hi hl
  rw [b0]
  exact h2 l0
 | .fn f cap,v,h=>by
  simp only [VR] at h ⊢
  obtain⟨vs,rfl,h1⟩:=h
  exact⟨vs,rfl,VRs.ext e cap vs.toList h1⟩
 | .nM,_,h=>h
 | .agg cs,v,h=>by
  simp only [VR] at h ⊢
  obtain⟨vs,rfl,h1⟩:=h
  exact⟨vs,rfl,VRs.ext e cs vs.toList h1⟩
 | .tup cs,v,h=>by
  simp only [VR] at h ⊢
  obtain⟨vs,rfl,h1⟩:=h
  exact⟨vs,rfl,VRs.ext e cs vs.toList h1⟩
theorem VRs.ext {c c':Cx}{L0 Lo ji:Nat→Prop}(e:Ext c Lo c' ji):∀(xs:List AV) (vs:List Value),VRs c (un L0 Lo) xs vs→VRs c' (un L0 ji) xs vs
 | [],[],_=>trivial
 | x::xs,v::vs,h=>⟨VR.ext e x v h.1,VRs.ext e xs vs h.2⟩
 | [],_::_,h=>h
 | _::_,[],h=>h
theorem Cells.ext {c c':Cx}{L0 Lo ji:Nat→Prop}(e:Ext c Lo c' ji):∀(xs:List AV) (b o:Nat),RO c (un L0 Lo) b→b<c.w.heap.size→Cells c (un L0 Lo) xs b o→Cells c' (un L0 ji) xs b o
 | [],_,_,_,_,_=>trivial
 | x::xs,b,o,hr,hb,h=>by
  obtain⟨⟨v,hv,h1,hx⟩,hs⟩:=h
  exact⟨⟨v,(e.cell hr hb o).trans hv,h1,VR.ext e x v hx⟩,Cells.ext e xs b (o+1) hr hb hs⟩
end
theorem RO.jZ {c:Cx}{L L':Nat→Prop}(hL:∀b,L' b→L b){b:Nat}(h:RO c L b):RO c L' b:=⟨h.1,fun h1=>h.2 (hL b h1)⟩
mutual
theorem VR.jZ {c:Cx}{L L':Nat→Prop}(hL:∀b,L' b→L b):∀(x:AV) (v:Value),VR c L x v→VR c L' x v
 | .any,_,_=>trivial
 | .bool _,_,h=>h
 | .int _ _,_,h=>h
 | .str _,_,h=>h
 | .nl,_,h=>h
 | .ptr id off,v,h=>h
 | .lp _ _,_,h=>h
 | .fp cs off,v,h=>by
  simp only [VR] at h ⊢
  obtain⟨b,o,rfl,hc⟩:=h
  exact⟨b,o,rfl,hc.imp id fun ⟨hr,hc⟩=>⟨hr.jZ hL,Cells.jZ hL cs b o hc⟩⟩
 | .nils,_,h=>h
 | .fz cs n ex,v,h=>by
  simp only [VR] at h ⊢
  obtain⟨a,cap,rfl,h1,h2,hs,hc⟩:=h
  exact⟨a,cap,rfl,h1,h2,hs,hc.imp id fun ⟨b,o,ha,hr,hex,hc⟩=>⟨b,o,ha,hr.jZ hL,hex,Cells.jZ hL cs b o hc⟩⟩
 | .rs id off len ib,v,h=>h
 | .lB,_,h=>h
 | .mp id,v,h=>h
 | .fn f cap,v,h=>by
  simp only [VR] at h ⊢
  obtain⟨vs,rfl,h1⟩:=h
  exact⟨vs,rfl,VRs.jZ hL cap vs.toList h1⟩
 | .nM,_,h=>h
 | .agg cs,v,h=>by
  simp only [VR] at h ⊢
  obtain⟨vs,rfl,h1⟩:=h
  exact⟨vs,rfl,VRs.jZ hL cs vs.toList h1⟩
 | .tup cs,v,h=>by
  simp only [VR] at h ⊢
  obtain⟨vs,rfl,h1⟩:=h
  exact⟨vs,rfl,VRs.jZ hL cs vs.toList h1⟩
theorem VRs.jZ {c:Cx}{L L':Nat→Prop}(hL:∀b,L' b→L b):∀(xs:List AV) (vs:List Value),VRs c L xs vs→VRs c L' xs vs
 | [],[],_=>trivial
 | x::xs,v::vs,h=>⟨VR.jZ hL x v h.1,VRs.jZ hL xs vs h.2⟩
 | [],_::_,h=>h
 | _::_,[],h=>h
theorem Cells.jZ {c:Cx}{L L':Nat→Prop}(hL:∀b,L' b→L b):∀(xs:List AV) (b o:Nat),Cells c L xs b o→Cells c L' xs b o
 | [],_,_,_=>trivial
 | x::xs,b,o,h=>by
  obtain⟨⟨v,hv,h1,hx⟩,hs⟩:=h
  exact⟨⟨v,hv,h1,VR.jZ hL x v hx⟩,Cells.jZ hL xs b (o+1) hs⟩
end
theorem Bn {c:Cx}{L:Nat→Prop}{x:AV}{v:Value}(h:VR c L x v):VR c L (js x) v:=by
 cases x<;>try exact h
 simp only [VR] at h
 simp only [js,VR]
 exact⟨none,0,h,Uy _,fun _=>rfl,.inr ⟨trivial,rfl⟩,.inl trivial⟩
theorem rl {c:Cx}{L:Nat→Prop}:∀{xs:List AV} {vs:List Value},VRs c L xs vs→VRs c L (xs.map js) vs
 | [],[],_=>trivial
 | _::_,_::_,h=>⟨Bn h.1,rl h.2⟩
 | [],_::_,h=>h.elim
 | _::_,[],h=>h.elim
theorem Cells.move {c c':Cx}{L0 Lo ji:Nat→Prop}(e:Ext c Lo c' ji):∀(xs:List AV) (b o b' o':Nat),(∀i,i<xs.length→c'.w.cell? ⟨b',o'+i,none⟩=c.w.cell? ⟨b,o+i,none⟩)→Cells c (un L0 Lo) xs b o→Cells c' (un L0 ji) xs b' o'
 | [],_,_,_,_,_,_=>trivial
 | x::xs,b,o,b',o',hm,h=>by
  obtain⟨⟨v,hv,h1,hx⟩,hs⟩:=h
  refine⟨⟨v,(hm 0 (by simp)).trans hv,h1,VR.ext e x v hx⟩,Cells.move e xs b (o+1) b' (o'+1) (fun i hi=>?_) hs⟩
  have:=hm (i+1) (by simpa using hi)
  rwa [VM o' 1 i,VM o 1 i,Vq,Vq]
theorem VRs.length {c:Cx}{L:Nat→Prop}:∀{xs:List AV} {vs:List Value},VRs c L xs vs→xs.length=vs.length
 | [],[],_=>rfl
 | _::_,_::_,h=>by simp [VRs.length h.2]
 | [],_::_,h=>h.elim
 | _::_,[],h=>h.elim
theorem VRs.get {c:Cx}{L:Nat→Prop}:∀{xs:List AV} {vs:List Value},VRs c L xs vs→∀(i:Nat) (x:AV),xs[i]? = some x→∃v,vs[i]? = some v∧VR c L x v
 | [],[],_,i,x,hx=>by simp at hx
 | y::ys,u::us,h,i,x,hx=>by
  cases i with
  | zero=>simp at hx; subst hx; exact⟨u,rfl,h.1⟩
  | succ i=>simpa using VRs.get h.2 i x (by simpa using hx)
 | [],_::_,h,_,_,_=>h.elim
 | _::_,[],h,_,_,_=>h.elim
theorem VRs.append {c:Cx}{L:Nat→Prop}:∀{xs ys:List AV} {vs us:List Value},VRs c L xs vs→VRs c L ys us→VRs c L (xs++ys) (vs++us)
 | [],_,[],_,_,h=>h
 | _::_,_,_::_,_,h,k=>⟨h.1,VRs.append h.2 k⟩
 | [],_,_::_,_,h,_=>h.elim
 | _::_,_,[],_,h,_=>h.elim
theorem VRs.drop {c:Cx}{L:Nat→Prop}:∀(n:Nat) {xs:List AV} {vs:List Value},VRs c L xs vs→VRs c L (xs.drop n) (vs.drop n)
 | 0,_,_,h=>h
 | _+1,[],[],h=>h
 | n+1,_::_,_::_,h=>VRs.drop n h.2
 | _+1,[],_::_,h=>h.elim
 | _+1,_::_,[],h=>h.elim
theorem VRs.take {c:Cx}{L:Nat→Prop}:∀(n:Nat) {xs:List AV} {vs:List Value},VRs c L xs vs→VRs c L (xs.take n) (vs.take n)
 | 0,_,_,_=>by simp [VRs]
 | _+1,[],[],h=>h
 | n+1,_::_,_::_,h=>⟨h.1,VRs.take n h.2⟩
 | _+1,[],_::_,h=>h.elim
 | _+1,_::_,[],h=>h.elim
theorem VRs.set {c:Cx}{L:Nat→Prop}{x:AV}{v:Value}(hx:VR c L x v):∀(n:Nat) {xs:List AV} {vs:List Value},VRs c L xs vs→VRs c L (xs.set n x) (vs.set n v)
 | _,[],[],h=>h
 | 0,_::_,_::_,h=>⟨hx,h.2⟩
 | n+1,_::_,_::_,h=>⟨h.1,VRs.set hx n h.2⟩
 | _,[],_::_,h=>h.elim
 | _,_::_,[],h=>h.elim
theorem Cells.vals {c:Cx}{L:Nat→Prop}:∀{xs:List AV} {b o:Nat},Cells c L xs b o→∃vs:List Value,VRs c L xs vs∧(∀i,i<xs.length→c.w.cell? ⟨b,o+i,none⟩=vs[i]?)∧∀v∈vs,v.oneCell'=true
 | [],_,_,_=>⟨[],trivial,fun i hi=>by simp at hi,fun _ h=>by cases h⟩
 | x::xs,b,o,h=>by
  obtain⟨⟨v,hv,h0,hx⟩,hs⟩:=h
  obtain⟨vs,h1,h2,h3⟩:=Cells.vals hs
  refine⟨v::vs,⟨hx,h1⟩,fun i hi=>?_,fun u hu=>?_⟩
  ·cases i with
   | zero=>exact hv
   | succ i=>
    have:=h2 i (by simpa using hi)
    rw [VM,Vq] at this
    simpa using this
  ·rcases UT.1 hu with rfl | hu
   ·exact h0
   ·exact h3 u hu
theorem Cells.of_vals {c:Cx}{L:Nat→Prop}:∀{xs:List AV} {vs:List Value} {b o:Nat},VRs c L xs vs→(∀i,i<vs.length→c.w.cell? ⟨b,o+i,none⟩=vs[i]?)→(∀v∈vs,v.oneCell'=true)→Cells c L xs b o
 | [],[],_,_,_,_,_=>trivial
 | x::xs,v::vs,b,o,h,hc,h1=>by
  refine⟨⟨v,hc 0 (by simp),h1 v (by simp),h.1⟩,Cells.of_vals h.2 (fun i hi=>?_) (fun u hu=>h1 u (by simp [hu]))⟩
  have:=hc (i+1) (by simpa using hi)
  rw [VM,Vq]
  simpa using this
 | [],_::_,_,_,h,_,_=>h.elim
 | _::_,[],_,_,h,_,_=>h.elim
theorem Cells.get' {c:Cx}{L:Nat→Prop}{xs:List AV}{b o:Nat}(h:Cells c L xs b o)(i:Nat)(x:AV)(hx:xs[i]? = some x):∃v,c.w.cell? ⟨b,o+i,none⟩=some v∧v.oneCell'=true∧VR c L x v:=by
 obtain⟨vs,h1,h2,h3⟩:=h.vals
 obtain⟨v,hv,hr⟩:=VRs.get h1 i x hx
 exact⟨v,(h2 i (UA.1 hx).1).trans hv,h3 v (UM hv),hr⟩
theorem Cells.get {c:Cx}{L:Nat→Prop}{xs:List AV}{b o:Nat}(h:Cells c L xs b o)(i:Nat)(x:AV)(hx:xs[i]? = some x):∃v,c.w.cell? ⟨b,o+i,none⟩=some v∧VR c L x v:=by
 obtain⟨v,h1,_,h2⟩:=h.get' i x hx
 exact⟨v,h1,h2⟩
end Go.R
namespace Go.R
open Go
def ko (c:Cx)(L:Nat→Prop):List (AV × AV)→List MapEntry→Prop
 | [],[]=>True
 | (k,v)::es,m::ms=>(VR c L k m.key∧k.xV.isSome=true)∧VR c L v m.val∧ko c L es ms
 | _,_=>False
def Plain (c:Cx)(b:Nat)(n:Nat):Prop:=∃(C:Array Value) (e lo hi:Nat),c.w.heap[b]? = some (.cells C e (lo,hi))∧(lo=hi∨C.size≤lo)∧C.size=n
def hZ (c:Cx)(b:Nat)(n:Nat):Prop:=∃(C:Array Value) (e:TypeId),c.w.heap[b]? = some (.cells C e (0,0))∧C.size=n
theorem hZ.jR {c:Cx}{b n:Nat}(h:hZ c b n):Plain c b n:=by
 obtain⟨C,e,h1,h2⟩:=h
 exact⟨C,e,0,0,h1,.inl rfl,h2⟩
theorem hZ.of_heap {c c':Cx}{b n:Nat}(h:hZ c b n)(he:c'.w.heap[b]? = c.w.heap[b]?):hZ c' b n:=by
 obtain⟨C,e,h1,h2⟩:=h
 exact⟨C,e,he.trans h1,h2⟩
theorem hZ.lt {c:Cx}{b n:Nat}(h:hZ c b n):b<c.w.heap.size:=by
 obtain⟨C,e,h1,_⟩:=h
 exact (U1.1 h1).1
def nQ (c:Cx)(L:Nat→Prop)(b base:Nat):AObj→Prop
 | .cells cs=>∃n,hZ c b n∧base+cs.length≤n∧Cells c L cs b base
 | .row e cs=>base=0∧∃C:Array Value,c.w.heap[b]? = some (.cells C e (0,0))∧cs.length≤C.size∧C.size≤maxLen∧Cells c L cs b 0
 | .map es=>∃kp clock,c.w.heap[b]? = some (.map kp clock)∧ko c L es kp.toList
structure HRel (c:Cx)(L:Nat→Prop):Prop where
 lt:∀id o,c.h.get id=some o→id<c.h.next
 obj:∀id o,c.h.get id=some o→nQ c L (c.β id).1 (c.β id).2 o
 inj:∀id j5,Live c.h id→Live c.h j5→(c.β id).1=(c.β j5).1→id=j5
 out:∀id,Live c.h id→¬L (c.β id).1
 bd:∀b,L b→b<c.w.heap.size
 low:∀id,Live c.h id→c.base≤(c.β id).1
 ver:∀id,c.h.ver id<c.h.next
structure LQ (c:Cx)(L0 Lo:Nat→Prop)(lam:Nat→Nat)(k:Nat)(cs:List AV):Prop where
 own:Lo (lam k)
 plain:Plain c (lam k) cs.length
 cells:Cells c (un L0 Lo) cs (lam k) 0
def SR (c:Cx)(L0 Lo:Nat→Prop)(lam:Nat→Nat)(bx:Nat→Option (List AV))(x:AV)(v:Value):Prop:=
 match x with
 | .lp k off=>v = .pointer (some ⟨lam k,off,none⟩)∧(bx k).isSome=true
 | x=>VR c (un L0 Lo) x v
structure Fr (L0:Nat→Prop)(c:Cx)(Lo:Nat→Prop)(lam:Nat→Nat)(ds:List Nat)(s:RS)(a:Act):Prop where
 h:c.h=s.h
 rel:HRel c (un L0 Lo)
 slot:∀t,SR c L0 Lo lam s.bx (s.ρ t) (a.tmps.getD t undef)
 box:∀k cs,s.bx k=some cs→LQ c L0 Lo lam k cs
 inj:∀k k',(s.bx k).isSome=true→(s.bx k').isSome=true→lam k=lam k'→k=k'
 tidy:∀t k off,t∉ds→s.ρ t = .lp k off→k=t
 defers:a.defers=[]
 CO:∀b,Lo b→c.base≤b
def none0:Nat→Prop:=fun _=>False
def Inv (L0:Nat→Prop)(c0:Cx)(n:Nat)(ds:List Nat)(s:RS)(a:Act)(w:World):Prop:=
 a.tmps.size=n∧∃c Lo lam,c.w=w∧Fr L0 c Lo lam ds s a∧Ext c0 none0 c Lo
theorem SR.vr {c:Cx}{L0 Lo:Nat→Prop}{lam:Nat→Nat}{bx:Nat→Option (List AV)}{x:AV}{v:Value}(h:SR c L0 Lo lam bx x v)(hx:∀k off,x≠.lp k off):VR c (un L0 Lo) x v:=by
 unfold SR at h
 split at h
 ·exact absurd rfl (hx _ _)
 ·exact h
theorem SR.of {c:Cx}{L0 Lo:Nat→Prop}{lam:Nat→Nat}{bx:Nat→Option (List AV)}{x:AV}{v:Value}(h:VR c (un L0 Lo) x v):SR c L0 Lo lam bx x v:=by
 unfold SR
 split
 ·exact h.elim
 ·exact h
theorem mG {c:Cx}{L:Nat→Prop}{v:Value}{x:AV}(h:nN v=some x):VR c L x v:=by
 unfold nN at h
 split at h<;>first | (cases h; done) | (cases h; simp [VR])
theorem vL {c:Cx}{L:Nat→Prop}:∀{vs:List Value} {xs:List AV},pI vs=some xs→VRs c L xs vs
 | [],xs,h=>by simp [pI] at h; subst h; trivial
 | v::vs,xs,h=>by
  simp only [pI,Ut] at h
  obtain⟨x,hx,ys,hy,he⟩:=h
  cases he
  exact⟨mG hx,vL hy⟩
theorem kQ {c:Cx}{L:Nat→Prop}{v:Value}{x:AV}(h:CL v=some x):VR c L x v:=by
 unfold CL at h
 split at h
 ·rename_i cs
  rw [Uv] at h
  obtain⟨xs,hx,rfl⟩:=h
  simp only [VR]
  exact⟨cs,rfl,vL hx⟩
 ·exact mG h
theorem kq {c:Cx}{L:Nat→Prop}{x:AV}{u v:Value}(h:x.fV=some u)(hx:VR c L x v):v=u:=by
 unfold AV.fV at h
 split at h<;>first | (cases h; done) | (cases h; simpa [VR] using hx)
theorem kr {x:AV}{u:Value}(h:x.fV=some u):∀k off,x≠.lp k off:=by
 rintro k off rfl
 simp [AV.fV] at h
theorem oY {c:Cx}{L:Nat→Prop}:∀{xs:List AV} {us vs:List Value},iK xs=some us→VRs c L xs vs→vs=us
 | [],us,[],h,_=>by simp [iK] at h; exact h.symm
 | x::xs,us,v::vs,h,hx=>by
  simp only [iK,Ut] at h
  obtain⟨u,h1,ws,h2,he⟩:=h
  cases he
  rw [kq h1 hx.1,oY h2 hx.2]
 | [],_,_::_,_,h=>h.elim
 | _::_,_,[],_,h=>h.elim
theorem uu {c:Cx}{L:Nat→Prop}{x:AV}{u v:Value}(h:x.xV=some u)(hx:VR c L x v):v=u:=by
 unfold AV.xV at h
 split at h
 ·rw [Uv] at h
  obtain⟨vs,h1,rfl⟩:=h
  simp only [VR] at hx
  obtain⟨ws,rfl,h2⟩:=hx
  rw [←oY h1 h2]
 ·exact kq h hx
theorem jS {α:Type}{P:Program}{e:Sem α}{r:α}(w:World):iq P e=some r→e.run P w = .ok r w:=by
 induction e with
 | pure a=>intro h; simp [iq] at h; subst h; rfl
 | program k ih=>intro h; exact ih P (by simpa [iq] using h)
 | _=>intro h; simp [iq] at h
theorem bA {L0:Nat→Prop}{c:Cx}{Lo:Nat→Prop}{lam:Nat→Nat}{ds:List Nat}{s:RS}{a:Act}(f:Fr L0 c Lo lam ds s a)(x:Operand):SR c L0 Lo lam s.bx (bJ s.ρ x) (a.eval x):=by
 cases x with
 | tmp t=>exact f.slot t
 | const v=>
  refine SR.of ?_
  simp only [bJ,Act.eval]
  cases h:CL v with
  | none=>simp [VR]
  | some x=>simpa using kQ h
 | global g=>exact SR.of (by simp [bJ,VR])
 | func f=>exact SR.of (by simp only [bJ,VR,Act.eval]; exact⟨#[],rfl,by simp [VRs]⟩)
def iV (P:Program)(L0:Nat→Prop)(c0:Cx)(n:Nat)(ds:List Nat)(o:Oper)(s s':RS):Prop:=
 ∀a w (K:Act→World→Prop) (Q:Exit→Act→World→Prop),Inv L0 c0 n ds s a w→(∀a' w',Inv L0 c0 n ds s' a' w'→K a' w')→o.wp P a w K Q
theorem fX (a:Act)(d:Option Nat)(v:Value):(a.put d v).tmps.size=a.tmps.size:=by cases d<;>simp [Act.put]
theorem CP (a:Act)(d t:Nat)(v:Value)(hd:d<a.tmps.size):(a.put (some d) v).tmps.getD t undef=if t=d then v else a.tmps.getD t undef:=by
 simp only [Act.put,Array.getD_eq_getD_getElem?,Vr]
 by_cases h:d=t
 ·subst h; simp [hd]
 ·simp [h,Ne.symm h]
theorem ti (s:RS)(d t:Nat)(x:AV):(s.set (some d) x).ρ t=if t=d then x else s.ρ t:=by
 simp only [RS.set,beq_nat]
 by_cases h:t=d<;>simp [h]
theorem Fr.set {L0:Nat→Prop}{c:Cx}{Lo:Nat→Prop}{lam:Nat→Nat}{ds:List Nat}{s:RS}{a:Act}(f:Fr L0 c Lo lam ds s a){d:Option Nat}{x:AV}{v:Value}(hx:SR c L0 Lo lam s.bx x v)
  (hd:∀t,d=some t→t<a.tmps.size∧t∈ds):Fr L0 c Lo lam ds (s.set d x) (a.put d v):=by
 cases d with
 | none=>exact f
 | some d=>
  obtain⟨h1,h2⟩:=hd d rfl
  refine⟨f.h,f.rel,fun t=>?_,f.box,f.inj,fun t k off ht he=>?_,f.defers,f.CO⟩
  ·rw [CP _ _ _ _ h1,ti]
   by_cases h:t=d
   ·simp only [h,if_true]; exact hx
   ·simp only [h,if_false]; exact f.slot t
  ·rw [ti] at he
   by_cases h:t=d
   ·subst h; exact absurd h2 ht
   ·rw [if_neg h] at he; exact f.tidy t k off ht he
section
variable {P:Program}{L0:Nat→Prop}{c0:Cx}{n:Nat}{ds:List Nat}{o:Oper}{s:RS}
def fY (n:Nat)(ds:List Nat)(o:Oper):Prop:=∀t,o.dst=some t→t<n∧t∈ds
theorem fq (hd:fY n ds o){x:AV}
  (h:∀a c Lo lam,Fr L0 c Lo lam ds s a→a.tmps.size=n→∃v,(execOp a.eval o).run P c.w = .ok (.value v) c.w∧SR c L0 Lo lam s.bx x v):iV P L0 c0 n ds o s (s.set o.dst x):=by
 rintro a w K Q ⟨hn,c,Lo,lam,rfl,f,e⟩ hK
 obtain⟨v,hr,hv⟩:=h a c Lo lam f hn
 unfold Oper.wp
 rw [hr,Oper.upon_value]
 exact hK _ _ ⟨(fX _ _ _).trans hn,c,Lo,lam,rfl,f.set hv (fun t ht=>hn ▸ hd t ht),e⟩
end
theorem SR.ext {c c':Cx}{L0 Lo ji:Nat→Prop}{lam qd:Nat→Nat}{bx PB:Nat→Option (List AV)}{x:AV}{v:Value}(h:SR c L0 Lo lam bx x v)(e:Ext c Lo c' ji)
  (hl:∀k off,x = .lp k off→qd k=lam k∧((bx k).isSome=true→(PB k).isSome=true)):SR c' L0 ji qd PB x v:=by
 unfold SR at h ⊢
 split
 ·rename_i k off
  obtain⟨h1,h2⟩:=h
  obtain⟨h3,h4⟩:=hl k off rfl
  rw [h3]
  exact⟨h1,h4 h2⟩
 ·rename_i hne
  split at h
  ·exact absurd rfl (hne _ _)
  ·exact VR.ext e _ _ h
theorem Plain.of_heap {c c':Cx}{b n:Nat}(h:Plain c b n)(he:gS c.w c'.w b):Plain c' b n:=by
 obtain⟨C,e,lo,hi,h1,h2,h3⟩:=h
 rcases he with he | ⟨C',e',l1,i1,l2,i2,k1,k2,k3⟩
 ·exact⟨C,e,lo,hi,he.trans h1,h2,h3⟩
 ·rw [h1] at k1
  simp only [Uw,Obj.cells.injEq,UB] at k1
  obtain⟨rfl,rfl,rfl,rfl⟩:=k1
  exact⟨C,e,l2,i2,k2,k3 h2,h3⟩
theorem Plain.lt {c:Cx}{b n:Nat}(h:Plain c b n):b<c.w.heap.size:=by
 obtain⟨C,e,lo,hi,h1,_⟩:=h
 exact (U1.1 h1).1
theorem ko.ext {c c':Cx}{L0 Lo ji:Nat→Prop}(e:Ext c Lo c' ji):∀{es:List (AV × AV)} {ms:List MapEntry},ko c (un L0 Lo) es ms→ko c' (un L0 ji) es ms
 | [],[],_=>trivial
 | (k,v)::es,m::ms,h=>⟨⟨VR.ext e _ _ h.1.1,h.1.2⟩,VR.ext e _ _ h.2.1,ko.ext e h.2.2⟩
 | [],_::_,h=>h.elim
 | _::_,[],h=>h.elim
theorem nQ.ext {c c':Cx}{L0 Lo ji:Nat→Prop}(e:Ext c Lo c' ji){b base:Nat}{o:AObj}(h:nQ c (un L0 Lo) b base o)(he:c'.w.heap[b]? = c.w.heap[b]?):nQ c' (un L0 ji) b base o:=by
 cases o with
 | cells cs=>
  obtain⟨n,h1,h2,h3⟩:=h
  exact⟨n,h1.of_heap he,h2,Cells.move e cs b base b base (fun i _=>ri he _) h3⟩
 | row t cs=>
  obtain⟨h0,C,h1,h2,h4,h3⟩:=h
  exact⟨h0,C,he.trans h1,h2,h4,Cells.move e cs b 0 b 0 (fun i _=>ri he _) h3⟩
 | map es=>
  obtain⟨kp,clock,h1,h2⟩:=h
  exact⟨kp,clock,he.trans h1,h2.ext e⟩
theorem LQ.ext {c c':Cx}{L0 Lo ji:Nat→Prop}{lam:Nat→Nat}(e:Ext c Lo c' ji){k:Nat}{cs:List AV}(h:LQ c L0 Lo lam k cs)(he:gS c.w c'.w (lam k)):LQ c' L0 ji lam k cs:=
 ⟨e.own _ h.own,h.plain.of_heap he,Cells.move e cs (lam k) 0 (lam k) 0 (fun i _=>he.cell _) h.cells⟩
end Go.R
namespace Go.R
open Go
theorem addr_add (b o i:Nat):(⟨b,o,none⟩:Addr).add i=⟨b,o+i,none⟩:=by
 unfold Addr.add
 split<;>simp_all
section
variable {P:Program}{L0:Nat→Prop}{c0:Cx}{n:Nat}{ds:List Nat}{o:Oper}{s:RS}
theorem bn {t:TypeId}{d:TypeDesc}(h:P.underlying t=some d)(w:World):(underlying t).run P w = .ok d w:=run_underlying h w
theorem dz {t:TypeId}{m:Nat}(h:eO P t=some m)(w:World):(sizeOf t).run P w = .ok m w:=by
 unfold eO at h
 rw [Uv] at h
 obtain⟨i,hi,rfl⟩:=h
 simp [sizeOf,typeInfo,hi]
theorem zl {t:TypeId}{b:Bool}(h:fJ P t=some b)(w:World):(isAgg t).run P w = .ok b w:=by
 unfold fJ at h
 rw [Uv] at h
 obtain⟨d,hd,rfl⟩:=h
 simp only [isAgg,Sem.run_bind,bn hd,Result.andThen_ok]
 cases d<;>rfl
theorem yh {c:Cx}{L:Nat→Prop}{xs:List AV}{b off:Nat}(h:Cells c L xs b off):∃vs:List Value,(loadCells ⟨b,off,none⟩ xs.length).run P c.w = .ok vs.toArray c.w∧VRs c L xs vs:=by
 obtain⟨vs,h1,h2,_⟩:=h.vals
 refine⟨vs,?_,h1⟩
 have:=run_loadCells_list (P:=P) (w:=c.w) ⟨b,off,none⟩ vs (fun j v hj=>by
  rw [addr_add,h2 j (by rw [h1.length]; exact (UA.1 hj).1)]; exact hj)
 rwa [←h1.length] at this
theorem Cells.drop {c:Cx}{L:Nat→Prop}:∀(m:Nat) {xs:List AV} {b off:Nat},Cells c L xs b off→Cells c L (xs.drop m) b (off+m)
 | 0,_,_,_,h=>h
 | m+1,[],_,_,_=>by simp [Cells]
 | m+1,x::xs,b,off,h=>by
  have:=Cells.drop m h.2
  rw [VM,Vq] at this
  simpa using this
theorem Cells.take {c:Cx}{L:Nat→Prop}:∀(m:Nat) {xs:List AV} {b off:Nat},Cells c L xs b off→Cells c L (xs.take m) b off
 | 0,_,_,_,_=>by simp [Cells]
 | m+1,[],_,_,h=>by simpa using h
 | m+1,x::xs,b,off,h=>⟨h.1,Cells.take m h.2⟩
theorem nq {c:Cx}{L:Nat→Prop}{t:TypeId}{cs:List AV}{b base off:Nat}{x:AV}(h:iL P t cs off=some x)(hc:Cells c L cs b base) :
  ∃v,(loadVar t ⟨b,base+off,none⟩).run P c.w = .ok v c.w∧VR c L x v:=by
 unfold iL at h
 rw [Ut] at h
 obtain⟨ag,Mp,h⟩:=h
 simp only [loadVar,Sem.run_bind,zl Mp,Result.andThen_ok]
 cases ag with
 | true=>
  simp only [if_true,Ut] at h
  obtain⟨m,hm,h⟩:=h
  split at h
  ·rename_i hle
   cases h
   have hc2:=(hc.drop off).take m
   obtain⟨vs,hr,hv⟩:=yh (P:=P) hc2
   rw [show ((cs.drop off).take m).length=m by simp; omega] at hr
   refine⟨.agg vs.toArray,by simp [dz hm,hr],?_⟩
   simp only [VR]
   exact⟨vs.toArray,rfl,by simpa using hv⟩
  ·cases h
 | false=>
  simp only [UE,if_false] at h
  obtain⟨v,hv,hx⟩:=hc.get off x h
  exact⟨v,by simp [hv],hx⟩
theorem vM {c:Cx}{Lo:Nat→Prop}{lam:Nat→Nat}{bx:Nat→Option (List AV)}{x y:AV}{m:Nat}{v:Value}(h:x.shift m=some y)(hx:SR c L0 Lo lam bx x v) :
  ∃ad,v = .pointer (some ad)∧SR c L0 Lo lam bx y (.pointer (some (ad.add m))):=by
 cases x<;>simp only [AV.shift] at h<;>cases h
 ·rename_i id off
  simp only [SR,VR] at hx ⊢
  obtain⟨hi,ad,rfl,ha⟩:=hx
  exact⟨ad,rfl,hi,_,rfl,fun hl=>by rw [ha hl,addr_add,Vq]⟩
 ·rename_i k off
  simp only [SR] at hx ⊢
  obtain⟨rfl,hb⟩:=hx
  exact⟨_,rfl,by rw [addr_add],hb⟩
 ·rename_i cs off
  simp only [SR,VR] at hx ⊢
  obtain⟨b,o',rfl,hc⟩:=hx
  exact⟨_,rfl,b,o',by rw [addr_add,Vq],hc⟩
theorem rm {c:Cx}{Lo:Nat→Prop}{lam:Nat→Nat}{a:Act}(f:Fr L0 c Lo lam ds s a){t:TypeId}{x y:AV}{v:Value}(hx:SR c L0 Lo lam s.bx x v)
  (h:jt P s.bx s.h t x=some y):∃u,(Instr.loadAt t v).run P c.w = .ok u c.w∧VR c (un L0 Lo) y u:=by
 unfold jt at h
 cases x<;>simp only at h<;>try (cases h; done)
 ·rename_i id off
  rw [Ut] at h
  obtain⟨ob,ho,h⟩:=h
  cases ob with
  | map es=>cases h
  | row t cs=>cases h
  | cells cs=>
   simp only [SR,VR] at hx
   obtain⟨hi,ad,rfl,ha⟩:=hx
   rw [←f.h] at ho
   have hl:Live c.h id:=⟨f.rel.lt _ _ ho,by simp [ho]⟩
   obtain⟨m,h1,h2,h3⟩:=f.rel.obj _ _ ho
   obtain⟨u,hr,hu⟩:=nq (P:=P) h h3
   exact⟨u,by simp [Instr.loadAt,Instr.sureAddr,ha hl,hr],hu⟩
 ·rename_i k off
  rw [Ut] at h
  obtain⟨cs,hb,h⟩:=h
  simp only [SR] at hx
  obtain⟨rfl,_⟩:=hx
  have hw:=f.box k cs hb
  obtain⟨u,hr,hu⟩:=nq (P:=P) h hw.cells
  rw [UR] at hr
  exact⟨u,by simp [Instr.loadAt,Instr.sureAddr,hr],hu⟩
 ·rename_i cs off
  split at h
  ·cases h
  ·rename_i hne
   simp only [SR,VR] at hx
   obtain⟨b,o',rfl,hc⟩:=hx
   rcases hc with hc | ⟨_,hc⟩
   ·subst hc; simp at hne
   ·obtain⟨u,hr,hu⟩:=nq (P:=P) h hc
    exact⟨u,by simp [Instr.loadAt,Instr.sureAddr,hr],hu⟩
theorem vN {c:Cx}{Lo:Nat→Prop}{lam:Nat→Nat}{bx:Nat→Option (List AV)}{t:TypeId}{x i y:AV}{v u:Value}(hx:SR c L0 Lo lam bx x v)(hi:SR c L0 Lo lam bx i u)
  (h:eD P t x i=some y):∃r,(Instr.indexAt t v u).run P c.w = .ok r c.w∧SR c L0 Lo lam bx y r:=by
 unfold eD at h
 split at h<;>try (cases h; done)
 rename_i k i
 simp only [SR,VR] at hi
 subst hi
 rw [Ut] at h
 obtain⟨d,hd,h⟩:=h
 split at h<;>try (cases h; done)
 ·rename_i len e
  rw [Ut] at h
  obtain⟨m,hm,h⟩:=h
  split at h
  ·rename_i hin
   obtain⟨ad,rfl,hy⟩:=vM h hx
   exact⟨_,by simp [Instr.indexAt,asIntOf,bn hd,Instr.sureAddr,hin,dz hm],hy⟩
  ·cases h
 ·rename_i e
  rw [Ut] at h
  obtain⟨m,hm,h⟩:=h
  split at h<;>try (cases h; done)
  ·rename_i cs len ex
   split at h
   ·rename_i hin
    obtain⟨h1,h2,h3⟩:=hin
    cases h
    simp only [SR,VR] at hx ⊢
    obtain⟨a,cap,rfl,h4,h5,_,hc⟩:=hx
    rcases hc with hc | ⟨b,o',rfl,hr,hex,hc⟩
    ·subst hc; simp at h3
    ·refine⟨.pointer (some ((⟨b,o',none⟩:Addr).add (i.toNat*m))),by simp [Instr.indexAt,asIntOf,bn hd,h1,h2,dz hm],b,o',?_,.inr ⟨hr,hc⟩⟩
     rw [addr_add]
   ·cases h
  ·rename_i id off len ib
   split at h
   ·rename_i hin
    obtain⟨h0,h1,h2⟩:=hin
    cases h
    simp only [SR,VR] at hx ⊢
    rcases hx with⟨_,_,hz,_⟩| hx
    ·subst hz; omega
    obtain⟨_,hid,a,cap,rfl,h4,hs,h5⟩:=hx
    cases a with
    | none=>simp at hs
    | some a=>
     refine⟨.pointer (some (a.add (i.toNat*m))),by simp [Instr.indexAt,asIntOf,bn hd,h1,h2,dz hm],hid,_,rfl,fun hl=>?_⟩
     rcases h5 hl with h6 | h6
     ·obtain⟨h6,_⟩:=h6
      cases h6
      rw [addr_add,Vq]
     ·subst h6; omega
   ·cases h
end
end Go.R
namespace Go.R
open Go
section
variable {P:Program}{L0:Nat→Prop}{c0:Cx}{n:Nat}{ds:List Nat}{o:Oper}{s:RS}
theorem tj {c:Cx}{L:Nat→Prop}{t:TypeId}{cs:List AV}{vs:Array Value}{off:Nat}{x:AV}(hv:VRs c L cs vs.toList)(h:zk P t cs off=some x) :
  ∃v,(part t vs off).run P c.w = .ok v c.w∧VR c L x v:=by
 unfold zk iL at h
 rw [Ut] at h
 obtain⟨ag,Mp,h⟩:=h
 simp only [part,Sem.run_bind,zl Mp,Result.andThen_ok]
 cases ag with
 | true=>
  simp only [if_true,Ut] at h
  obtain⟨m,hm,h⟩:=h
  split at h
  ·rename_i hle
   cases h
   refine⟨.agg (vs.extract off (off+m)),by simp [dz hm],?_⟩
   simp only [VR]
   refine⟨_,rfl,?_⟩
   rw [Array.toList_extract,List.extract_eq_take_drop,VJ]
   exact (hv.drop off).take m
  ·cases h
 | false=>
  simp only [UE,if_false] at h
  obtain⟨v,HJ,hx⟩:=hv.get off x h
  have Mq:vs[off]? = some v:=by rw [←Array.getElem?_toList]; exact HJ
  exact⟨v,by simp [Mq],hx⟩
theorem yi {c:Cx}{Lo:Nat→Prop}{lam:Nat→Nat}{bx:Nat→Option (List AV)}{t:TypeId}{x y:AV}{v:Value}{i:Nat}(hx:SR c L0 Lo lam bx x v)(h:xY P t x i=some y) :
  ∃r,(Instr.field t v i).run P c.w = .ok r c.w∧VR c (un L0 Lo) y r:=by
 unfold xY at h
 split at h<;>try (cases h; done)
 rename_i cs
 simp only [SR,VR] at hx
 obtain⟨vs,rfl,hv⟩:=hx
 rw [Ut] at h
 obtain⟨d,hd,h⟩:=h
 split at h<;>try (cases h; done)
 rename_i fs
 rw [Ut] at h
 obtain⟨fd,hf,h⟩:=h
 obtain⟨r,hr,hy⟩:=tj hv h
 exact⟨r,by simp [Instr.field,bn hd,hf,asAgg,hr],hy⟩
theorem vO {c:Cx}{Lo:Nat→Prop}{lam:Nat→Nat}{bx:Nat→Option (List AV)}{t:TypeId}{x y:AV}{v:Value}{i:Nat}(hx:SR c L0 Lo lam bx x v)(h:nn P t x i=some y) :
  ∃r,(Instr.fieldAt t v i).run P c.w = .ok r c.w∧SR c L0 Lo lam bx y r:=by
 unfold nn at h
 rw [Ut] at h
 obtain⟨d,hd,h⟩:=h
 split at h<;>try (cases h; done)
 rename_i fs
 simp only [Ut] at h
 obtain⟨fd,hf,m,hm,h⟩:=h
 split at h
 ·cases h
 ·rename_i rq
  obtain⟨ad,rfl,hy⟩:=vM h hx
  exact⟨_,by simp [Instr.fieldAt,bn hd,hf,Instr.sureAddr,fieldPlace,dz hm,rq],hy⟩
theorem yj {c:Cx}{Lo:Nat→Prop}{lam:Nat→Nat}{bx:Nat→Option (List AV)}{t:TypeId}{x i y:AV}{v u:Value}(hx:SR c L0 Lo lam bx x v)(hi:SR c L0 Lo lam bx i u)(h:oV P t x i=some y) :
  ∃r,(Instr.index t v u).run P c.w = .ok r c.w∧VR c (un L0 Lo) y r:=by
 unfold oV at h
 split at h<;>try (cases h; done)
 rename_i k i
 simp only [SR,VR] at hi
 subst hi
 rw [Ut] at h
 obtain⟨d,hd,h⟩:=h
 split at h<;>try (cases h; done)
 ·rename_i len e
  split at h<;>try (cases h; done)
  rename_i cs
  simp only [SR,VR] at hx
  obtain⟨vs,rfl,hv⟩:=hx
  rw [Ut] at h
  obtain⟨m,hm,h⟩:=h
  split at h
  ·rename_i hin
   obtain⟨r,hr,hy⟩:=tj hv h
   exact⟨r,by simp [Instr.index,asIntOf,bn hd,hin,dz hm,hr],hy⟩
  ·cases h
 ·split at h<;>try (cases h; done)
  rename_i st
  simp only [SR,VR] at hx
  subst hx
  split at h
  ·rename_i h0
   rw [Uv] at h
   obtain⟨b,hb,rfl⟩:=h
   have hb2:st[i.toNat]? = some b:=by
    have hl:i.toNat<st.data.toList.length:=(UA.1 hb).1
    have HK:i.toNat<st.size:=by simpa using hl
    rw [getElem?_pos st i.toNat HK]
    have:=(UA.1 hb).2
    rw [←this]
    rfl
   exact⟨.int .u8 b.toNat,by simp [Instr.index,asIntOf,bn hd,h0,hb2],by simp [VR]⟩
  ·cases h
theorem jy {c:Cx}{Lo:Nat→Prop}{lam:Nat→Nat}{bx:Nat→Option (List AV)}{JB:Bool}{len lim cap:Nat}{lo hi:Option AV}{Bo CQ:Option Value}{l h:Nat}(hl:lim≤cap)
  (pL:∀x,lo=some x→∃v,Bo=some v∧SR c L0 Lo lam bx x v) (uv:lo=none→Bo=none) (FH:∀x,hi=some x→∃v,CQ=some v∧SR c L0 Lo lam bx x v) (vP:hi=none→CQ=none)
  (hb:jP len lim lo hi=some (l,h)):(Instr.sliceBounds JB len cap Bo CQ none).run P c.w = .ok (l,h,cap) c.w∧l≤h∧(h≤lim∨h=len):=by
 unfold jP at hb
 simp only [Ut] at hb
 obtain⟨h',hh,l',nH,he⟩:=hb
 cases he
 have e1:(CQ=none∧h=len)∨∃k i,CQ=some (.int k i)∧(0≤i∧i≤(cap:Int))∧h=i.toNat∧h≤lim:=by
  cases hi with
  | none=>
   simp only [Uw] at hh
   exact .inl ⟨vP rfl,hh.symm⟩
  | some x=>
   obtain⟨v,rfl,hv⟩:=FH x rfl
   cases x<;>simp only at hh<;>try (cases hh; done)
   rename_i k i
   simp only [SR,VR] at hv
   subst hv
   split at hh
   ·rename_i hin
    cases hh
    exact .inr ⟨k,i,rfl,⟨hin.1,by omega⟩,rfl,by omega⟩
   ·cases hh
 have e2:(Bo=none∧l=0)∨∃k i,Bo=some (.int k i)∧(0≤i∧i≤(h:Int))∧l=i.toNat:=by
  cases lo with
  | none=>
   simp only [Uw] at nH
   exact .inl ⟨uv rfl,nH.symm⟩
  | some x=>
   obtain⟨v,rfl,hv⟩:=pL x rfl
   cases x<;>simp only at nH<;>try (cases nH; done)
   rename_i k i
   simp only [SR,VR] at hv
   subst hv
   split at nH
   ·rename_i hin
    cases nH
    exact .inr ⟨k,i,rfl,hin,rfl⟩
   ·cases nH
 clear pL uv FH vP hh nH
 have e3:l≤h:=by rcases e2 with⟨_,h2⟩| ⟨k,i,_,h2,h3⟩<;>omega
 have e4:h≤lim∨h=len:=by rcases e1 with⟨_,h2⟩| ⟨k,i,_,h2,h3,h4⟩<;>omega
 refine⟨?_,e3,e4⟩
 rcases e1 with⟨rfl,rfl⟩| ⟨k,i,rfl,LR,rfl,_⟩<;>rcases e2 with⟨rfl,rfl⟩| ⟨k2,i2,rfl,zm,rfl⟩<;>simp_all [Instr.sliceBounds,Instr.sliceBound,asIntOf]
theorem nr {c:Cx}{Lo:Nat→Prop}{lam:Nat→Nat}{bx:Nat→Option (List AV)}{x:AV}{v:Value}(h:isZero (some x)=true)(hv:SR c L0 Lo lam bx x v):∃k,v = .int k 0:=by
 cases x<;>simp [isZero] at h
 subst h
 simp only [SR,VR] at hv
 exact⟨_,hv⟩
theorem yk {c:Cx}{Lo:Nat→Prop}{lam:Nat→Nat}{bx:Nat→Option (List AV)}{t:TypeId}{x y:AV}{v:Value}{lo hi mx:Option AV}{Bo CQ JX:Option Value}(hx:SR c L0 Lo lam bx x v)
  (pL:∀x,lo=some x→∃v,Bo=some v∧SR c L0 Lo lam bx x v) (uv:lo=none→Bo=none) (FH:∀x,hi=some x→∃v,CQ=some v∧SR c L0 Lo lam bx x v) (vP:hi=none→CQ=none)
  (Rm:∀x,mx=some x→∃v,JX=some v∧SR c L0 Lo lam bx x v) (JY:mx=none→JX=none)
  (h:kM P t x lo hi mx=some y):∃r,(Instr.sliceAt t v Bo CQ JX).run P c.w = .ok r c.w∧VR c (un L0 Lo) y r:=by
 unfold kM at h
 rw [Ut] at h
 obtain⟨d,hd,h⟩:=h
 have Bp:(match d with | .array _ _=>false | _=>true)=true→(Instr.sliceAt t v Bo CQ JX).run P c.w=(Instr.slice t v Bo CQ JX).run P c.w:=by
  intro Rn
  unfold Instr.sliceAt
  simp only [Sem.run_bind,bn hd,Result.andThen_ok]
  cases d<;>simp at Rn<;>rfl
 split at h<;>try (cases h; done)
 ·rw [Bp rfl]
  cases mx with
  | some mm=>cases x<;>cases h
  | none=>
  cases x<;>simp only at h<;>try (cases h; done)
  rename_i st
  rw [JY rfl]
  simp only [SR,VR] at hx
  subst hx
  rw [Uv] at h
  obtain⟨⟨l,hh⟩,hb,rfl⟩:=h
  obtain⟨hr,_,_⟩:=jy (P:=P) (JB:=false) (Uy _) pL uv FH vP hb
  exact⟨.string (st.extract l hh),by simp [Instr.slice,bn hd,hr],by simp [VR]⟩
 ·rename_i e
  rw [Bp rfl]
  rw [Ut] at h
  obtain⟨m,hm,h⟩:=h
  cases mx with
  | some mm=>
   cases hi with
   | none=>cases h
   | some hh=>
   simp only at h
   split at h
   ·rename_i hz
    simp only [Ux] at hz
    obtain⟨⟨z1,z2⟩,z3⟩:=hz
    obtain⟨mv,rfl,Mr⟩:=Rm mm rfl
    obtain⟨hv,rfl,Ro⟩:=FH hh rfl
    obtain⟨k3,rfl⟩:=nr z3 Mr
    obtain⟨k2,rfl⟩:=nr z2 Ro
    have hsl:∃a len cap,v = .slice a len cap∧VR c (un L0 Lo) y (.slice a 0 0):=by
     split at h<;>try (cases h; done)
     all_goals (cases h; simp only [SR,VR] at hx)
     ·obtain⟨a,cap,rfl,_,_,hs,_⟩:=hx; exact⟨_,_,_,rfl,by simp only [VR]; exact⟨_,_,rfl,Uy _,fun _=>rfl,hs.imp id fun _=>⟨trivial,rfl⟩,.inl (by simp)⟩⟩
     ·rcases hx with⟨_,_,_,a,rfl⟩| ⟨_,_,a,cap,rfl,_,hs,_⟩
      ·exact⟨_,_,_,rfl,by simp only [VR]; exact⟨_,_,rfl,Uy _,fun _=>rfl,.inr ⟨trivial,rfl⟩,.inl (by simp)⟩⟩
      ·exact⟨_,_,_,rfl,by simp only [VR]; exact⟨_,_,rfl,Uy _,fun _=>rfl,.inl hs,.inl (by simp)⟩⟩
     ·subst hx; exact⟨_,_,_,rfl,by simp [VR]⟩
    obtain⟨a,len,cap,rfl,Rp⟩:=hsl
    have Rq:Bo=none∨∃k,Bo=some (.int k 0):=by
     cases lo with
     | none=>exact .inl (uv rfl)
     | some x=>
      obtain⟨lv,rfl,ls⟩:=pL x rfl
      obtain⟨k,rfl⟩:=nr z1 ls
      exact .inr ⟨k,rfl⟩
    refine⟨.slice a 0 0,?_,Rp⟩
    rcases Rq with rfl | ⟨k,rfl⟩<;>simp [Instr.slice,bn hd,Instr.sliceBounds,Instr.sliceBound,asIntOf,dz hm]
   ·cases h
  | none=>
   rw [JY rfl]
   simp only at h
   cases x with
   | nils=>
    simp only [SR,VR] at hx
    subst hx
    rw [Uv] at h
    obtain⟨⟨l,hh⟩,hb,rfl⟩:=h
    obtain⟨hr,h1,h2⟩:=jy (P:=P) (JB:=true) (Uy _) pL uv FH vP hb
    have:hh=0:=by omega
    subst this
    have:l=0:=by omega
    subst this
    exact⟨.slice none 0 0,by simp [Instr.slice,bn hd,hr,dz hm],by simp [VR]⟩
   | fz cs len ex=>
    simp only [SR,VR] at hx
    obtain⟨a,cap,rfl,Ms,hc2,hs,hc⟩:=hx
    rw [Uv] at h
    obtain⟨⟨l,hh⟩,hb,rfl⟩:=h
    obtain⟨hr,h1,h2⟩:=jy (P:=P) (JB:=true) Ms pL uv FH vP hb
    have Rr:hh≤len:=by omega
    refine⟨.slice (if cap=l then a else a.map (·.add (l*m))) (hh - l) (cap - l),by simp [Instr.slice,bn hd,hr,dz hm],?_⟩
    simp only [VR]
    refine⟨_,_,rfl,by omega,fun he=>?_,?_,?_⟩
    rotate_left
    ·rcases hs with hs | ⟨hs,JC⟩
     ·left; split<;>simp [hs]
     ·right; subst hs; subst JC; simp
    rotate_left
    ·simp only [Ux,beq_iff_eq] at he
     have:=hc2 he.1
     omega
    ·rcases hc with hc | ⟨b,o',ha,G6,hex,hc⟩
     ·subst hc; exact .inl (by simp)
     ·by_cases hcl:cap=l
      ·left
       have:hh - l=0:=by omega
       simp [this]
      ·right
       rw [if_neg hcl,ha]
       exact⟨b,o'+l*m,by simp [addr_add],G6,fun he=>hex (by simp only [Ux] at he; exact he.1),(hc.drop _).take _⟩
   | rs id off len ib=>
    simp only at h
    split at h
    ·rename_i sH
     subst sH
     simp only [SR,VR] at hx
     rcases hx with⟨rfl,rfl,rfl,a,rfl⟩| hx
     ·rw [Uv] at h
      obtain⟨⟨l,hh⟩,hb,rfl⟩:=h
      obtain⟨hr,h1,h2⟩:=jy (P:=P) (JB:=true) (Uy _) pL uv FH vP hb
      have:hh=0:=by omega
      subst this
      have:l=0:=by omega
      subst this
      exact⟨.slice a 0 0,by simp [Instr.slice,bn hd,hr,dz hm],by simp only [VR]; exact .inl ⟨trivial,by simp,trivial,a,rfl⟩⟩
     obtain⟨jL,hid,a,cap,rfl,Ms,hc2,hc⟩:=hx
     rw [Uv] at h
     obtain⟨⟨l,hh⟩,hb,rfl⟩:=h
     obtain⟨hr,h1,h2⟩:=jy (P:=P) (JB:=true) Ms pL uv FH vP hb
     have Rr:hh≤len:=by omega
     refine⟨.slice (if cap=l then a else a.map (·.add (l*ib))) (hh - l) (cap - l),by simp [Instr.slice,bn hd,hr,dz hm],?_⟩
     simp only [VR]
     refine .inr ⟨jL,hid,_,_,rfl,by omega,by split<;>simp [hc2],fun hl=>?_⟩
     ·rcases hc hl with⟨h3,h4⟩| h3
      ·by_cases hcl:cap=l
       ·right; omega
       ·left
        rw [if_neg hcl,h3]
        refine⟨by simp [addr_add,Vq],?_⟩
        rw [←h4]
        have:cap*ib=l*ib+(cap - l)*ib:=by rw [←VE]; congr 1; omega
        omega
      ·right; omega
    ·cases h
   | _=>cases h
end
end Go.R
namespace Go.R
open Go
section
variable {P:Program}
def ints (ns:List Int):List Value:=ns.map fun n=>.int .i64 n
theorem gT:∀{cs:List AV},cs.all jQ=true→∃ns:List Int,cs=ns.map fun n=>AV.int .i64 n
 | [],_=>⟨[],rfl⟩
 | x::xs,h=>by
  simp only [Vi,Ux] at h
  obtain⟨ns,rfl⟩:=gT h.2
  cases x<;>simp [jQ] at h
  rename_i k m
  cases k<;>simp at h
  exact⟨m::ns,rfl⟩
theorem jz {c:Cx}{L:Nat→Prop}:∀{ns:List Int} {vs:List Value},VRs c L (ns.map fun n=>AV.int .i64 n) vs→vs=ints ns
 | [],[],_=>rfl
 | m::ns,v::vs,h=>by
  have h1:v = .int .i64 m:=by simpa [VR] using h.1
  rw [h1,jz h.2]; rfl
 | [],_::_,h=>h.elim
 | _::_,[],h=>h.elim
theorem jT:∀ns ms:List Int,kN (ns.map fun n=>AV.int .i64 n) (ms.map fun n=>AV.int .i64 n)=decide (ns=ms)
 | [],[]=>rfl
 | [],_::_=>rfl
 | _::_,[]=>rfl
 | n::ns,m::ms=>by
  simp only [UX,kN,iM,jT ns ms]
  by_cases h1:n=m<;>by_cases h2:ns=ms<;>simp [h1,h2]
theorem gK {t:TypeId}(w:World)(ht:P.underlying t=some (.int .i64)){ns:List Int}{vs:Array Value}(hv:vs.toList=ints ns){i:Nat}{m:Int}(hi:ns[i]? = some m):(part t vs i).run P w = .ok (.int .i64 m) w:=by
 have h2:vs[i]? = some (.int .i64 m):=by rw [←Array.getElem?_toList,hv]; simp [ints,hi]
 simp [part,isAgg,bn ht,h2]
theorem ku {e:TypeId}(d:Nat)(w:World)(he:P.underlying e=some (.int .i64)){xs ys:Array Value}{ns ms:List Int}(hx:xs.toList=ints ns)(hy:ys.toList=ints ms)(hl:ns.length=ms.length) :
  ∀m i,i+m=ns.length→(Op.eqItems (d+1) e 1 xs ys (List.range' i m)).run P w = .ok (decide (ns.drop i=ms.drop i)) w
 | 0,i,h=>by
  have h1:ns.drop i=[]:=by simp; omega
  have h2:ms.drop i=[]:=by simp; omega
  simp [Op.eqItems,h1,h2]
 | m+1,i,h=>by
  have ih:=ku d w he hx hy hl m (i+1) (by omega)
  rw [List.range'_succ]
  simp only [Op.eqItems,Nat.mul_one,Sem.run_bind,gK w he hx (UC (show i<ns.length by omega)),gK w he hy (UC (show i<ms.length by omega)),Result.andThen_ok,run_equalIn_int w d e .i64 .i64 _ _ he]
  have e1:ns.drop i=ns[i]::ns.drop (i+1):=UH (by omega)
  have e2:ms.drop i=ms[i]::ms.drop (i+1):=UH (by omega)
  rw [e1,e2]
  clear e1 e2
  generalize ns[i]=a
  generalize ms[i]=b
  by_cases h3:a=b
  ·simp [h3,ih]
  ·simp [h3]
def vQ (P : Program) (f : Field) (i : Nat) : Bool := f.name != "_" && f.offset == i && (P.underlying f.type matches some (.int .i64)) && eO P f.type == some 1
theorem jU (d:Nat)(w:World){xs ys:Array Value}{ns ms:List Int}(hx:xs.toList=ints ns)(hy:ys.toList=ints ms)(hl:ns.length=ms.length) :
  ∀(fs:List Field) (i:Nat),i+fs.length=ns.length→(fs.zipIdx i).all (fun (f,j)=>vQ P f j)=true→(Op.eqFields (d+1) xs ys fs).run P w = .ok (decide (ns.drop i=ms.drop i)) w
 | [],i,h,_=>by
  have h1:ns.drop i=[]:=by simp at h ⊢; omega
  have h2:ms.drop i=[]:=by simp at h ⊢; omega
  simp [Op.eqFields,h1,h2]
 | f::fs,i,h,ha=>by
  simp only [List.zipIdx_cons,Vi,Ux] at ha
  obtain⟨hf,ha⟩:=ha
  simp only [UI] at h
  have ih:=jU d w hx hy hl fs (i+1) (by omega) ha
  simp only [vQ,Ux,bne_iff_ne,ne_eq,beq_iff_eq] at hf
  obtain⟨⟨⟨f1,f2⟩,f3⟩,f4⟩:=hf
  have Mt:P.underlying f.type=some (.int .i64):=by
   revert f3
   split<;>simp_all
  simp only [Op.eqFields,f1,ne_eq,not_false_eq_true,if_true,Sem.run_bind,f2,gK w Mt hx (UC (show i<ns.length by omega)),gK w Mt hy (UC (show i<ms.length by omega)),Result.andThen_ok,run_equalIn_int w d f.type .i64 .i64 _ _ Mt]
  have e1:ns.drop i=ns[i]::ns.drop (i+1):=UH (by omega)
  have e2:ms.drop i=ms[i]::ms.drop (i+1):=UH (by omega)
  rw [e1,e2]
  clear e1 e2
  generalize ns[i]=a
  generalize ms[i]=b
  by_cases h3:a=b
  ·simp [h3,ih]
  ·simp [h3]
theorem kx {t:TypeId}(h:(P.underlying t matches some (.int .i64))=true):P.underlying t=some (.int .i64):=by
 revert h
 split<;>simp_all
theorem Bq {t:TypeId}{m:Nat}(h:eO P t=some m):∃i,P.info? t=some i∧P.cellsOf t=m:=by
 unfold eO at h
 rw [Uv] at h
 obtain⟨i,hi,rfl⟩:=h
 exact⟨i,hi,by simp [Program.cellsOf,hi]⟩
theorem bytes_beq (a b:ByteArray):(a.toList==b.toList)=(a.data.toList==b.data.toList):=by
 rw [ByteArray.toList_eq,ByteArray.toList_eq]
theorem tk {c:Cx}{L:Nat→Prop}{t:TypeId}{x y:AV}{v u:Value}(d:Nat)(hx:fW P t x=true)(hs:sameShape x y=true)(hv:VR c L x v)(hu:VR c L y u)(w:World) :
  (Op.equalIn (d+2) t v u).run P w = .ok (fe x y) w:=by
 cases hd:P.underlying t with
 | none=>simp [fW,hd] at hx
 | some td=>
 cases td<;>simp only [fW,hd] at hx<;>try (cases hx; done)
 ·rename_i q
  cases x<;>simp only at hx<;>try (cases hx; done)
  rename_i k a
  cases y<;>simp only [sameShape] at hs<;>try (cases hs; done)
  rename_i l b
  simp only [VR] at hv hu
  subst hv; subst hu
  simp only [beq_iff_eq] at hs hx
  subst hs; subst hx
  rw [run_equalIn_int w (d+1) t _ _ a b hd]
  simp [fe,iM]
 ·cases x<;>simp only at hx<;>try (cases hx; done)
  rename_i a
  cases y<;>simp only [sameShape] at hs<;>try (cases hs; done)
  rename_i b
  simp only [VR] at hv hu
  subst hv; subst hu
  rw [run_equalIn_string w (d+1) t a b hd,bytes_beq]
  simp [fe,iM]
 ·rename_i n e
  cases x<;>simp only at hx<;>try (cases hx; done)
  rename_i cs
  cases y<;>simp only [sameShape] at hs<;>try (cases hs; done)
  rename_i eQ
  simp only [Ux,beq_iff_eq] at hx hs
  obtain⟨⟨⟨h1,h2⟩,h3⟩,h4⟩:=hx
  obtain⟨ns,rfl⟩:=gT hs.1.2
  obtain⟨ms,rfl⟩:=gT hs.2
  simp only [VR] at hv hu
  obtain⟨xs,rfl,hxs⟩:=hv
  obtain⟨ys,rfl,Mu⟩:=hu
  obtain⟨i,hi,Mw⟩:=Bq h4
  have hl:ns.length=ms.length:=by simpa using hs.1.1
  rw [run_equalIn_array w (d+1) xs ys hd hi,Mw]
  have:=ku (P:=P) d w (kx h3) (jz hxs) (jz Mu) hl n 0 (by simpa using h1.symm)
  rw [List.range_eq_range',this,fe,jT]
  simp
 ·rename_i fs
  cases x<;>simp only at hx<;>try (cases hx; done)
  rename_i cs
  cases y<;>simp only [sameShape] at hs<;>try (cases hs; done)
  rename_i eQ
  simp only [Ux,beq_iff_eq,VC] at hx hs
  obtain⟨⟨⟨h1,h2⟩,h3⟩,h4⟩:=hx
  obtain⟨ns,rfl⟩:=gT hs.1.2
  obtain⟨ms,rfl⟩:=gT hs.2
  simp only [VR] at hv hu
  obtain⟨xs,rfl,hxs⟩:=hv
  obtain⟨ys,rfl,Mu⟩:=hu
  have hl:ns.length=ms.length:=by simpa using hs.1.1
  have hf:P.fieldsOf t=fs:=by simp [Program.fieldsOf,hd]
  rw [run_equalIn_struct w (d+1) t xs ys (by rw [hf]; exact hd) h4,hf]
  have:=jU (P:=P) d w (jz hxs) (jz Mu) hl fs.toList 0 (by simpa using h1.symm) h3
  rw [this,fe,jT]
  simp
theorem lS {α:Type}(w:World)(f:α→PUnit→Sem (ForInStep PUnit)):∀l:List α,(∀x∈l,(f x PUnit.unit).run P w = .ok (.yield PUnit.unit) w)→(forIn l PUnit.unit f).run P w = .ok PUnit.unit w
 | [],_=>by simp
 | x::xs,h=>by
  have ih:=lS w f xs (fun y hy=>h y (by simp [hy]))
  simp only [List.forIn_cons,Sem.run_bind,h x (by simp),Result.andThen_ok]
  exact ih
theorem mX {c:Cx}{L:Nat→Prop}{t:TypeId}{x:AV}{v:Value}(em:Bool)(d:Nat)(hx:fW P t x=true)(hv:VR c L x v)(w:World) :
  (Instr.checkKey em (d+2) t v).run P w = .ok () w:=by
 have one:∀(e:TypeId) (m:Int),P.underlying e=some (.int .i64)→(Instr.checkKey em (d+1) e (.int .i64 m)).run P w = .ok () w:=by
  intro e m he
  simp [Instr.checkKey,bn he]
 cases hd:P.underlying t with
 | none=>simp [fW,hd] at hx
 | some td=>
 cases td<;>simp only [fW,hd] at hx<;>try (cases hx; done)
 ·cases x<;>simp only at hx<;>try (cases hx; done)
  simp only [VR] at hv
  subst hv
  simp [Instr.checkKey,bn hd]
 ·cases x<;>simp only at hx<;>try (cases hx; done)
  simp only [VR] at hv
  subst hv
  simp [Instr.checkKey,bn hd]
 ·rename_i n e
  cases x<;>simp only at hx<;>try (cases hx; done)
  rename_i cs
  simp only [Ux,beq_iff_eq] at hx
  obtain⟨⟨⟨h1,h2⟩,h3⟩,h4⟩:=hx
  obtain⟨ns,rfl⟩:=gT h2
  simp only [VR] at hv
  obtain⟨xs,rfl,hxs⟩:=hv
  rw [Instr.checkKey]
  simp only [Sem.run_bind,bn hd,Result.andThen_ok]
  simp only [Std.Legacy.Range.forIn_eq_forIn_range',Std.Legacy.Range.size,Nat.sub_zero,Nat.add_one_sub_one,Nat.div_one]
  rw [lS w _ (List.range' 0 n) (fun i hi=>?_)]
  ·rfl
  ·have zm:i<ns.length:=by simp at hi h1; omega
   simp only [Sem.run_bind,dz h4,Result.andThen_ok,Nat.mul_one]
   rw [gK w (kx h3) (jz hxs) (UC zm)]
   simp only [Result.andThen_ok,one e _ (kx h3)]
   rfl
 ·rename_i fs
  cases x<;>simp only at hx<;>try (cases hx; done)
  rename_i cs
  simp only [Ux,beq_iff_eq,VC] at hx
  obtain⟨⟨⟨h1,h2⟩,h3⟩,h4⟩:=hx
  obtain⟨ns,rfl⟩:=gT h2
  simp only [VR] at hv
  obtain⟨xs,rfl,hxs⟩:=hv
  rw [Instr.checkKey]
  simp only [Sem.run_bind,bn hd,Result.andThen_ok]
  rw [←Array.forIn_toList]
  rw [lS w _ fs.toList (fun f hf=>?_)]
  ·rfl
  ·obtain⟨i,hi,rfl⟩:=List.mem_iff_getElem.1 hf
   have hm:(fs.toList[i],i)∈fs.toList.zipIdx:=by rw [List.mem_zipIdx_iff_getElem?]; simp [hi]
   have hh:=UN.1 h3 _ hm
   generalize fs.toList[i]=f at hh
   simp only [Ux,bne_iff_ne,ne_eq,beq_iff_eq] at hh
   obtain⟨⟨⟨f1,f2⟩,f3⟩,f4⟩:=hh
   have zm:i<ns.length:=by simp at hi h1; omega
   rw [if_pos f1,f2]
   simp only [Sem.run_bind]
   rw [gK w (kx f3) (jz hxs) (UC zm)]
   simp only [Result.andThen_ok,one _ _ (kx f3)]
   rfl
end
end Go.R
