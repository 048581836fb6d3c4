/- Part of the proof: RCore, RRel, RFrame, ROps1, ROps2, RKeys. -/
import GoSem.Dispatch
import GoSem.Machine.Return
import Derived.Orders
import Derived.Below
import Derived.Laws.World
import Derived.Laws.Sem
import Derived.Tactics
import Derived.Laws.Cells
import Derived.Laws.Entries
import Derived.ChangeKeysEq
import Derived.WideKeyRuns
set_option linter.unusedVariables false
set_option linter.unusedSimpArgs false
set_option maxRecDepth 100000
open Array renaming getElem?_eq_some_iff → ajt, getElem?_setIfInBounds → ajU
open Bool renaming and_eq_true → aiM, false_eq_true → aiW, not_eq_true' → ajX
open List renaming getElem?_eq_getElem → aiN, getElem?_eq_some_iff → aiO, mem_of_getElem? → aiS, length_cons → aiX, drop_eq_getElem_cons → aiZ, map_cons → ai9, mem_cons → aja, all_eq_true → ajd, all_cons → ajB
open Nat renaming le_refl → aiQ, zero_add → ajf, lt_of_lt_of_le → ajk, beq → ajy, le_trans → ajF, add_sub_cancel_left → ajK, add_assoc → ajT, eq_of_beq_eq_true → aj2, le_succ → aj5, add_mul → akb, add_right_comm → aki, ble → akn
open Option renaming bind_eq_some_iff → aiJ, map_eq_some_iff → aiK
open Option.some renaming injEq → aiL
open Prod.mk renaming injEq → aiV
namespace Go.R
open Go
inductive AV where
 | any
 | bool (b:Bool)
 | int (k:IntKind) (n:Int)
 | str (s:ByteArray)
 | sX
 | ptr (id off:Nat)
 | lp (k off:Nat)
 | fp (cs:List AV) (off:Nat)
 | nils
 | fz (cs:List AV) (n:Nat) (ex:Bool)
 | rs (id off len lq:Nat)
 | qV
 | mp (id:Nat)
 | fn (f:FuncId) (cap:List AV)
 | uA
 | agg (cs:List AV)
 | tup (vs:List AV)
 deriving Inhabited
inductive AObj where
 | cells (cs:List AV)
 | map (es:List (AV × AV))
 | row (e:TypeId) (cs:List AV)
 deriving Inhabited
structure AHeap where
 get:Nat→Option AObj
 ver:Nat→Nat
 next:Nat
def AHeap.put (h:AHeap)(id:Nat)(o:AObj):AHeap:={get:=fun i=>bif ajy i id then some o else h.get i,ver:=fun i=>bif ajy i id then h.next else h.ver i,next:=h.next+1}
def AHeap.kill (h:AHeap)(id:Nat):AHeap:={get:=fun i=>bif ajy i id then none else h.get i,ver:=fun i=>bif ajy i id then h.next else h.ver i,next:=h.next+1}
def AHeap.alloc (h:AHeap)(o:AObj):AHeap:=h.put h.next o
def AV.cells:AV→List AV
 | .agg cs=>cs
 | v=>[v]
def AV.dp:AV→Bool
 | .any | .lp .. | .agg _ | .tup _=>false
 | _=>true
def AV.nZ:AV→Bool
 | .lp .. | .any=>false
 | .agg cs=>cs.all AV.dp
 | _=>true
mutual
def AV.gN:AV→Bool
 | .any | .lp .. | .ptr .. | .rs .. | .mp _=>false
 | .fp cs _ | .fz cs _ _ | .agg cs | .tup cs | .fn _ cs=>eL cs
 | _=>true
def eL:List AV→Bool
 | []=>true
 | x::xs=>x.gN&&eL xs
end
mutual
def AV.mO:AV→AV
 | .nils=>.fz [] 0 false
 | .fz cs n _=>.fz (fG cs) n false
 | .fp cs off=>.fp (fG cs) off
 | .agg cs=>.agg (fG cs)
 | .tup cs=>.tup (fG cs)
 | .fn f cs=>.fn f (fG cs)
 | x=>x
def fG:List AV→List AV
 | []=>[]
 | x::xs=>x.mO::fG xs
end
def AV.jZ:AV→Option Value
 | .bool b=>some (.bool b)
 | .int k n=>some (.int k n)
 | .str s=>some (.string s)
 | .sX=>some (.pointer none)
 | .uA=>some .nilFunc
 | .qV=>some (.map none)
 | .nils=>some (.slice none 0 0)
 | _=>none
def mc:List AV→Option (List Value)
 | []=>some []
 | x::xs=>(x.jZ).bind fun v=>(mc xs).bind fun vs=>some (v::vs)
def AV.G0:AV→Option Value
 | .agg cs=>(mc cs).map fun vs=>.agg vs.toArray
 | v=>v.jZ
def uB:Value→Option AV
 | .bool b=>some (.bool b)
 | .int k n=>some (.int k n)
 | .string s=>some (.str s)
 | .pointer none=>some .sX
 | .slice none 0 0=>some .nils
 | .map none=>some .qV
 | .nilFunc=>some .uA
 | _=>none
def xn:List Value→Option (List AV)
 | []=>some []
 | x::xs=>(uB x).bind fun v=>(xn xs).bind fun vs=>some (v::vs)
def ME:Value→Option AV
 | .agg cs=>(xn cs.toList).map .agg
 | v=>uB v
def lK {α:Type}(P:Program):Sem α→Option α
 | .pure a=>some a
 | .program k=>lK P (k P)
 | _=>none
def cZ (ρ:Nat→AV):Operand→AV
 | .tmp t=>ρ t
 | .const v=>(ME v).getD .any
 | .func f=>.fn f []
 | .global _=>.any
section
variable (P:Program)
def iR (t:TypeId):Option Nat:=(P.info? t).map (·.size)
def ls (t:TypeId):Option AV:=(P.info? t).bind fun i=>i.zero.bind ME
def ju (t:TypeId):Option Bool:=(P.underlying t).map fun | .struct _ | .array _ _=>true | _=>false
def me (t:TypeId)(cs:List AV)(off:Nat):Option AV:=
 (ju P t).bind fun ag=>if ag then (iR P t).bind fun n=>if off+n≤cs.length then some (.agg ((cs.drop off).take n)) else none else cs[off]?
def fm:List AV→Nat→List AV→List AV
 | cs,_,[]=>cs
 | cs,i,v::vs=>fm (cs.set i v) (i+1) vs
def kB (t:TypeId)(cs:List AV)(off:Nat)(v:AV):Option (List AV):=
 (iR P t).bind fun n=>if v.cells.length=n∧v.cells.all AV.dp∧off+n≤cs.length then some (fm cs off v.cells) else none
def y8 (place:Nat→Option (Nat × Nat))(cells:List AV):List (Nat × AV)→Option (List AV)
 | []=>some cells
 | (i,v)::rest=>
  (place i).bind fun (off,size)=>
   if v.cells.length=size∧v.cells.all AV.dp∧off+size≤cells.length then y8 place (fm cells off v.cells) rest else none
def G1 (fs:List Field)(i:Nat):Option (Nat × Nat):=(fs[i]?).bind fun f=>(iR P f.type).map fun n=>(f.offset,n)
def G2 (t:TypeId)(parts:List (Nat × AV)):Option AV:=
 (ls P t).bind fun z=>(P.underlying t).bind fun
  | .struct fs=>if fs.toList.all (fun f=>(iR P f.type).isSome) then (y8 (G1 P fs.toList) z.cells parts).map .agg else none
  | .array _ e=>(iR P e).bind fun n=>(y8 (fun i=>some (i*n,n)) z.cells parts).map .agg
  | _=>none
def lu (z:List AV):Nat→List AV
 | 0=>[]
 | n+1=>z++lu z n
def km (t:TypeId)(len:Nat)(parts:List (Nat × AV)):Option AV:=
 (P.underlying t).bind fun
  | .slice e=>(iR P e).bind fun n=>if n=0∨len*n > 16777216 then none else if len=0 then (if parts.isEmpty then some (.fz [] 0 true) else none) else
    (ls P e).bind fun z=>if z.cells.length=n then (y8 (fun i=>some (i*n,n)) (lu z.cells len) parts).map fun cs=>.fz cs len true else none
  | _=>none
def AV.shift:AV→Nat→Option AV
 | .ptr id off,n=>some (.ptr id (off+n))
 | .lp k off,n=>some (.lp k (off+n))
 | .fp cs off,n=>some (.fp cs (off+n))
 | _,_=>none
def tL (s:TypeId)(x:AV)(f:Nat):Option AV:=
 (P.underlying s).bind fun
  | .struct fs=>(fs[f]?).bind fun fd=>(iR P fd.type).bind fun n=>if n=0 then none else x.shift fd.offset
  | _=>none
def iS (t:TypeId)(x i:AV):Option AV:=
 match i with
 | .int _ i=>
  (P.underlying t).bind fun
   | .array len e=>(iR P e).bind fun n=>if 0≤i∧i<len then x.shift (i.toNat*n) else none
   | .slice e=>(iR P e).bind fun n=>
    match x with
    | .fz cs len _=>if 0≤i∧i<len∧i.toNat*n<cs.length then some (.fp cs (i.toNat*n)) else none
    | .rs id off len lq=>if lq=n∧0≤i∧i<len then some (.ptr id (off+i.toNat*n)) else none
    | _=>none
   | _=>none
 | _=>none
def IB (t:TypeId)(cs:List AV)(off:Nat):Option AV:=me P t cs off
def G3 (s:TypeId)(x:AV)(f:Nat):Option AV:=
 match x with
 | .agg cs=>(P.underlying s).bind fun
  | .struct fs=>(fs[f]?).bind fun fd=>IB P fd.type cs fd.offset
  | _=>none
 | _=>none
def vY (t:TypeId)(x i:AV):Option AV:=
 match i with
 | .int _ i=>
  (P.underlying t).bind fun
   | .array len e=>match x with
    | .agg cs=>(iR P e).bind fun n=>if 0≤i∧i<len then IB P e cs (i.toNat*n) else none
    | _=>none
   | .string=>match x with
    | .str s=>if 0≤i then (s.data.toList[i.toNat]?).map fun b=>.int .u8 b.toNat else none
    | _=>none
   | _=>none
 | _=>none
def n5 (len cap:Nat)(lo hi:Option AV):Option (Nat × Nat):=
 (match hi with | none=>some len | some (.int _ i)=>if 0≤i∧i≤cap then some i.toNat else none | _=>none).bind fun h=>
 (match lo with | none=>some 0 | some (.int _ i)=>if 0≤i∧i≤h then some i.toNat else none | _=>none).bind fun l=>some (l,h)
def isZero:Option AV→Bool
 | none=>true
 | some (.int _ i)=>i==0
 | _=>false
def pF (t:TypeId)(x:AV)(lo hi mx:Option AV):Option AV:=
 (P.underlying t).bind fun
  | .string=>match x,mx with
   | .str s,none=>(n5 s.size s.size lo hi).map fun (l,h)=>.str (s.extract l h)
   | _,_=>none
  | .slice e=>(iR P e).bind fun n=>
   match mx with
   | some m=>match hi with
    | some _=>if isZero lo&&isZero hi&&isZero (some m) then (match x with | .fz .. | .rs ..=>some (.fz [] 0 true) | .nils=>some .nils | _=>none) else none
    | none=>none
   | none=>
    match x with
    | .nils=>(n5 0 0 lo hi).map fun _=>.nils
    | .fz cs len ex=>(n5 len len lo hi).map fun (l,h)=>.fz ((cs.drop (l*n)).take ((h - l)*n)) (h - l) (ex&&h==len)
    | .rs id off len lq=>if lq=n then (n5 len len lo hi).map fun (l,h)=>.rs id (off+l*n) (h - l) lq else none
    | _=>none
  | _=>none
def fW (h:AHeap)(size:Nat)(x:AV):Option (List AV × Nat):=
 match x with
 | .nils=>some ([],0)
 | .fz cs n _=>if cs.length=n*size then some (cs,n) else none
 | .rs id off len lq=>if id=0∨(len=0∧(h.get id).isNone=true) then (if len=0 then some ([],0) else none) else (h.get id).bind fun
  | .cells cs=>if lq=size∧off+len*size≤cs.length then some ((cs.drop off).take (len*size),len) else none
  | _=>none
 | .str s=>if size=1 then some (s.data.toList.map fun b=>.int .u8 b.toNat,s.size) else none
 | _=>none
def jw:Nat:=1099511627776
def ly (t2:TypeId)(x:AV):Bool:=
 match x with
 | .str _=>(P.underlying t2 matches some .string)
 | _=>(P.underlying t2 matches some (.slice _))
def Sy (i:TypeInfo):Bool:=match i.zero.bind ME with | some z=>z.cells.length==i.size | none=>false
def nq:AV→AV
 | .nils=>.fz [] 0 false
 | x=>x
def fN (h:AHeap)(size:Nat)(x:AV):Option (List AV × Nat):=(fW h size x).map fun p=>(p.1.map nq,p.2)
def eC (h:AHeap)(t t2:TypeId)(s x:AV):Option (AV × AHeap):=
 (P.underlying t).bind fun
  | .slice e=>(P.info? e).bind fun i=>
   (fN h i.size x).bind fun (new,n)=>
    if i.size=0∨ly P t2 x=false∨Sy i=false then none else
    match s with
    | .nils=>if n*i.bytes > jw∨n > jw then none else if n=0 then some (.rs 0 0 0 i.size,h) else some (.rs h.next 0 n i.size,h.alloc (.cells new))
    | .fz cs len true=>if (len+n)*i.bytes > jw∨len+n > jw∨cs.length≠len*i.size then none else if n=0 then (if len=0 then some (.rs 0 0 0 i.size,h) else some (s,h)) else some (.rs h.next 0 (len+n) i.size,h.alloc (.cells (cs++new)))
    | .rs id off len lq=>if id=0 then (if n*i.bytes > jw∨n > jw∨lq≠i.size then none else if n=0 then some (s,h) else some (.rs h.next 0 n i.size,h.alloc (.cells new))) else (h.get id).bind fun
     | .cells cs=>if lq≠i.size∨off+len*lq > cs.length∨(len+n)*i.bytes > jw∨len+n > jw then none else
       if n=0 then some (s,h) else some (.rs h.next 0 (len+n) lq,(h.kill id).put h.next (.cells ((cs.drop off).take (len*lq)++new)))
     | _=>none
    | _=>none
  | _=>none
def lg:AV→AV→Bool
 | .int k a,.int l b=>k==l&&a==b
 | .str a,.str b=>a.data.toList==b.data.toList
 | .bool a,.bool b=>a==b
 | _,_=>false
def pG:List AV→List AV→Bool
 | [],[]=>true
 | x::xs,y::ys=>lg x y&&pG xs ys
 | _,_=>false
def iY:AV→AV→Bool
 | .agg xs,.agg ys=>pG xs ys
 | x,y=>lg x y
def n6:AV→Bool
 | .int .i64 _=>true
 | _=>false
def jx (t:TypeId)(k:AV):Bool:=
 match P.underlying t,k with
 | some (.int q),.int k _=>q==k
 | some .string,.str _=>true
 | some (.array n e),.agg cs=>cs.length==n&&cs.all n6&&(P.underlying e matches some (.int .i64))&&iR P e==some 1
 | some (.struct fs), .agg cs => cs.length == fs.size && cs.all n6 && fs.toList.zipIdx.all (fun (f, i) => f.name != "_" && f.offset == i && (P.underlying f.type matches some (.int .i64)) && iR P f.type == some 1) && !P.stoodInHeld t
 | _,_=>false
def sameShape:AV→AV→Bool
 | .int k _,.int l _=>k==l
 | .str _,.str _=>true
 | .agg xs,.agg ys=>xs.length==ys.length&&xs.all n6&&ys.all n6
 | _,_=>false
def kQ (k:AV):List (AV × AV)→Option (Option AV)
 | []=>some none
 | (k',v)::es=>if sameShape k k' then (if iY k k' then some (some v) else kQ k es) else none
def y9 (k v:AV):List (AV × AV)→Option (List (AV × AV))
 | []=>some [(k,v)]
 | (k',v')::es=>if sameShape k k' then (if iY k k' then some ((k,v)::es) else (y9 k v es).map ((k',v') :: ·)) else none
def hZ (h:AHeap)(t:TypeId)(m k:AV)(ok:Bool):Option AV:=
 (P.underlying t).bind fun
  | .map kt et=>if jx P kt k=false then none else
   (match m with
    | .qV=>some []
    | .mp id=>(h.get id).bind fun | .map es=>some es | _=>none
    | _=>none).bind fun es=>
   (kQ k es).bind fun
   | some v=>some (if ok then .tup [v,.bool true] else v)
   | none=>(ls P et).map fun z=>if ok then .tup [z,.bool false] else z
  | _=>none
def kC (h:AHeap)(t:TypeId)(m k v:AV):Option AHeap:=
 (P.underlying t).bind fun
  | .map kt _=>if jx P kt k=false∨v.nZ=false then none else
   match m with
   | .mp id=>(h.get id).bind fun | .map es=>(y9 k v es).map fun xo=>h.put id (.map xo) | _=>none
   | _=>none
  | _=>none
def za (h:AHeap)(t:TypeId)(x:AV):Option AV:=
 (P.underlying t).bind fun
  | .slice _=>match x with
   | .nils=>some (.int .i64 0)
   | .fz _ n _=>some (.int .i64 n)
   | .rs _ _ n _=>some (.int .i64 n)
   | _=>none
  | .string=>match x with
   | .str s=>some (.int .i64 s.size)
   | _=>none
  | .map _ _=>match x with
   | .qV=>some (.int .i64 0)
   | .mp id=>(h.get id).bind fun | .map es=>some (.int .i64 es.length) | _=>none
   | _=>none
  | _=>none
def xp (h:AHeap)(t t2:TypeId)(d x:AV):Option (AV × AHeap):=
 (P.underlying t).bind fun
  | .slice e=>(P.info? e).bind fun i=>(fW h i.size x).bind fun (new,m)=>
   if ly P t2 x=false then none else
   match d with
   | .rs id off len lq=>if id=0 then (if m=0 then some (.int .i64 0,h) else none) else (h.get id).bind fun
    | .cells cs=>if lq=i.size∧m≤len∧off+m*i.size≤cs.length then some (.int .i64 m,h.put id (.cells (fm cs off new))) else none
    | _=>none
   | .nils=>if m=0 then some (.int .i64 0,h) else none
   | _=>none
  | _=>none
def pH (h:AHeap)(t:TypeId)(x:AV):Option AHeap:=
 (P.underlying t).bind fun ty=>match x with
 | .qV=>some h
 | .mp id=>(h.get id).bind fun | .map _=>some (h.put id (.map [])) | _=>none
 | .rs id off len lq=>if len=0 then some h else if id=0 then none else match ty with
  | .slice e=>(P.info? e).bind fun i=>(ls P e).bind fun z=>(h.get id).bind fun
   | .cells cs=>if lq=i.size∧z.cells.length=i.size∧i.size≠0∧z.cells.all AV.dp∧off+len*lq≤cs.length then some (h.put id (.cells (fm cs off (lu z.cells len)))) else none
   | _=>none
  | _=>none
 | _=>none
def kn (h:AHeap)(t:TypeId)(l c:AV):Option (AV × AHeap):=
 match l,c with
 | .int .i64 l,.int .i64 c=>
  (P.underlying t).bind fun
   | .slice e=>(P.info? e).bind fun i=>(ls P e).bind fun z=>
    if 0≤l∧l≤c∧c*i.bytes≤jw∧z.cells.length=i.size∧i.size≠0∧c≤1099511627776∧z.cells.all AV.dp then some (.rs h.next 0 l.toNat i.size,h.alloc (.cells (lu z.cells l.toNat))) else none
   | _=>none
 | _,_=>none
def Sz:List AV→Option (List UInt8)
 | []=>some []
 | .int .u8 n::xs=>(Sz xs).map fun l=>UInt8.ofNat n.toNat::l
 | _::_=>none
def MF (e:TypeId):Bool:=(P.underlying e matches some (.int .u8))&&iR P e==some 1
def rG (h:AHeap)(src dst:TypeId)(x:AV):Option AV:=
 match P.underlying src,P.underlying dst with
 | some (.slice e),some .string=>if MF P e then (fW h 1 x).bind fun (cs,_)=>(Sz cs).map fun l=>.str ⟨l.toArray⟩ else none
 | some .string,some (.slice e)=>match x with
  | .str s=>if MF P e then some (.fz (s.data.toList.map fun b=>.int .u8 b.toNat) s.size false) else none
  | _=>none
 | some (.slice _),some (.slice e)=>match x with
  | .fz cs n true=>if src==dst&&MF P e&&0<cs.length then some (.fz cs n true) else none
  | _=>none
 | _,_=>(x.jZ).bind fun v=>(lK P (convert src dst v)).bind uB
def G4 (op:BinOp)(x y:ByteArray):Option AV:=
 let a:=x.data.toList
 let b:=y.data.toList
 match op with
 | .add=>if x.size+y.size≤1099511627776 then some (.str (x++y)) else none
 | .eql=>some (.bool (a==b))
 | .neq=>some (.bool (!(a==b)))
 | .lss=>some (.bool (Op.bytesLess a b))
 | .leq=>some (.bool (Op.bytesLess a b||a==b))
 | .gtr=>some (.bool (!(Op.bytesLess a b||a==b)))
 | .geq=>some (.bool (!Op.bytesLess a b))
 | _=>none
def G5:BinOp→Option Bool
 | .eql=>some true
 | .neq=>some false
 | _=>none
def rH (op:BinOp)(t:TypeId)(x y:AV):Option AV:=
 match x,y with
 | .str a,.str b=>G4 op a b
 | .ptr ..,.sX | .sX,.ptr .. | .fp ..,.sX=>(G5 op).bind fun vU=>if (P.underlying t matches some (.pointer _)) then some (.bool (!vU)) else none
 | .fz (_::_) ..,.nils | .rs (_+1) ..,.nils=>(G5 op).bind fun vU=>if (P.underlying t matches some (.slice _)) then some (.bool (!vU)) else none
 | .agg _,.agg _=>(G5 op).bind fun vU=>if jx P t x&&jx P t y&&sameShape x y && !P.eqGuardType P.depth t then some (.bool (iY x y==vU)) else none
 | x,y=>(x.jZ).bind fun a=>(y.jZ).bind fun b=>(lK P (binOp op t a b)).bind uB
def pI (op:Value→Value→Sem Value):Value→List Value→Option Value
 | v,[]=>some v
 | v,x::xs=>(lK P (op v x)).bind fun u=>pI op u xs
structure RS where
 ρ:Nat→AV
 bx:Nat→Option (List AV)
 h:AHeap
def RS.set (s:RS)(d:Option Nat)(v:AV):RS:=
 match d with
 | none=>s
 | some d=>{s with ρ:=fun t=>bif ajy t d then v else s.ρ t}
def RS.box (s:RS)(k:Nat)(cs:List AV):RS:={s with bx:=fun t=>bif ajy t k then some cs else s.bx t}
abbrev CallF:=FuncId→List AV→AHeap→Option (AV × AHeap)
def zb (k:Nat)(ρ:Nat→AV):List Nat→Bool
 | []=>true
 | t::ts=>(match ρ t with | .lp j _=>j != k | _=>true)&&zb k ρ ts
def lh (s:RS)(bb ds:List Nat)(o:Oper)(cs:List AV):Option RS:=
 if cs.all AV.dp then
  match o.dst with
  | some d=>if bb.contains d then (if zb d s.ρ (ds.filter fun t=>!Nat.beq t d) then some ((s.box d cs).set (some d) (.lp d 0)) else none) else some ({s with h:=s.h.alloc (.cells cs)}.set (some d) (.ptr s.h.next 0))
  | none=>none
 else none
def zc:AV→Option Bool
 | .bool b=>some b
 | _=>none
def jI (s:RS)(o:Oper)(b:Builtin)(ts:List TypeId)(args:List AV):Option RS:=
 match b,ts,args with
 | .len,[t],[x]=>(za P s.h t x).map fun v=>s.set o.dst v
 | .append,[t,t2],[x,y]=>(eC P s.h t t2 x y).map fun (v,h)=>{s with h}.set o.dst v
 | .copy,[t,t2],[x,y]=>(xp P s.h t t2 x y).map fun (v,h)=>{s with h}.set o.dst v
 | .clear,[t],[x]=>(pH P s.h t x).map fun h=>{s with h}.set o.dst (.tup [])
 | .min,_,x::xs=>(x.jZ).bind fun v=>(mc xs).bind fun vs=>(pI P Builtin.min2 v vs).bind fun u=>(uB u).map fun r=>s.set o.dst r
 | .max,_,x::xs=>(x.jZ).bind fun v=>(mc xs).bind fun vs=>(pI P Builtin.max2 v vs).bind fun u=>(uB u).map fun r=>s.set o.dst r
 | _,_,_=>none
def nr (bx:Nat→Option (List AV))(h:AHeap)(t:TypeId)(x:AV):Option AV:=
 match x with
 | .lp k off=>(bx k).bind fun cs=>me P t cs off
 | .fp cs off=>if cs.isEmpty then none else me P t cs off
 | .ptr id off=>(h.get id).bind fun | .cells cs=>me P t cs off | _=>none
 | _=>none
def vZ:AV→Option AV
 | .ptr id off=>some (.ptr id off)
 | .lp k off=>some (.lp k off)
 | .fp cs off=>some (.fp cs off)
 | _=>none
def zd:AV→Nat→Option AV
 | .tup vs,i=>vs[i]?
 | _,_=>none
def tM (bb:List Nat)(o:Oper)(t:TypeId)(x:AV):Option (List AV × Nat × Nat):=
 match o.dst,x with
 | some d,.fz (c::cs) n true=>bif bb.contains d then (match P.underlying t with
   | some (.slice e)=>match iR P e with
    | some z=>bif ajy (c::cs).length (n*z) then some (c::cs,n,z) else none
    | none=>none
   | _=>none) else none
 | _,_=>none
def wa (bb:List Nat)(s:RS)(o:Oper)(t:TypeId)(x:AV):RS:=
 match tM P bb o t x with
 | none=>s.set o.dst x
 | some (cs,n,z)=>{s with h:=s.h.alloc (.cells cs)}.set o.dst (.rs s.h.next 0 n z)
def MG:List Nat→Nat→Nat
 | [],_=>0
 | k::ks,d=>bif ajy (k % 1000000) d&&akn 1000000 k then k / 1000000 else MG ks d
def Bh (n:Nat):AV→AV
 | .nils=>.rs 0 0 0 n
 | x=>x
def G6 (n:Nat):Nat→List AV→List AV
 | _,[]=>[]
 | j,x::xs=>(match n / 100 / 10 ^ j % 10 with | 0=>x | k=>Bh k x)::G6 n (j+1) xs
def Qs (cs:List AV):Nat→List AV
 | 0=>cs
 | n=>bif akn 100 n then G6 n 0 cs else cs.map (Bh n)
def G7 (bb:List Nat)(d:Option Nat)(cs:List AV):List AV:=
 match d with
 | none=>cs
 | some d=>Qs cs (MG bb d)
def TE (bb:List Nat)(d:Option Nat):AV→AV
 | .agg cs=>.agg (G7 bb d cs)
 | x=>x
def KY (h:AHeap)(x:AV):Option (AV × AHeap):=
 if x.gN then some (x,h) else
 match x with
 | .rs id off len lq=>if id=0 then (if len=0 then some (.fz [] 0 false,h) else none) else (h.get id).bind fun
  | .cells cs=>if off+len*lq≤cs.length∧eL ((cs.drop off).take (len*lq))=true then some (.fz ((cs.drop off).take (len*lq)) len false,h.kill id) else none
  | _=>none
 | _=>none
def CJ (h:AHeap):List AV→Option (List AV × AHeap)
 | []=>some ([],h)
 | x::xs=>(KY h x).bind fun a=>(CJ a.2 xs).map fun b=>(a.1::b.1,b.2)
def mC (k:Nat)(h:AHeap)(x:AV):Option (AV × AHeap):=
 match k with
 | 0=>
  match x with
  | .nils=>some (.fz [] 0 false,h)
  | .rs id off len lq=>if id=0 then (if len=0 then some (.fz [] 0 false,h) else none) else (h.get id).bind fun
   | .cells cs=>if off+len*lq≤cs.length then (CJ (h.kill id) ((cs.drop off).take (len*lq))).map fun r=>(.fz r.1 len false,r.2) else none
   | _=>none
  | .fz cs n _=>some (.fz cs n false,h)
  | _=>none
 | k+1=>
  match x with
  | .nils=>some (.rs 0 0 0 (k+1),h)
  | .fz [] 0 true=>some (.rs 0 0 0 (k+1),h)
  | .rs id off len lq=>some (.rs id off len lq,h)
  | _=>none
def Wr (bb:List Nat)(d:Option Nat):Bool:=
 match d with
 | none=>false
 | some d=>bb.contains (1000000000+d)
def CK (bb:List Nat)(d:Option Nat)(x:AV × AHeap):Option (AV × AHeap):=
 bif Wr bb d then mC 0 x.2 x.1 else some x
def G8 (cf:CallF)(bb ds:List Nat)(e:Operand→AV)(s:RS)(o:Oper):Option RS:=
 let v (r:Option AV):Option RS:=r.map fun x=>s.set o.dst x
 match o.op with
 | .move x | .assign x=>some (s.set o.dst (e x))
 | .pick c a b=>(zc (e c)).map fun t=>s.set o.dst (if t then e a else e b)
 | .alloc t=>(ls P t).bind fun z=>lh s bb ds o (G7 bb o.dst z.cells)
 | .box _ x=>lh s bb ds o (e x).cells
 | .build t ps=>v ((G2 P t (ps.toList.map fun (i,x)=>(i,e x))).map (TE bb o.dst))
 | .buildSlice t n ps=>(km P t n (ps.toList.map fun (i,x)=>(i,e x))).map fun x=>wa P bb s o t x
 | .load t a=>v (nr P s.bx s.h t (e a))
 | .store t a x=>if o.dst.isSome then none else
  match e a with
  | .lp k off=>(s.bx k).bind fun cs=>(kB P t cs off (e x)).map fun iO=>s.box k iO
  | .ptr id off=>(s.h.get id).bind fun | .cells cs=>(kB P t cs off (e x)).map fun iO=>{s with h:=s.h.put id (.cells iO)} | _=>none
  | _=>none
 | .nilCheck x=>v (vZ (e x))
 | .binOp op t x y _=>v (rH P op t (e x) (e y))
 | .unOp op _ x=>v ((e x).jZ.bind fun a=>(lK P (Op.unary op a)).bind uB)
 | .convert a b x=>v (rG P s.h a b (e x))
 | .makeFunc (.func f) first cap=>if first.isEmpty∧(cap.toList.map e).all AV.dp then v (some (.fn f (cap.toList.map e))) else none
 | .makeMap _ none=>some ({s with h:=s.h.alloc (.map [])}.set o.dst (.mp s.h.next))
 | .makeSlice t l c=>(kn P s.h t (e l) (e c)).map fun (x,h)=>{s with h}.set o.dst x
 | .slice t x lo hi mx=>v (pF P t (e x) (lo.map e) (hi.map e) (mx.map e))
 | .fieldAddr t x f=>v (tL P t (e x) f)
 | .field t x f=>v (G3 P t (e x) f)
 | .indexAddr t x i=>v (iS P t (e x) (e i))
 | .index t x i=>v (vY P t (e x) (e i))
 | .lookup t m k ok=>v (hZ P s.h t (e m) (e k) ok)
 | .mapUpdate t m k x | .insert t m k x=>if o.dst.isSome then none else (kC P s.h t (e m) (e k) (e x)).map fun h=>{s with h}
 | .extract t i=>v (zd (e t) i)
 | .call {callee:=.builtin b,args,argTypes}=>jI P s o b argTypes.toList (args.toList.map e)
 | .call {callee:=.value f,args,..}=>
  match e f with
  | .fn f cap=>let as:=args.toList.map e
    if as.all AV.nZ then ((cf f (as++cap) s.h).bind (CK bb o.dst)).map fun (r,h)=>{s with h}.set o.dst r else none
  | _=>none
 | _=>none
def CL (cf:CallF)(bb ds:List Nat)(s:RS)(o:Oper):Option RS:=G8 P cf bb ds (cZ s.ρ) s o
def kD (ops:List Oper)(ρ:Nat→AV)(o:Oper):Option Bool:=
 match o.guard with
 | none=>some true
 | some (j,want)=>((ops[j]?).bind (·.dst)).bind fun d=>match ρ d with
  | .bool b=>some (b==want)
  | .tup []=>some false
  | _=>none
def rI (cf:CallF)(bb:List Nat)(ops:List Oper)(s:RS)(o:Oper):Option RS:=
 (kD ops s.ρ o).bind fun w=>if w then CL P cf bb (ops.filterMap (·.dst)) s o else some (s.set o.dst (.tup []))
def xY (cf:CallF)(bb:List Nat)(ops:List Oper):RS→List Oper→Option RS
 | s,[]=>some s
 | s,o::os=>(rI P cf bb ops s o).bind fun s'=>xY cf bb ops s' os
end
structure oT where
 rb:List Nat:=[]
 wb:Option Nat:=none
 rh:List Nat:=[]
 wh:Bool:=false
 al:Bool:=false
def bX (bb:List Nat)(e:Operand→AV)(o:Oper):oT:=
 match o.op with
 | .alloc _ | .box _ _=>match o.dst with
  | some d=>if bb.contains d then {wb:=some d,al:=true} else {wh:=true}
  | none=>{}
 | .load _ a=>match e a with
  | .lp k _=>{rb:=[k]}
  | .ptr id _=>{rh:=[id]}
  | _=>{}
 | .store _ a _=>match e a with
  | .lp k _=>{rb:=[k],wb:=some k}
  | _=>{wh:=true}
 | .convert _ _ x=>match e x with
  | .rs id _ _ _=>{rh:=[id]}
  | _=>{}
 | .lookup _ m _ _=>match e m with
  | .mp id=>{rh:=[id]}
  | _=>{}
 | .buildSlice _ _ _=>match o.dst with
  | some d=>if bb.contains d then {wh:=true} else {}
  | none=>{}
 | .makeMap _ _ | .makeSlice _ _ _ | .mapUpdate _ _ _ _ | .insert _ _ _ _=>{wh:=true}
 | .call {callee:=.builtin b,args,..}=>match b,args.toList.map e with
  | .len,[.mp id]=>{rh:=[id]}
  | .len,_ | .min,_ | .max,_=>{}
  | _,_=>{wh:=true}
 | .call _=>{wh:=true}
 | _=>{}
structure qW where
 o:Oper
 f:oT
 s:RS
 s':RS
def qW.out (e:qW):AV:=
 match e.o.dst with
 | some d=>e.s'.ρ d
 | none=>.any
def oT.quiet (f:oT):Bool:=f.rb.isEmpty&&f.wb.isNone&&f.rh.isEmpty && !f.wh
def TF (k:Nat):AV→Bool
 | .lp j _=>j==k
 | _=>false
def qW.mP (x y:qW):Bool:=
 (match x.f.wb with
  | some k=>!y.f.rb.contains k&&y.f.wb != some k
  | none=>true) &&
 (!x.f.wh||(!y.f.wh&&y.f.rh.all fun id=>ajy (x.s.h.ver id) (x.s'.h.ver id)))
def mQ:List Nat→List Oper→List Nat
 | acc,[]=>acc
 | acc,o::os=>mQ (acc++[o.after.toList.foldl (fun m e=>bif Region.binds .any e then m ||| (2 ^ e.on ||| acc.getD e.on 0) else m) 0]) os
def CM (ops:Array Oper)(x y:Oper):Bool:=
 (match x.dst with
  | some d=>!(y.looksAt ops).contains d&&y.dst != some d
  | none=>true)
def yI:Nat→List Oper→Bool
 | _,[]=>true
 | k,o::os=>o.after.toList.all (fun e=>!Region.binds .any e||Nat.blt e.on k)&&yI (k+1) os
def uC {α:Type}(p:Nat→α→Nat→α→Bool):Nat→List α→Bool
 | _,[]=>true
 | i,x::xs=>(xs.zipIdx (i+1)).all (fun (y,j)=>p i x j y)&&uC p (i+1) xs
def sI (ops:Array Oper)(ms:List Nat):Bool:=
 yI 0 ops.toList &&
 uC (fun i x j y=>(ms.getD j 0).testBit i||(CM ops x y&&CM ops y x)) 0 ops.toList
def uD (P:Program)(cf:CallF)(bb:List Nat)(ops:List Oper):RS→List Oper→Option (List qW × RS)
 | s,[]=>some ([],s)
 | s,o::os=>
  (kD ops s.ρ o).bind fun w=>
   (if w then CL P cf bb (ops.filterMap (·.dst)) s o else some (s.set o.dst (.tup []))).bind fun s1=>
    (uD P cf bb ops s1 os).map fun (l,r)=>({o,f:=if w then bX bb (cZ s.ρ) o else {},s,s':=s1}::l,r)
def yJ (ms:List Nat)(ds:List Nat)(s0:RS)(es:List (qW × Nat))(x:qW)(i:Nat):Bool:=
 match x.f.al,x.o.dst with
 | true,some d=>zb d s0.ρ (ds.filter fun t=>!Nat.beq t d)&&es.all fun (y,j)=>ajy i j||(ms.getD j 0).testBit i || !TF d y.out
 | _,_=>true
def nt (P:Program)(cf:CallF)(bb:List Nat)(ops:Array Oper)(s:RS):Option RS:=
 let ms:=mQ [] ops.toList
 if sI ops ms then
  (uD P cf bb ops.toList s ops.toList).bind fun (es,r)=>
   let is:=es.zipIdx
   let CN:=is.filter fun (x,_)=>!x.f.quiet
   if CN.all (fun (x,i)=>yJ ms (ops.toList.filterMap (·.dst)) s is x i&&CN.all fun (y,j)=>akn j i||(ms.getD j 0).testBit i||(x.mP y&&y.mP x)) then some r else none
 else none
structure St where
 vars:List AV
 VT:List (Option (List AV))
 h:AHeap
inductive Ex where
 | norm
 | exit (id:Nat)
 | ret
def look {α:Type}(d:α):List Nat→List α→Nat→α
 | k::ks,v::vs,t=>bif ajy t k then v else look d ks vs t
 | _,_,_=>d
structure b4 where
 keep:List Nat
 bb:List Nat
 dead:List (Nat × List Nat):=[]
 CO:List (Nat × List (Nat × Option Nat × Nat)):=[]
 G9:List (Nat × List (Nat × Option Nat × Nat)):=[]
def jN {α:Type}(r:Nat):List (Nat × List α)→List α
 | []=>[]
 | (k,l)::ks=>bif ajy k r then l else jN r ks
def St.open (A:b4)(s:St):RS:={ρ:=look AV.any A.keep s.vars,bx:=look (none:Option (List AV)) A.bb s.VT,h:=s.h}
def Ey (bb:List Nat)(ρ:Nat→AV)(t:Nat):AV:=
 match ρ t with
 | .lp k off=>bif ajy k t&&ajy off 0&&bb.contains k then .lp k off else .any
 | v=>v
def RS.shut (A:b4)(s:RS):St:={vars:=A.keep.map (Ey A.bb s.ρ),VT:=A.bb.map s.bx,h:=s.h}
def RS.rJ (A:b4)(r:Nat)(s:RS):St:=
 match jN r A.dead with
 | []=>s.shut A
 | ds=>{vars:=A.keep.map (fun t=>bif ds.contains t then .any else Ey A.bb s.ρ t),VT:=A.bb.map (fun k=>bif ds.contains k then none else s.bx k),h:=s.h}
def CP (s:RS)(p:Nat × Option Nat × Nat):Option RS:=
 match p.2.1 with
 | none=>(mC p.2.2 s.h (s.ρ p.1)).map fun (y,h)=>{s with h:=h,ρ:=fun t=>bif ajy t p.1 then y else s.ρ t}
 | some i=>
  match s.bx p.1 with
  | some cs=>(cs[i]?).bind fun x=>(mC p.2.2 s.h x).map fun (y,h)=>{s with h:=h,bx:=fun k=>bif ajy k p.1 then some (cs.set i y) else s.bx k}
  | none=>none
def oU (s:RS):List (Nat × Option Nat × Nat)→Option RS
 | []=>some s
 | p::ps=>(CP s p).bind fun s=>oU s ps
def oV (f:St→Option (Ex × St)):Nat→St→Option (Ex × St)
 | 0,_=>none
 | n+1,s=>(f s).bind fun
  | (.norm,s')=>oV f n s'
  | r=>some r
def cW (P:Program)(cf:CallF)(A:b4)(n:Nat):Code→St→Option (Ex × St)
 | .skip,s=>some (.norm,s)
 | .label _,s=>some (.norm,s)
 | .ret,s=>some (.ret,s)
 | .exit id,s=>some (.exit id,s)
 | .seq a b,s=>(cW P cf A n a s).bind fun
  | (.norm,s')=>cW P cf A n b s'
  | r=>some r
 | .cond c x y,s=>(zc (cZ (s.open A).ρ c)).bind fun t=>if t then cW P cf A n x s else cW P cf A n y s
 | .block id body,s=>(cW P cf A n body s).map fun
  | (.exit i,s')=>(if i=id then .norm else .exit i,s')
  | r=>r
 | .loop body,s=>oV (cW P cf A n body) n s
 | .region r ops draw,s=>(oU (s.open A) (jN r A.CO)).bind fun s=>((if draw then nt P cf A.bb ops s else xY P cf A.bb ops.toList s ops.toList)).bind fun s'=>(oU s' (jN r A.G9)).map fun s'=>(.norm,s'.rJ A r)
 | _,_=>none
def Ha (P:Program)(s:RS):List ResultVar→Option (List AV)
 | []=>some []
 | .tmp t::rs=>(Ha P s rs).map fun l=>s.ρ t::l
 | .cell a t::rs=>(nr P s.bx s.h t (s.ρ a)).bind fun v=>(Ha P s rs).map fun l=>v::l
def aK (P:Program)(s:RS)(rs:List ResultVar):Option AV:=
 (Ha P s rs).bind fun l=>if l.all AV.nZ then (match l with | [v]=>some v | l=>some (.tup l)) else none
def rK (keep:List Nat)(args:List AV):List AV:=keep.map fun t=>args.getD t AV.any
mutual
def dk (h:AHeap):Nat→AV→Option AV
 | 0,_=>none
 | n+1,x=>
  match x with
  | .ptr id off=>(h.get id).bind fun | .cells cs=>(b6 h n cs).map fun iO=>.fp iO off | _=>none
  | .rs id off len lq=>if id=0 then (if len=0 then some (.fz [] 0 false) else none) else (h.get id).bind fun | .cells cs=>if off+len*lq≤cs.length then (b6 h n ((cs.drop off).take (len*lq))).map fun iO=>.fz iO len false else none | _=>none
  | .agg cs=>(b6 h n cs).map .agg
  | .tup cs=>(b6 h n cs).map .tup
  | .fn f cs=>(b6 h n cs).map (.fn f)
  | x=>if x.gN then some x.mO else none
def b6 (h:AHeap):Nat→List AV→Option (List AV)
 | 0,_=>none
 | _+1,[]=>some []
 | n+1,x::xs=>(dk h n x).bind fun y=>(b6 h n xs).map fun ys=>y::ys
end
mutual
def jO (h:AHeap):Nat→AV→Option AV
 | 0,_=>none
 | n+1,x=>
  match x with
  | .bool b=>some (.bool b)
  | .int k v=>some (.int k v)
  | .str s=>some (.str s)
  | .sX=>some .sX
  | .qV=>some .qV
  | .uA=>some .uA
  | .nils=>some (.fz [] 0 false)
  | .fz [] 0 _=>some (.fz [] 0 false)
  | .rs id off len lq=>if id=0 then (if len=0 then some (.fz [] 0 false) else none) else (h.get id).bind fun | .cells cs=>if off+len*lq≤cs.length then (fu h n ((cs.drop off).take (len*lq))).map fun iO=>.fz iO len false else none | _=>none
  | .agg cs=>(fu h n cs).map .agg
  | .tup cs=>(fu h n cs).map .tup
  | _=>none
def fu (h:AHeap):Nat→List AV→Option (List AV)
 | 0,_=>none
 | _+1,[]=>some []
 | n+1,x::xs=>(jO h n x).bind fun y=>(fu h n xs).map fun ys=>y::ys
end
def bH:AHeap:={get:=fun _=>none,ver:=fun _=>0,next:=1}
mutual
def eY (k:Nat):AV→Option AV
 | .bool b=>some (.bool b)
 | .int i n=>some (.int i n)
 | .str s=>some (.str s)
 | .sX=>some .sX
 | .qV=>some .qV
 | .uA=>some .uA
 | .nils=>some .nils
 | .ptr id off=>some (.ptr (id+k) off)
 | .rs id off len z=>if id=0 then some (.rs 0 off len z) else some (.rs (id+k) off len z)
 | .agg cs=>(dW k cs).map .agg
 | .tup cs=>(dW k cs).map .tup
 | _=>none
def dW (k:Nat):List AV→Option (List AV)
 | []=>some []
 | x::xs=>(eY k x).bind fun y=>(dW k xs).map fun ys=>y::ys
end
def jt (k:Nat):List AV→List AV
 | []=>[]
 | x::xs=>match eY k x with | some y=>y::jt k xs | none=>[]
def Hb (k:Nat):AObj→Option AObj
 | .cells cs=>some (.cells (jt k cs))
 | _=>none
def AHeap.gr (h h1:AHeap):AHeap:={get:=fun i=>bif Nat.blt i h.next then h.get i else (h1.get (i - h.next)).bind (Hb h.next),ver:=fun i=>bif Nat.blt i h.next then h.ver i else h.next+h1.ver (i - h.next),next:=h.next+h1.next}
def ba (x:AV):AV:=bif x.gN then x.mO else x
def bj (P:Program)(aW:FuncId→b4)(cf:CallF)(m:Nat)(f:FuncId)(args:List AV)(h:AHeap):Option (AV × AHeap):=
 (P.funcs[f]?).bind fun fn=>fn.body.bind fun c=>
  if args.length≤fn.ntmps then
   (cW P cf (aW f) m c {vars:=rK (aW f).keep args,VT:=(aW f).bb.map fun _=>none,h}).bind fun
    | (.norm,s) | (.ret,s)=>(aK P (s.open (aW f)) fn.results.toList).map fun r=>(r,s.h)
    | _=>none
  else none
structure tj where
 aW:FuncId→b4
 intr:FuncId→Option (List AV→AHeap→Option (AV × AHeap))
 pure:FuncId→Option Nat
 gr:FuncId→Bool:=fun _=>false
def iI (P:Program)(T:tj)(m:Nat):Nat→CallF
 | 0=>fun _ _ _=>none
 | n+1=>fun f args h=>
  match T.intr f with
  | some g=>g args h
  | none=>
   match T.pure f with
   | some deep=>if T.gr f then (b6 h deep args).bind fun us=>(bj P T.aW (iI P T m n) m f us bH).bind fun x=>(eY h.next x.1).map fun r=>(r,h.gr x.2) else
     if eL args then (bj P T.aW (iI P T m n) m f (fG args) bH).bind fun x=>(dk x.2 deep x.1).map fun r=>(r,h) else
     match b6 h deep args with
     | some as=>(bj P T.aW (iI P T m n) m f as bH).bind fun x=>(jO x.2 deep x.1).map fun r=>(r,h)
     | none=>bj P T.aW (iI P T m n) m f (args.map ba) h
   | none=>bj P T.aW (iI P T m n) m f (args.map ba) h
end Go.R
namespace Go.R
open Go
structure Steady (h h':AHeap):Prop where
 next:h.next≤h'.next
 keep:∀id,(h'.ver id=h.ver id∧h'.get id=h.get id)∨h.next≤h'.ver id
 wf:(∀id,h.ver id<h.next)→∀id,h'.ver id<h'.next
theorem Steady.refl (h:AHeap):Steady h h:=⟨aiQ _,fun _=>.inl ⟨rfl,rfl⟩,fun h=>h⟩
theorem Steady.trans {h h' h'':AHeap}(a:Steady h h')(b:Steady h' h''):Steady h h'':=
 ⟨ajF a.next b.next,fun id=>by
  rcases b.keep id with⟨h1,h2⟩| h1
  ·rcases a.keep id with⟨h3,h4⟩| h3
   ·exact .inl ⟨h1.trans h3,h2.trans h4⟩
   ·exact .inr (by rw [h1]; exact h3)
  ·exact .inr (ajF a.next h1),fun h=>b.wf (a.wf h)⟩
theorem beq_nat (a b:Nat):ajy a b=decide (a=b):=by
 by_cases h:a=b
 ·subst h; simp
 ·cases hb:ajy a b with
  | true=>exact absurd (aj2 hb) h
  | false=>simp [h]
theorem Steady.put (h:AHeap)(id:Nat)(o:AObj):Steady h (h.put id o):=by
 refine⟨aj5 _,fun i=>?_,fun hw i=>?_⟩
 ·by_cases hi:i=id
  ·right; simp [AHeap.put,beq_nat,hi]
  ·left; simp [AHeap.put,beq_nat,hi]
 ·have:=hw i
  by_cases hi:i=id
  ·simp [AHeap.put,beq_nat,hi]
  ·simp only [AHeap.put,beq_nat,hi,decide_false,cond_false]; omega
theorem Steady.kill (h:AHeap)(id:Nat):Steady h (h.kill id):=by
 refine⟨aj5 _,fun i=>?_,fun hw i=>?_⟩
 ·by_cases hi:i=id
  ·right; simp [AHeap.kill,beq_nat,hi]
  ·left; simp [AHeap.kill,beq_nat,hi]
 ·have:=hw i
  by_cases hi:i=id
  ·simp [AHeap.kill,beq_nat,hi]
  ·simp only [AHeap.kill,beq_nat,hi,decide_false,cond_false]; omega
structure Cx where
 β:Nat→Nat × Nat
 h:AHeap
 w:World
 base:Nat
def Live (h:AHeap)(id:Nat):Prop:=id<h.next∧(h.get id).isSome=true
def RO (c:Cx)(L:Nat→Prop)(b:Nat):Prop:=(∀id,Live c.h id→(c.β id).1≠b)∧¬L b
def Cx.len (c:Cx)(b:Nat):Nat:=((c.w.shape? b).map (·.2)).getD 0
mutual
def VR (c:Cx)(L:Nat→Prop):AV→Value→Prop
 | .any,_=>True
 | .bool b,v=>v = .bool b
 | .int k n,v=>v = .int k n
 | .str s,v=>v = .string s
 | .sX,v=>v = .pointer none
 | .ptr id off,v=>id<c.h.next∧∃a,v = .pointer (some a)∧(Live c.h id→a=⟨(c.β id).1,(c.β id).2+off,none⟩)
 | .lp _ _,_=>False
 | .fp cs off,v=>∃b o,v = .pointer (some ⟨b,o+off,none⟩)∧(cs=[]∨(RO c L b∧Cells c L cs b o))
 | .nils,v=>v = .slice none 0 0
 | .fz cs n ex,v=>∃a cap,v = .slice a n cap∧n≤cap∧(ex=true→cap=n)∧(a.isSome=true∨cs=[]∧cap=0)∧(cs=[]∨∃b o,a=some ⟨b,o,none⟩∧RO c L b∧(ex=true→c.base≤b)∧Cells c L cs b o)
 | .rs id off len lq,v=>(id=0∧off=0∧len=0∧∃a,v = .slice a 0 0)∨id≠0∧id<c.h.next∧∃a cap,v = .slice a len cap∧len≤cap∧a.isSome=true∧(Live c.h id→(a=some ⟨(c.β id).1,(c.β id).2+off,none⟩∧(c.β id).2+off+cap*lq=c.len (c.β id).1)∨cap=0)
 | .qV,v=>v = .map none
 | .mp id,v=>id<c.h.next∧∃r,v = .map (some r)∧(Live c.h id→r=(c.β id).1)
 | .fn f cap,v=>∃vs:Array Value,v = .func (.func f) #[] vs∧VRs c L cap vs.toList
 | .uA,v=>v = .nilFunc
 | .agg cs,v=>∃vs:Array Value,v = .agg vs∧VRs c L cs vs.toList
 | .tup cs,v=>∃vs:Array Value,v = .tuple vs∧VRs c L cs vs.toList
def VRs (c:Cx)(L:Nat→Prop):List AV→List Value→Prop
 | [],[]=>True
 | x::xs,v::vs=>VR c L x v∧VRs c L xs vs
 | _,_=>False
def Cells (c:Cx)(L:Nat→Prop):List AV→Nat→Nat→Prop
 | [],_,_=>True
 | x::xs,b,o=>(∃v,c.w.cell? ⟨b,o,none⟩=some v∧v.oneCell'=true∧VR c L x v)∧Cells c L xs b (o+1)
end
def kR (w w':World)(b:Nat):Prop:=
 w'.heap[b]? = w.heap[b]?∨∃(C:Array Value) (e lo hi Qc mZ:Nat),w.heap[b]? = some (.cells C e (lo,hi))∧w'.heap[b]? = some (.cells C e (Qc,mZ))∧((lo=hi∨C.size≤lo)→(Qc=mZ∨C.size≤Qc))
theorem kR.trans {w w' w'':World}{b:Nat}(h:kR w w' b)(k:kR w' w'' b):kR w w'' b:=by
 rcases h with h | ⟨C,e,lo,hi,Qc,mZ,h1,h2,h3⟩<;>rcases k with k | ⟨C',e',l1,i1,l2,i2,k1,k2,k3⟩
 ·exact .inl (k.trans h)
 ·exact .inr ⟨C',e',l1,i1,l2,i2,h ▸ k1,k2,k3⟩
 ·exact .inr ⟨C,e,lo,hi,Qc,mZ,h1,k.trans h2,h3⟩
 ·rw [h2] at k1
  simp only [aiL,Obj.cells.injEq,aiV] at k1
  obtain⟨rfl,rfl,rfl,rfl⟩:=k1
  exact .inr ⟨C,e,lo,hi,l2,i2,h1,k2,fun x=>k3 (h3 x)⟩
theorem kR.cell {w w':World}{b:Nat}(h:kR w w' b)(o:Nat):w'.cell? ⟨b,o,none⟩=w.cell? ⟨b,o,none⟩:=by
 rcases h with h | ⟨C,e,lo,hi,Qc,mZ,h1,h2,_⟩
 ·simp only [World.cell?,h]
 ·simp only [World.cell?,h1,h2]
structure Ext (c:Cx)(Lo:Nat→Prop)(c':Cx)(nb:Nat→Prop):Prop where
 next:c.h.next≤c'.h.next
 live:∀id,id<c.h.next→Live c'.h id→Live c.h id∧c'.β id=c.β id∧c'.len (c.β id).1=c.len (c.β id).1
 size:c.w.heap.size≤c'.w.heap.size
 keep:∀b,b<c.w.heap.size→¬Lo b→(∀id,Live c.h id→(c.β id).1≠b)→kR c.w c'.w b
 exact:∀b,b<c.base→c'.w.heap[b]? = c.w.heap[b]?
 base:c'.base=c.base
 Qt:∀id,Live c'.h id→c.w.heap.size≤(c'.β id).1∨∃vV,Live c.h vV∧(c.β vV).1=(c'.β id).1
 own:∀b,Lo b→nb b
 grow:∀b,nb b→Lo b∨c.w.heap.size≤b
 os:c'.w.os=c.w.os
 tape:c'.w.tape=c.w.tape
 output:c'.w.output=c.w.output
theorem Ext.refl (c:Cx)(Lo:Nat→Prop):Ext c Lo c Lo:=
 ⟨aiQ _,fun _ _ h=>⟨h,rfl,rfl⟩,aiQ _,fun _ _ _ _=>.inl rfl,fun _ _=>rfl,rfl,fun id h=>.inr ⟨id,h,rfl⟩,fun _ h=>h,fun _ h=>.inl h,rfl,rfl,rfl⟩
theorem Ext.trans {c c' c'':Cx}{L L' L'':Nat→Prop}(h:Ext c L c' L')(k:Ext c' L' c'' L''):Ext c L c'' L'' where
 next:=ajF h.next k.next
 live:=fun id hi hl=>by
  obtain⟨l1,b1,s1⟩:=k.live id (ajk hi h.next) hl
  obtain⟨l0,b0,s0⟩:=h.live id hi l1
  refine⟨l0,b1.trans b0,?_⟩
  rw [b0] at s1
  exact s1.trans s0
 size:=ajF h.size k.size
 keep:=fun b hb hL hi=>by
  have e1:=h.keep b hb hL hi
  refine e1.trans (k.keep b (ajk hb h.size) (fun hL'=>?_) (fun id hl he=>?_))
  ·rcases h.grow b hL' with h1 | h1
   ·exact hL h1
   ·omega
  ·rcases h.Qt id hl with h1 | ⟨vV,h1,h2⟩
   ·omega
   ·exact hi vV h1 (h2.trans he)
 exact:=fun b hb=>(k.exact b (h.base ▸ hb)).trans (h.exact b hb)
 base:=k.base.trans h.base
 Qt:=fun id hl=>by
  rcases k.Qt id hl with h1 | ⟨id1,h1,h2⟩
  ·exact .inl (ajF h.size h1)
  ·rcases h.Qt id1 h1 with h3 | ⟨vV,h3,h4⟩
   ·exact .inl (h2 ▸ h3)
   ·exact .inr ⟨vV,h3,h4.trans h2⟩
 own:=fun b hb=>k.own b (h.own b hb)
 grow:=fun b hb=>by
  rcases k.grow b hb with h1 | h1
  ·exact h.grow b h1
  ·exact .inr (ajF h.size h1)
 os:=k.os.trans h.os
 tape:=k.tape.trans h.tape
 output:=k.output.trans h.output
def un (L0 Lo:Nat→Prop):Nat→Prop:=fun b=>L0 b∨Lo b
theorem ze {w w':World}{b:Nat}(h:w'.heap[b]? = w.heap[b]?)(o:Nat):w'.cell? ⟨b,o,none⟩=w.cell? ⟨b,o,none⟩:=by
 simp only [World.cell?,h]
theorem RO.ext {c c':Cx}{L0 Lo nb:Nat→Prop}{b:Nat}(h:RO c (un L0 Lo) b)(e:Ext c Lo c' nb)(hb:b<c.w.heap.size):RO c' (un L0 nb) b:=by
 refine⟨fun id hl he=>?_,fun hL=>?_⟩
 ·rcases e.Qt id hl with h1 | ⟨vV,h1,h2⟩
  ·omega
  ·exact h.1 vV h1 (h2.trans he)
 ·rcases hL with h1 | h1
  ·exact h.2 (.inl h1)
  ·rcases e.grow b h1 with h2 | h2
   ·exact h.2 (.inr h2)
   ·omega
theorem Ext.cell {c c':Cx}{L0 Lo nb:Nat→Prop}{b:Nat}(e:Ext c Lo c' nb)(h:RO c (un L0 Lo) b)(hb:b<c.w.heap.size)(o:Nat):c'.w.cell? ⟨b,o,none⟩=c.w.cell? ⟨b,o,none⟩:=
 (e.keep b hb (fun h1=>h.2 (.inr h1)) h.1).cell o
theorem zf {c c':Cx}{Lo nb:Nat→Prop}(e:Ext c Lo c' nb){id:Nat}(hi:id<c.h.next):id<c'.h.next:=ajk hi e.next
theorem nu {c:Cx}{L:Nat→Prop}{x:AV}{cs:List AV}{b o:Nat}(h:Cells c L (x::cs) b o):b<c.w.heap.size:=by
 obtain⟨⟨v,hv,_⟩,_⟩:=h
 exact World.block_lt_of_cell? c.w ⟨b,o,none⟩ hv
mutual
theorem VR.ext {c c':Cx}{L0 Lo nb:Nat→Prop}(e:Ext c Lo c' nb):∀(x:AV) (v:Value),VR c (un L0 Lo) x v→VR c' (un L0 nb) x v
 | .any,_,_=>trivial
 | .bool _,_,h=>h
 | .int _ _,_,h=>h
 | .str _,_,h=>h
 | .sX,_,h=>h
 | .ptr id off,v,h=>by
  simp only [VR] at h ⊢
  obtain⟨hi,a,rfl,ha⟩:=h
  refine⟨zf e hi,a,rfl,fun hl=>?_⟩
  obtain⟨l0,b0,_⟩:=e.live id hi hl
  rw [b0]
  exact ha l0
 | .lp _ _,_,h=>h
 | .fp cs off,v,h=>by
  simp only [VR] at h ⊢
  obtain⟨b,o,rfl,hc⟩:=h
  refine⟨b,o,rfl,?_⟩
  rcases hc with hc | ⟨hr,hc⟩
  ·exact .inl hc
  ·cases cs with
   | nil=>exact .inl rfl
   | cons x xs=>exact .inr ⟨hr.ext e (nu hc),Cells.ext e (x::xs) b o hr (nu hc) hc⟩
 | .nils,_,h=>h
 | .fz cs n ex,v,h=>by
  simp only [VR] at h ⊢
  obtain⟨a,cap,rfl,h1,h2,hs,hc⟩:=h
  refine⟨a,cap,rfl,h1,h2,hs,?_⟩
  rcases hc with hc | ⟨b,o,ha,hr,hex,hc⟩
  ·exact .inl hc
  ·cases cs with
   | nil=>exact .inl rfl
   | cons x xs=>exact .inr ⟨b,o,ha,hr.ext e (nu hc),by rw [e.base]; exact hex,Cells.ext e (x::xs) b o hr (nu hc) hc⟩
 | .rs id off len lq,v,h=>by
  simp only [VR] at h ⊢
  rcases h with h | h
  ·exact .inl h
  obtain⟨hz,hi,a,cap,rfl,h1,h3,h2⟩:=h
  refine .inr ⟨hz,zf e hi,a,cap,rfl,h1,h3,fun hl=>?_⟩
  obtain⟨l0,b0,s0⟩:=e.live id hi hl
  rw [b0,s0]
  exact h2 l0
 | .qV,_,h=>h
 | .mp id,v,h=>by
  simp only [VR] at h ⊢
  obtain⟨hi,r,rfl,h2⟩:=h
  refine⟨zf e hi,r,rfl,fun hl=>?_⟩
  obtain⟨l0,b0,_⟩:=e.live id hi hl
  rw [b0]
  exact h2 l0
 | .fn f cap,v,h=>by
  simp only [VR] at h ⊢
  obtain⟨vs,rfl,h1⟩:=h
  exact⟨vs,rfl,VRs.ext e cap vs.toList h1⟩
 | .uA,_,h=>h
 | .agg cs,v,h=>by
  simp only [VR] at h ⊢
  obtain⟨vs,rfl,h1⟩:=h
  exact⟨vs,rfl,VRs.ext e cs vs.toList h1⟩
 | .tup cs,v,h=>by
  simp only [VR] at h ⊢
  obtain⟨vs,rfl,h1⟩:=h
  exact⟨vs,rfl,VRs.ext e cs vs.toList h1⟩
theorem VRs.ext {c c':Cx}{L0 Lo nb:Nat→Prop}(e:Ext c Lo c' nb):∀(xs:List AV) (vs:List Value),VRs c (un L0 Lo) xs vs→VRs c' (un L0 nb) xs vs
 | [],[],_=>trivial
 | x::xs,v::vs,h=>⟨VR.ext e x v h.1,VRs.ext e xs vs h.2⟩
 | [],_::_,h=>h
 | _::_,[],h=>h
theorem Cells.ext {c c':Cx}{L0 Lo nb:Nat→Prop}(e:Ext c Lo c' nb):∀(xs:List AV) (b o:Nat),RO c (un L0 Lo) b→b<c.w.heap.size→Cells c (un L0 Lo) xs b o→Cells c' (un L0 nb) xs b o
 | [],_,_,_,_,_=>trivial
 | x::xs,b,o,hr,hb,h=>by
  obtain⟨⟨v,hv,h1,hx⟩,hs⟩:=h
  exact⟨⟨v,(e.cell hr hb o).trans hv,h1,VR.ext e x v hx⟩,Cells.ext e xs b (o+1) hr hb hs⟩
end
theorem RO.oB {c:Cx}{L L':Nat→Prop}(hL:∀b,L' b→L b){b:Nat}(h:RO c L b):RO c L' b:=⟨h.1,fun h1=>h.2 (hL b h1)⟩
mutual
theorem VR.oB {c:Cx}{L L':Nat→Prop}(hL:∀b,L' b→L b):∀(x:AV) (v:Value),VR c L x v→VR c L' x v
 | .any,_,_=>trivial
 | .bool _,_,h=>h
 | .int _ _,_,h=>h
 | .str _,_,h=>h
 | .sX,_,h=>h
 | .ptr id off,v,h=>h
 | .lp _ _,_,h=>h
 | .fp cs off,v,h=>by
  simp only [VR] at h ⊢
  obtain⟨b,o,rfl,hc⟩:=h
  exact⟨b,o,rfl,hc.imp id fun ⟨hr,hc⟩=>⟨hr.oB hL,Cells.oB hL cs b o hc⟩⟩
 | .nils,_,h=>h
 | .fz cs n ex,v,h=>by
  simp only [VR] at h ⊢
  obtain⟨a,cap,rfl,h1,h2,hs,hc⟩:=h
  exact⟨a,cap,rfl,h1,h2,hs,hc.imp id fun ⟨b,o,ha,hr,hex,hc⟩=>⟨b,o,ha,hr.oB hL,hex,Cells.oB hL cs b o hc⟩⟩
 | .rs id off len lq,v,h=>h
 | .qV,_,h=>h
 | .mp id,v,h=>h
 | .fn f cap,v,h=>by
  simp only [VR] at h ⊢
  obtain⟨vs,rfl,h1⟩:=h
  exact⟨vs,rfl,VRs.oB hL cap vs.toList h1⟩
 | .uA,_,h=>h
 | .agg cs,v,h=>by
  simp only [VR] at h ⊢
  obtain⟨vs,rfl,h1⟩:=h
  exact⟨vs,rfl,VRs.oB hL cs vs.toList h1⟩
 | .tup cs,v,h=>by
  simp only [VR] at h ⊢
  obtain⟨vs,rfl,h1⟩:=h
  exact⟨vs,rfl,VRs.oB hL cs vs.toList h1⟩
theorem VRs.oB {c:Cx}{L L':Nat→Prop}(hL:∀b,L' b→L b):∀(xs:List AV) (vs:List Value),VRs c L xs vs→VRs c L' xs vs
 | [],[],_=>trivial
 | x::xs,v::vs,h=>⟨VR.oB hL x v h.1,VRs.oB hL xs vs h.2⟩
 | [],_::_,h=>h
 | _::_,[],h=>h
theorem Cells.oB {c:Cx}{L L':Nat→Prop}(hL:∀b,L' b→L b):∀(xs:List AV) (b o:Nat),Cells c L xs b o→Cells c L' xs b o
 | [],_,_,_=>trivial
 | x::xs,b,o,h=>by
  obtain⟨⟨v,hv,h1,hx⟩,hs⟩:=h
  exact⟨⟨v,hv,h1,VR.oB hL x v hx⟩,Cells.oB hL xs b (o+1) hs⟩
end
theorem KZ {c:Cx}{L:Nat→Prop}{x:AV}{v:Value}(h:VR c L x v):VR c L (nq x) v:=by
 cases x<;>try exact h
 simp only [VR] at h
 simp only [nq,VR]
 exact⟨none,0,h,aiQ _,fun _=>rfl,.inr ⟨trivial,rfl⟩,.inl trivial⟩
theorem zg {c:Cx}{L:Nat→Prop}:∀{xs:List AV} {vs:List Value},VRs c L xs vs→VRs c L (xs.map nq) vs
 | [],[],_=>trivial
 | _::_,_::_,h=>⟨KZ h.1,zg h.2⟩
 | [],_::_,h=>h.elim
 | _::_,[],h=>h.elim
theorem Cells.move {c c':Cx}{L0 Lo nb:Nat→Prop}(e:Ext c Lo c' nb):∀(xs:List AV) (b o b' o':Nat),(∀i,i<xs.length→c'.w.cell? ⟨b',o'+i,none⟩=c.w.cell? ⟨b,o+i,none⟩)→Cells c (un L0 Lo) xs b o→Cells c' (un L0 nb) xs b' o'
 | [],_,_,_,_,_,_=>trivial
 | x::xs,b,o,b',o',hm,h=>by
  obtain⟨⟨v,hv,h1,hx⟩,hs⟩:=h
  refine⟨⟨v,(hm 0 (by simp)).trans hv,h1,VR.ext e x v hx⟩,Cells.move e xs b (o+1) b' (o'+1) (fun i hi=>?_) hs⟩
  have:=hm (i+1) (by simpa using hi)
  rwa [aki o' 1 i,aki o 1 i,ajT,ajT]
theorem VRs.length {c:Cx}{L:Nat→Prop}:∀{xs:List AV} {vs:List Value},VRs c L xs vs→xs.length=vs.length
 | [],[],_=>rfl
 | _::_,_::_,h=>by simp [VRs.length h.2]
 | [],_::_,h=>h.elim
 | _::_,[],h=>h.elim
theorem VRs.get {c:Cx}{L:Nat→Prop}:∀{xs:List AV} {vs:List Value},VRs c L xs vs→∀(i:Nat) (x:AV),xs[i]? = some x→∃v,vs[i]? = some v∧VR c L x v
 | [],[],_,i,x,hx=>by simp at hx
 | y::ys,u::us,h,i,x,hx=>by
  cases i with
  | zero=>simp at hx; subst hx; exact⟨u,rfl,h.1⟩
  | succ i=>simpa using VRs.get h.2 i x (by simpa using hx)
 | [],_::_,h,_,_,_=>h.elim
 | _::_,[],h,_,_,_=>h.elim
theorem VRs.append {c:Cx}{L:Nat→Prop}:∀{xs ys:List AV} {vs us:List Value},VRs c L xs vs→VRs c L ys us→VRs c L (xs++ys) (vs++us)
 | [],_,[],_,_,h=>h
 | _::_,_,_::_,_,h,k=>⟨h.1,VRs.append h.2 k⟩
 | [],_,_::_,_,h,_=>h.elim
 | _::_,_,[],_,h,_=>h.elim
theorem VRs.drop {c:Cx}{L:Nat→Prop}:∀(n:Nat) {xs:List AV} {vs:List Value},VRs c L xs vs→VRs c L (xs.drop n) (vs.drop n)
 | 0,_,_,h=>h
 | _+1,[],[],h=>h
 | n+1,_::_,_::_,h=>VRs.drop n h.2
 | _+1,[],_::_,h=>h.elim
 | _+1,_::_,[],h=>h.elim
theorem VRs.take {c:Cx}{L:Nat→Prop}:∀(n:Nat) {xs:List AV} {vs:List Value},VRs c L xs vs→VRs c L (xs.take n) (vs.take n)
 | 0,_,_,_=>by simp [VRs]
 | _+1,[],[],h=>h
 | n+1,_::_,_::_,h=>⟨h.1,VRs.take n h.2⟩
 | _+1,[],_::_,h=>h.elim
 | _+1,_::_,[],h=>h.elim
theorem VRs.set {c:Cx}{L:Nat→Prop}{x:AV}{v:Value}(hx:VR c L x v):∀(n:Nat) {xs:List AV} {vs:List Value},VRs c L xs vs→VRs c L (xs.set n x) (vs.set n v)
 | _,[],[],h=>h
 | 0,_::_,_::_,h=>⟨hx,h.2⟩
 | n+1,_::_,_::_,h=>⟨h.1,VRs.set hx n h.2⟩
 | _,[],_::_,h=>h.elim
 | _,_::_,[],h=>h.elim
theorem Cells.vals {c:Cx}{L:Nat→Prop}:∀{xs:List AV} {b o:Nat},Cells c L xs b o→∃vs:List Value,VRs c L xs vs∧(∀i,i<xs.length→c.w.cell? ⟨b,o+i,none⟩=vs[i]?)∧∀v∈vs,v.oneCell'=true
 | [],_,_,_=>⟨[],trivial,fun i hi=>by simp at hi,fun _ h=>by cases h⟩
 | x::xs,b,o,h=>by
  obtain⟨⟨v,hv,h0,hx⟩,hs⟩:=h
  obtain⟨vs,h1,h2,h3⟩:=Cells.vals hs
  refine⟨v::vs,⟨hx,h1⟩,fun i hi=>?_,fun u hu=>?_⟩
  ·cases i with
   | zero=>exact hv
   | succ i=>
    have:=h2 i (by simpa using hi)
    rw [aki,ajT] at this
    simpa using this
  ·rcases aja.1 hu with rfl | hu
   ·exact h0
   ·exact h3 u hu
theorem Cells.of_vals {c:Cx}{L:Nat→Prop}:∀{xs:List AV} {vs:List Value} {b o:Nat},VRs c L xs vs→(∀i,i<vs.length→c.w.cell? ⟨b,o+i,none⟩=vs[i]?)→(∀v∈vs,v.oneCell'=true)→Cells c L xs b o
 | [],[],_,_,_,_,_=>trivial
 | x::xs,v::vs,b,o,h,hc,h1=>by
  refine⟨⟨v,hc 0 (by simp),h1 v (by simp),h.1⟩,Cells.of_vals h.2 (fun i hi=>?_) (fun u hu=>h1 u (by simp [hu]))⟩
  have:=hc (i+1) (by simpa using hi)
  rw [aki,ajT]
  simpa using this
 | [],_::_,_,_,h,_,_=>h.elim
 | _::_,[],_,_,h,_,_=>h.elim
theorem Cells.get' {c:Cx}{L:Nat→Prop}{xs:List AV}{b o:Nat}(h:Cells c L xs b o)(i:Nat)(x:AV)(hx:xs[i]? = some x):∃v,c.w.cell? ⟨b,o+i,none⟩=some v∧v.oneCell'=true∧VR c L x v:=by
 obtain⟨vs,h1,h2,h3⟩:=h.vals
 obtain⟨v,hv,hr⟩:=VRs.get h1 i x hx
 exact⟨v,(h2 i (aiO.1 hx).1).trans hv,h3 v (aiS hv),hr⟩
theorem Cells.get {c:Cx}{L:Nat→Prop}{xs:List AV}{b o:Nat}(h:Cells c L xs b o)(i:Nat)(x:AV)(hx:xs[i]? = some x):∃v,c.w.cell? ⟨b,o+i,none⟩=some v∧VR c L x v:=by
 obtain⟨v,h1,_,h2⟩:=h.get' i x hx
 exact⟨v,h1,h2⟩
end Go.R
namespace Go.R
open Go
def oW (c:Cx)(L:Nat→Prop):List (AV × AV)→List MapEntry→Prop
 | [],[]=>True
 | (k,v)::es,m::ms=>(VR c L k m.key∧k.G0.isSome=true)∧VR c L v m.val∧oW c L es ms
 | _,_=>False
def Plain (c:Cx)(b:Nat)(n:Nat):Prop:=∃(C:Array Value) (e lo hi:Nat),c.w.heap[b]? = some (.cells C e (lo,hi))∧(lo=hi∨C.size≤lo)∧C.size=n
def lj (c:Cx)(b:Nat)(n:Nat):Prop:=∃(C:Array Value) (e:TypeId),c.w.heap[b]? = some (.cells C e (0,0))∧C.size=n
theorem lj.n7 {c:Cx}{b n:Nat}(h:lj c b n):Plain c b n:=by
 obtain⟨C,e,h1,h2⟩:=h
 exact⟨C,e,0,0,h1,.inl rfl,h2⟩
theorem lj.of_heap {c c':Cx}{b n:Nat}(h:lj c b n)(he:c'.w.heap[b]? = c.w.heap[b]?):lj c' b n:=by
 obtain⟨C,e,h1,h2⟩:=h
 exact⟨C,e,he.trans h1,h2⟩
theorem lj.lt {c:Cx}{b n:Nat}(h:lj c b n):b<c.w.heap.size:=by
 obtain⟨C,e,h1,_⟩:=h
 exact (ajt.1 h1).1
def uE (c:Cx)(L:Nat→Prop)(b base:Nat):AObj→Prop
 | .cells cs=>∃n,lj c b n∧base+cs.length≤n∧Cells c L cs b base
 | .row e cs=>base=0∧∃C:Array Value,c.w.heap[b]? = some (.cells C e (0,0))∧cs.length≤C.size∧C.size≤maxLen∧Cells c L cs b 0
 | .map es=>∃oX clock,c.w.heap[b]? = some (.map oX clock)∧oW c L es oX.toList
structure HRel (c:Cx)(L:Nat→Prop):Prop where
 lt:∀id o,c.h.get id=some o→id<c.h.next
 obj:∀id o,c.h.get id=some o→uE c L (c.β id).1 (c.β id).2 o
 inj:∀id oC,Live c.h id→Live c.h oC→(c.β id).1=(c.β oC).1→id=oC
 out:∀id,Live c.h id→¬L (c.β id).1
 bd:∀b,L b→b<c.w.heap.size
 low:∀id,Live c.h id→c.base≤(c.β id).1
 ver:∀id,c.h.ver id<c.h.next
structure Y2 (c:Cx)(L0 Lo:Nat→Prop)(lam:Nat→Nat)(k:Nat)(cs:List AV):Prop where
 own:Lo (lam k)
 plain:Plain c (lam k) cs.length
 cells:Cells c (un L0 Lo) cs (lam k) 0
def SR (c:Cx)(L0 Lo:Nat→Prop)(lam:Nat→Nat)(bx:Nat→Option (List AV))(x:AV)(v:Value):Prop:=
 match x with
 | .lp k off=>v = .pointer (some ⟨lam k,off,none⟩)∧(bx k).isSome=true
 | x=>VR c (un L0 Lo) x v
structure Fr (L0:Nat→Prop)(c:Cx)(Lo:Nat→Prop)(lam:Nat→Nat)(ds:List Nat)(s:RS)(a:Act):Prop where
 h:c.h=s.h
 rel:HRel c (un L0 Lo)
 slot:∀t,SR c L0 Lo lam s.bx (s.ρ t) (a.tmps.getD t undef)
 box:∀k cs,s.bx k=some cs→Y2 c L0 Lo lam k cs
 inj:∀k k',(s.bx k).isSome=true→(s.bx k').isSome=true→lam k=lam k'→k=k'
 tidy:∀t k off,t∉ds→s.ρ t = .lp k off→k=t
 defers:a.defers=[]
 MH:∀b,Lo b→c.base≤b
def none0:Nat→Prop:=fun _=>False
def Inv (L0:Nat→Prop)(c0:Cx)(n:Nat)(ds:List Nat)(s:RS)(a:Act)(w:World):Prop:=
 a.tmps.size=n∧∃c Lo lam,c.w=w∧Fr L0 c Lo lam ds s a∧Ext c0 none0 c Lo
theorem SR.vr {c:Cx}{L0 Lo:Nat→Prop}{lam:Nat→Nat}{bx:Nat→Option (List AV)}{x:AV}{v:Value}(h:SR c L0 Lo lam bx x v)(hx:∀k off,x≠.lp k off):VR c (un L0 Lo) x v:=by
 unfold SR at h
 split at h
 ·exact absurd rfl (hx _ _)
 ·exact h
theorem SR.of {c:Cx}{L0 Lo:Nat→Prop}{lam:Nat→Nat}{bx:Nat→Option (List AV)}{x:AV}{v:Value}(h:VR c (un L0 Lo) x v):SR c L0 Lo lam bx x v:=by
 unfold SR
 split
 ·exact h.elim
 ·exact h
theorem sJ {c:Cx}{L:Nat→Prop}{v:Value}{x:AV}(h:uB v=some x):VR c L x v:=by
 unfold uB at h
 split at h<;>first | (cases h; done) | (cases h; simp [VR])
theorem Ez {c:Cx}{L:Nat→Prop}:∀{vs:List Value} {xs:List AV},xn vs=some xs→VRs c L xs vs
 | [],xs,h=>by simp [xn] at h; subst h; trivial
 | v::vs,xs,h=>by
  simp only [xn,aiJ] at h
  obtain⟨x,hx,ys,hy,he⟩:=h
  cases he
  exact⟨sJ hx,Ez hy⟩
theorem pJ {c:Cx}{L:Nat→Prop}{v:Value}{x:AV}(h:ME v=some x):VR c L x v:=by
 unfold ME at h
 split at h
 ·rename_i cs
  rw [aiK] at h
  obtain⟨xs,hx,rfl⟩:=h
  simp only [VR]
  exact⟨cs,rfl,Ez hx⟩
 ·exact sJ h
theorem oY {c:Cx}{L:Nat→Prop}{x:AV}{u v:Value}(h:x.jZ=some u)(hx:VR c L x v):v=u:=by
 unfold AV.jZ at h
 split at h<;>first | (cases h; done) | (cases h; simpa [VR] using hx)
theorem oZ {x:AV}{u:Value}(h:x.jZ=some u):∀k off,x≠.lp k off:=by
 rintro k off rfl
 simp [AV.jZ] at h
theorem wc {c:Cx}{L:Nat→Prop}:∀{xs:List AV} {us vs:List Value},mc xs=some us→VRs c L xs vs→vs=us
 | [],us,[],h,_=>by simp [mc] at h; exact h.symm
 | x::xs,us,v::vs,h,hx=>by
  simp only [mc,aiJ] at h
  obtain⟨u,h1,ws,h2,he⟩:=h
  cases he
  rw [oY h1 hx.1,wc h2 hx.2]
 | [],_,_::_,_,h=>h.elim
 | _::_,_,[],_,h=>h.elim
theorem CQ {c:Cx}{L:Nat→Prop}{x:AV}{u v:Value}(h:x.G0=some u)(hx:VR c L x v):v=u:=by
 unfold AV.G0 at h
 split at h
 ·rw [aiK] at h
  obtain⟨vs,h1,rfl⟩:=h
  simp only [VR] at hx
  obtain⟨ws,rfl,h2⟩:=hx
  rw [←wc h1 h2]
 ·exact oY h hx
theorem n9 {α:Type}{P:Program}{e:Sem α}{r:α}(w:World):lK P e=some r→e.run P w = .ok r w:=by
 induction e with
 | pure a=>intro h; simp [lK] at h; subst h; rfl
 | program k ih=>intro h; exact ih P (by simpa [lK] using h)
 | _=>intro h; simp [lK] at h
theorem cL {L0:Nat→Prop}{c:Cx}{Lo:Nat→Prop}{lam:Nat→Nat}{ds:List Nat}{s:RS}{a:Act}(f:Fr L0 c Lo lam ds s a)(x:Operand):SR c L0 Lo lam s.bx (cZ s.ρ x) (a.eval x):=by
 cases x with
 | tmp t=>exact f.slot t
 | const v=>
  refine SR.of ?_
  simp only [cZ,Act.eval]
  cases h:ME v with
  | none=>simp [VR]
  | some x=>simpa using pJ h
 | global g=>exact SR.of (by simp [cZ,VR])
 | func f=>exact SR.of (by simp only [cZ,VR,Act.eval]; exact⟨#[],rfl,by simp [VRs]⟩)
def mD (P:Program)(L0:Nat→Prop)(c0:Cx)(n:Nat)(ds:List Nat)(o:Oper)(s s':RS):Prop:=
 ∀a w (K:Act→World→Prop) (Q:Exit→Act→World→Prop),Inv L0 c0 n ds s a w→(∀a' w',Inv L0 c0 n ds s' a' w'→K a' w')→o.wp P a w K Q
theorem j6 (a:Act)(d:Option Nat)(v:Value):(a.put d v).tmps.size=a.tmps.size:=by cases d<;>simp [Act.put]
theorem MI (a:Act)(d t:Nat)(v:Value)(hd:d<a.tmps.size):(a.put (some d) v).tmps.getD t undef=if t=d then v else a.tmps.getD t undef:=by
 simp only [Act.put,Array.getD_eq_getD_getElem?,ajU]
 by_cases h:d=t
 ·subst h; simp [hd]
 ·simp [h,Ne.symm h]
theorem BF (s:RS)(d t:Nat)(x:AV):(s.set (some d) x).ρ t=if t=d then x else s.ρ t:=by
 simp only [RS.set,beq_nat]
 by_cases h:t=d<;>simp [h]
theorem Fr.set {L0:Nat→Prop}{c:Cx}{Lo:Nat→Prop}{lam:Nat→Nat}{ds:List Nat}{s:RS}{a:Act}(f:Fr L0 c Lo lam ds s a){d:Option Nat}{x:AV}{v:Value}(hx:SR c L0 Lo lam s.bx x v)
  (hd:∀t,d=some t→t<a.tmps.size∧t∈ds):Fr L0 c Lo lam ds (s.set d x) (a.put d v):=by
 cases d with
 | none=>exact f
 | some d=>
  obtain⟨h1,h2⟩:=hd d rfl
  refine⟨f.h,f.rel,fun t=>?_,f.box,f.inj,fun t k off ht he=>?_,f.defers,f.MH⟩
  ·rw [MI _ _ _ _ h1,BF]
   by_cases h:t=d
   ·simp only [h,if_true]; exact hx
   ·simp only [h,if_false]; exact f.slot t
  ·rw [BF] at he
   by_cases h:t=d
   ·subst h; exact absurd h2 ht
   ·rw [if_neg h] at he; exact f.tidy t k off ht he
section
variable {P:Program}{L0:Nat→Prop}{c0:Cx}{n:Nat}{ds:List Nat}{o:Oper}{s:RS}
def j7 (n:Nat)(ds:List Nat)(o:Oper):Prop:=∀t,o.dst=some t→t<n∧t∈ds
theorem jy (hd:j7 n ds o){x:AV}
  (h:∀a c Lo lam,Fr L0 c Lo lam ds s a→a.tmps.size=n→∃v,(execOp a.eval o).run P c.w = .ok (.value v) c.w∧SR c L0 Lo lam s.bx x v):mD P L0 c0 n ds o s (s.set o.dst x):=by
 rintro a w K Q ⟨hn,c,Lo,lam,rfl,f,e⟩ hK
 obtain⟨v,hr,hv⟩:=h a c Lo lam f hn
 unfold Oper.wp
 rw [hr,Oper.upon_value]
 exact hK _ _ ⟨(j6 _ _ _).trans hn,c,Lo,lam,rfl,f.set hv (fun t ht=>hn ▸ hd t ht),e⟩
end
theorem SR.ext {c c':Cx}{L0 Lo nb:Nat→Prop}{lam xZ:Nat→Nat}{bx bx':Nat→Option (List AV)}{x:AV}{v:Value}(h:SR c L0 Lo lam bx x v)(e:Ext c Lo c' nb)
  (hl:∀k off,x = .lp k off→xZ k=lam k∧((bx k).isSome=true→(bx' k).isSome=true)):SR c' L0 nb xZ bx' x v:=by
 unfold SR at h ⊢
 split
 ·rename_i k off
  obtain⟨h1,h2⟩:=h
  obtain⟨h3,h4⟩:=hl k off rfl
  rw [h3]
  exact⟨h1,h4 h2⟩
 ·rename_i hne
  split at h
  ·exact absurd rfl (hne _ _)
  ·exact VR.ext e _ _ h
theorem Plain.of_heap {c c':Cx}{b n:Nat}(h:Plain c b n)(he:kR c.w c'.w b):Plain c' b n:=by
 obtain⟨C,e,lo,hi,h1,h2,h3⟩:=h
 rcases he with he | ⟨C',e',l1,i1,l2,i2,k1,k2,k3⟩
 ·exact⟨C,e,lo,hi,he.trans h1,h2,h3⟩
 ·rw [h1] at k1
  simp only [aiL,Obj.cells.injEq,aiV] at k1
  obtain⟨rfl,rfl,rfl,rfl⟩:=k1
  exact⟨C,e,l2,i2,k2,k3 h2,h3⟩
theorem Plain.lt {c:Cx}{b n:Nat}(h:Plain c b n):b<c.w.heap.size:=by
 obtain⟨C,e,lo,hi,h1,_⟩:=h
 exact (ajt.1 h1).1
theorem oW.ext {c c':Cx}{L0 Lo nb:Nat→Prop}(e:Ext c Lo c' nb):∀{es:List (AV × AV)} {ms:List MapEntry},oW c (un L0 Lo) es ms→oW c' (un L0 nb) es ms
 | [],[],_=>trivial
 | (k,v)::es,m::ms,h=>⟨⟨VR.ext e _ _ h.1.1,h.1.2⟩,VR.ext e _ _ h.2.1,oW.ext e h.2.2⟩
 | [],_::_,h=>h.elim
 | _::_,[],h=>h.elim
theorem uE.ext {c c':Cx}{L0 Lo nb:Nat→Prop}(e:Ext c Lo c' nb){b base:Nat}{o:AObj}(h:uE c (un L0 Lo) b base o)(he:c'.w.heap[b]? = c.w.heap[b]?):uE c' (un L0 nb) b base o:=by
 cases o with
 | cells cs=>
  obtain⟨n,h1,h2,h3⟩:=h
  exact⟨n,h1.of_heap he,h2,Cells.move e cs b base b base (fun i _=>ze he _) h3⟩
 | row t cs=>
  obtain⟨h0,C,h1,h2,h4,h3⟩:=h
  exact⟨h0,C,he.trans h1,h2,h4,Cells.move e cs b 0 b 0 (fun i _=>ze he _) h3⟩
 | map es=>
  obtain⟨oX,clock,h1,h2⟩:=h
  exact⟨oX,clock,he.trans h1,h2.ext e⟩
theorem Y2.ext {c c':Cx}{L0 Lo nb:Nat→Prop}{lam:Nat→Nat}(e:Ext c Lo c' nb){k:Nat}{cs:List AV}(h:Y2 c L0 Lo lam k cs)(he:kR c.w c'.w (lam k)):Y2 c' L0 nb lam k cs:=
 ⟨e.own _ h.own,h.plain.of_heap he,Cells.move e cs (lam k) 0 (lam k) 0 (fun i _=>he.cell _) h.cells⟩
end Go.R
namespace Go.R
open Go
theorem addr_add (b o i:Nat):(⟨b,o,none⟩:Addr).add i=⟨b,o+i,none⟩:=by
 unfold Addr.add
 split<;>simp_all
section
variable {P:Program}{L0:Nat→Prop}{c0:Cx}{n:Nat}{ds:List Nat}{o:Oper}{s:RS}
theorem cp {t:TypeId}{d:TypeDesc}(h:P.underlying t=some d)(w:World):(underlying t).run P w = .ok d w:=run_underlying h w
theorem fX {t:TypeId}{m:Nat}(h:iR P t=some m)(w:World):(sizeOf t).run P w = .ok m w:=by
 unfold iR at h
 rw [aiK] at h
 obtain⟨i,hi,rfl⟩:=h
 simp [sizeOf,typeInfo,hi]
theorem IC {t:TypeId}{b:Bool}(h:ju P t=some b)(w:World):(isAgg t).run P w = .ok b w:=by
 unfold ju at h
 rw [aiK] at h
 obtain⟨d,hd,rfl⟩:=h
 simp only [isAgg,Sem.run_bind,cp hd,Result.andThen_ok]
 cases d<;>rfl
theorem Hc {c:Cx}{L:Nat→Prop}{xs:List AV}{b off:Nat}(h:Cells c L xs b off):∃vs:List Value,(loadCells ⟨b,off,none⟩ xs.length).run P c.w = .ok vs.toArray c.w∧VRs c L xs vs:=by
 obtain⟨vs,h1,h2,_⟩:=h.vals
 refine⟨vs,?_,h1⟩
 have:=run_loadCells_list (P:=P) (w:=c.w) ⟨b,off,none⟩ vs (fun j v hj=>by
  rw [addr_add,h2 j (by rw [h1.length]; exact (aiO.1 hj).1)]; exact hj)
 rwa [←h1.length] at this
theorem Cells.drop {c:Cx}{L:Nat→Prop}:∀(m:Nat) {xs:List AV} {b off:Nat},Cells c L xs b off→Cells c L (xs.drop m) b (off+m)
 | 0,_,_,_,h=>h
 | m+1,[],_,_,_=>by simp [Cells]
 | m+1,x::xs,b,off,h=>by
  have:=Cells.drop m h.2
  rw [aki,ajT] at this
  simpa using this
theorem Cells.take {c:Cx}{L:Nat→Prop}:∀(m:Nat) {xs:List AV} {b off:Nat},Cells c L xs b off→Cells c L (xs.take m) b off
 | 0,_,_,_,_=>by simp [Cells]
 | m+1,[],_,_,h=>by simpa using h
 | m+1,x::xs,b,off,h=>⟨h.1,Cells.take m h.2⟩
theorem tN {c:Cx}{L:Nat→Prop}{t:TypeId}{cs:List AV}{b base off:Nat}{x:AV}(h:me P t cs off=some x)(hc:Cells c L cs b base) :
  ∃v,(loadVar t ⟨b,base+off,none⟩).run P c.w = .ok v c.w∧VR c L x v:=by
 unfold me at h
 rw [aiJ] at h
 obtain⟨ag,Zy,h⟩:=h
 simp only [loadVar,Sem.run_bind,IC Zy,Result.andThen_ok]
 cases ag with
 | true=>
  simp only [if_true,aiJ] at h
  obtain⟨m,hm,h⟩:=h
  split at h
  ·rename_i hle
   cases h
   have hc2:=(hc.drop off).take m
   obtain⟨vs,hr,hv⟩:=Hc (P:=P) hc2
   rw [show ((cs.drop off).take m).length=m by simp; omega] at hr
   refine⟨.agg vs.toArray,by simp [fX hm,hr],?_⟩
   simp only [VR]
   exact⟨vs.toArray,rfl,by simpa using hv⟩
  ·cases h
 | false=>
  simp only [aiW,if_false] at h
  obtain⟨v,hv,hx⟩:=hc.get off x h
  exact⟨v,by simp [hv],hx⟩
theorem EA {c:Cx}{Lo:Nat→Prop}{lam:Nat→Nat}{bx:Nat→Option (List AV)}{x y:AV}{m:Nat}{v:Value}(h:x.shift m=some y)(hx:SR c L0 Lo lam bx x v) :
  ∃ad,v = .pointer (some ad)∧SR c L0 Lo lam bx y (.pointer (some (ad.add m))):=by
 cases x<;>simp only [AV.shift] at h<;>cases h
 ·rename_i id off
  simp only [SR,VR] at hx ⊢
  obtain⟨hi,ad,rfl,ha⟩:=hx
  exact⟨ad,rfl,hi,_,rfl,fun hl=>by rw [ha hl,addr_add,ajT]⟩
 ·rename_i k off
  simp only [SR] at hx ⊢
  obtain⟨rfl,hb⟩:=hx
  exact⟨_,rfl,by rw [addr_add],hb⟩
 ·rename_i cs off
  simp only [SR,VR] at hx ⊢
  obtain⟨b,o',rfl,hc⟩:=hx
  exact⟨_,rfl,b,o',by rw [addr_add,ajT],hc⟩
theorem zh {c:Cx}{Lo:Nat→Prop}{lam:Nat→Nat}{a:Act}(f:Fr L0 c Lo lam ds s a){t:TypeId}{x y:AV}{v:Value}(hx:SR c L0 Lo lam s.bx x v)
  (h:nr P s.bx s.h t x=some y):∃u,(Instr.loadAt t v).run P c.w = .ok u c.w∧VR c (un L0 Lo) y u:=by
 unfold nr at h
 cases x<;>simp only at h<;>try (cases h; done)
 ·rename_i id off
  rw [aiJ] at h
  obtain⟨ob,ho,h⟩:=h
  cases ob with
  | map es=>cases h
  | row t cs=>cases h
  | cells cs=>
   simp only [SR,VR] at hx
   obtain⟨hi,ad,rfl,ha⟩:=hx
   rw [←f.h] at ho
   have hl:Live c.h id:=⟨f.rel.lt _ _ ho,by simp [ho]⟩
   obtain⟨m,h1,h2,h3⟩:=f.rel.obj _ _ ho
   obtain⟨u,hr,hu⟩:=tN (P:=P) h h3
   exact⟨u,by simp [Instr.loadAt,Instr.sureAddr,ha hl,hr],hu⟩
 ·rename_i k off
  rw [aiJ] at h
  obtain⟨cs,hb,h⟩:=h
  simp only [SR] at hx
  obtain⟨rfl,_⟩:=hx
  have hw:=f.box k cs hb
  obtain⟨u,hr,hu⟩:=tN (P:=P) h hw.cells
  rw [ajf] at hr
  exact⟨u,by simp [Instr.loadAt,Instr.sureAddr,hr],hu⟩
 ·rename_i cs off
  split at h
  ·cases h
  ·rename_i hne
   simp only [SR,VR] at hx
   obtain⟨b,o',rfl,hc⟩:=hx
   rcases hc with hc | ⟨_,hc⟩
   ·subst hc; simp at hne
   ·obtain⟨u,hr,hu⟩:=tN (P:=P) h hc
    exact⟨u,by simp [Instr.loadAt,Instr.sureAddr,hr],hu⟩
theorem EB {c:Cx}{Lo:Nat→Prop}{lam:Nat→Nat}{bx:Nat→Option (List AV)}{t:TypeId}{x i y:AV}{v u:Value}(hx:SR c L0 Lo lam bx x v)(hi:SR c L0 Lo lam bx i u)
  (h:iS P t x i=some y):∃r,(Instr.indexAt t v u).run P c.w = .ok r c.w∧SR c L0 Lo lam bx y r:=by
 unfold iS at h
 split at h<;>try (cases h; done)
 rename_i k i
 simp only [SR,VR] at hi
 subst hi
 rw [aiJ] at h
 obtain⟨d,hd,h⟩:=h
 split at h<;>try (cases h; done)
 ·rename_i len e
  rw [aiJ] at h
  obtain⟨m,hm,h⟩:=h
  split at h
  ·rename_i hin
   obtain⟨ad,rfl,hy⟩:=EA h hx
   exact⟨_,by simp [Instr.indexAt,asIntOf,cp hd,Instr.sureAddr,hin,fX hm],hy⟩
  ·cases h
 ·rename_i e
  rw [aiJ] at h
  obtain⟨m,hm,h⟩:=h
  split at h<;>try (cases h; done)
  ·rename_i cs len ex
   split at h
   ·rename_i hin
    obtain⟨h1,h2,h3⟩:=hin
    cases h
    simp only [SR,VR] at hx ⊢
    obtain⟨a,cap,rfl,h4,h5,_,hc⟩:=hx
    rcases hc with hc | ⟨b,o',rfl,hr,hex,hc⟩
    ·subst hc; simp at h3
    ·refine⟨.pointer (some ((⟨b,o',none⟩:Addr).add (i.toNat*m))),by simp [Instr.indexAt,asIntOf,cp hd,h1,h2,fX hm],b,o',?_,.inr ⟨hr,hc⟩⟩
     rw [addr_add]
   ·cases h
  ·rename_i id off len lq
   split at h
   ·rename_i hin
    obtain⟨h0,h1,h2⟩:=hin
    cases h
    simp only [SR,VR] at hx ⊢
    rcases hx with⟨_,_,hz,_⟩| hx
    ·subst hz; omega
    obtain⟨_,hid,a,cap,rfl,h4,hs,h5⟩:=hx
    cases a with
    | none=>simp at hs
    | some a=>
     refine⟨.pointer (some (a.add (i.toNat*m))),by simp [Instr.indexAt,asIntOf,cp hd,h1,h2,fX hm],hid,_,rfl,fun hl=>?_⟩
     rcases h5 hl with h6 | h6
     ·obtain⟨h6,_⟩:=h6
      cases h6
      rw [addr_add,ajT]
     ·subst h6; omega
   ·cases h
end
end Go.R
namespace Go.R
open Go
section
variable {P:Program}{L0:Nat→Prop}{c0:Cx}{n:Nat}{ds:List Nat}{o:Oper}{s:RS}
theorem BG {c:Cx}{L:Nat→Prop}{t:TypeId}{cs:List AV}{vs:Array Value}{off:Nat}{x:AV}(hv:VRs c L cs vs.toList)(h:IB P t cs off=some x) :
  ∃v,(part t vs off).run P c.w = .ok v c.w∧VR c L x v:=by
 unfold IB me at h
 rw [aiJ] at h
 obtain⟨ag,Zy,h⟩:=h
 simp only [part,Sem.run_bind,IC Zy,Result.andThen_ok]
 cases ag with
 | true=>
  simp only [if_true,aiJ] at h
  obtain⟨m,hm,h⟩:=h
  split at h
  ·rename_i hle
   cases h
   refine⟨.agg (vs.extract off (off+m)),by simp [fX hm],?_⟩
   simp only [VR]
   refine⟨_,rfl,?_⟩
   rw [Array.toList_extract,List.extract_eq_take_drop,ajK]
   exact (hv.drop off).take m
  ·cases h
 | false=>
  simp only [aiW,if_false] at h
  obtain⟨v,SB,hx⟩:=hv.get off x h
  have Zz:vs[off]? = some v:=by rw [←Array.getElem?_toList]; exact SB
  exact⟨v,by simp [Zz],hx⟩
theorem Hd {c:Cx}{Lo:Nat→Prop}{lam:Nat→Nat}{bx:Nat→Option (List AV)}{t:TypeId}{x y:AV}{v:Value}{i:Nat}(hx:SR c L0 Lo lam bx x v)(h:G3 P t x i=some y) :
  ∃r,(Instr.field t v i).run P c.w = .ok r c.w∧VR c (un L0 Lo) y r:=by
 unfold G3 at h
 split at h<;>try (cases h; done)
 rename_i cs
 simp only [SR,VR] at hx
 obtain⟨vs,rfl,hv⟩:=hx
 rw [aiJ] at h
 obtain⟨d,hd,h⟩:=h
 split at h<;>try (cases h; done)
 rename_i fs
 rw [aiJ] at h
 obtain⟨fd,hf,h⟩:=h
 obtain⟨r,hr,hy⟩:=BG hv h
 exact⟨r,by simp [Instr.field,cp hd,hf,asAgg,hr],hy⟩
theorem EC {c:Cx}{Lo:Nat→Prop}{lam:Nat→Nat}{bx:Nat→Option (List AV)}{t:TypeId}{x y:AV}{v:Value}{i:Nat}(hx:SR c L0 Lo lam bx x v)(h:tL P t x i=some y) :
  ∃r,(Instr.fieldAt t v i).run P c.w = .ok r c.w∧SR c L0 Lo lam bx y r:=by
 unfold tL at h
 rw [aiJ] at h
 obtain⟨d,hd,h⟩:=h
 split at h<;>try (cases h; done)
 rename_i fs
 simp only [aiJ] at h
 obtain⟨fd,hf,m,hm,h⟩:=h
 split at h
 ·cases h
 ·rename_i zi
  obtain⟨ad,rfl,hy⟩:=EA h hx
  exact⟨_,by simp [Instr.fieldAt,cp hd,hf,Instr.sureAddr,fieldPlace,fX hm,zi],hy⟩
theorem He {c:Cx}{Lo:Nat→Prop}{lam:Nat→Nat}{bx:Nat→Option (List AV)}{t:TypeId}{x i y:AV}{v u:Value}(hx:SR c L0 Lo lam bx x v)(hi:SR c L0 Lo lam bx i u)(h:vY P t x i=some y) :
  ∃r,(Instr.index t v u).run P c.w = .ok r c.w∧VR c (un L0 Lo) y r:=by
 unfold vY at h
 split at h<;>try (cases h; done)
 rename_i k i
 simp only [SR,VR] at hi
 subst hi
 rw [aiJ] at h
 obtain⟨d,hd,h⟩:=h
 split at h<;>try (cases h; done)
 ·rename_i len e
  split at h<;>try (cases h; done)
  rename_i cs
  simp only [SR,VR] at hx
  obtain⟨vs,rfl,hv⟩:=hx
  rw [aiJ] at h
  obtain⟨m,hm,h⟩:=h
  split at h
  ·rename_i hin
   obtain⟨r,hr,hy⟩:=BG hv h
   exact⟨r,by simp [Instr.index,asIntOf,cp hd,hin,fX hm,hr],hy⟩
  ·cases h
 ·split at h<;>try (cases h; done)
  rename_i st
  simp only [SR,VR] at hx
  subst hx
  split at h
  ·rename_i h0
   rw [aiK] at h
   obtain⟨b,hb,rfl⟩:=h
   have hb2:st[i.toNat]? = some b:=by
    have hl:i.toNat<st.data.toList.length:=(aiO.1 hb).1
    have ID:i.toNat<st.size:=by simpa using hl
    rw [getElem?_pos st i.toNat ID]
    have:=(aiO.1 hb).2
    rw [←this]
    rfl
   exact⟨.int .u8 b.toNat,by simp [Instr.index,asIntOf,cp hd,h0,hb2],by simp [VR]⟩
  ·cases h
theorem nv {c:Cx}{Lo:Nat→Prop}{lam:Nat→Nat}{bx:Nat→Option (List AV)}{VU:Bool}{len lim cap:Nat}{lo hi:Option AV}{La MJ:Option Value}{l h:Nat}(hl:lim≤cap)
  (xq:∀x,lo=some x→∃v,La=some v∧SR c L0 Lo lam bx x v) (CR:lo=none→La=none) (Qu:∀x,hi=some x→∃v,MJ=some v∧SR c L0 Lo lam bx x v) (ED:hi=none→MJ=none)
  (hb:n5 len lim lo hi=some (l,h)):(Instr.sliceBounds VU len cap La MJ none).run P c.w = .ok (l,h,cap) c.w∧l≤h∧(h≤lim∨h=len):=by
 unfold n5 at hb
 simp only [aiJ] at hb
 obtain⟨h',hh,l',tk,he⟩:=hb
 cases he
 have e1:(MJ=none∧h=len)∨∃k i,MJ=some (.int k i)∧(0≤i∧i≤(cap:Int))∧h=i.toNat∧h≤lim:=by
  cases hi with
  | none=>
   simp only [aiL] at hh
   exact .inl ⟨ED rfl,hh.symm⟩
  | some x=>
   obtain⟨v,rfl,hv⟩:=Qu x rfl
   cases x<;>simp only at hh<;>try (cases hh; done)
   rename_i k i
   simp only [SR,VR] at hv
   subst hv
   split at hh
   ·rename_i hin
    cases hh
    exact .inr ⟨k,i,rfl,⟨hin.1,by omega⟩,rfl,by omega⟩
   ·cases hh
 have e2:(La=none∧l=0)∨∃k i,La=some (.int k i)∧(0≤i∧i≤(h:Int))∧l=i.toNat:=by
  cases lo with
  | none=>
   simp only [aiL] at tk
   exact .inl ⟨CR rfl,tk.symm⟩
  | some x=>
   obtain⟨v,rfl,hv⟩:=xq x rfl
   cases x<;>simp only at tk<;>try (cases tk; done)
   rename_i k i
   simp only [SR,VR] at hv
   subst hv
   split at tk
   ·rename_i hin
    cases tk
    exact .inr ⟨k,i,rfl,hin,rfl⟩
   ·cases tk
 clear xq CR Qu ED hh tk
 have e3:l≤h:=by rcases e2 with⟨_,h2⟩| ⟨k,i,_,h2,h3⟩<;>omega
 have e4:h≤lim∨h=len:=by rcases e1 with⟨_,h2⟩| ⟨k,i,_,h2,h3,h4⟩<;>omega
 refine⟨?_,e3,e4⟩
 rcases e1 with⟨rfl,rfl⟩| ⟨k,i,rfl,Y3,rfl,_⟩<;>rcases e2 with⟨rfl,rfl⟩| ⟨k2,i2,rfl,IE,rfl⟩<;>simp_all [Instr.sliceBounds,Instr.sliceBound,asIntOf]
theorem tO {c:Cx}{Lo:Nat→Prop}{lam:Nat→Nat}{bx:Nat→Option (List AV)}{x:AV}{v:Value}(h:isZero (some x)=true)(hv:SR c L0 Lo lam bx x v):∃k,v = .int k 0:=by
 cases x<;>simp [isZero] at h
 subst h
 simp only [SR,VR] at hv
 exact⟨_,hv⟩
theorem Hf {c:Cx}{Lo:Nat→Prop}{lam:Nat→Nat}{bx:Nat→Option (List AV)}{t:TypeId}{x y:AV}{v:Value}{lo hi mx:Option AV}{La MJ Ws:Option Value}(hx:SR c L0 Lo lam bx x v)
  (xq:∀x,lo=some x→∃v,La=some v∧SR c L0 Lo lam bx x v) (CR:lo=none→La=none) (Qu:∀x,hi=some x→∃v,MJ=some v∧SR c L0 Lo lam bx x v) (ED:hi=none→MJ=none)
  (hmx:∀x,mx=some x→∃v,Ws=some v∧SR c L0 Lo lam bx x v) (Wt:mx=none→Ws=none)
  (h:pF P t x lo hi mx=some y):∃r,(Instr.sliceAt t v La MJ Ws).run P c.w = .ok r c.w∧VR c (un L0 Lo) y r:=by
 unfold pF at h
 rw [aiJ] at h
 obtain⟨d,hd,h⟩:=h
 have IF:(match d with | .array _ _=>false | _=>true)=true→(Instr.sliceAt t v La MJ Ws).run P c.w=(Instr.slice t v La MJ Ws).run P c.w:=by
  intro hna
  unfold Instr.sliceAt
  simp only [Sem.run_bind,cp hd,Result.andThen_ok]
  cases d<;>simp at hna<;>rfl
 split at h<;>try (cases h; done)
 ·rw [IF rfl]
  cases mx with
  | some mm=>cases x<;>cases h
  | none=>
  cases x<;>simp only at h<;>try (cases h; done)
  rename_i st
  rw [Wt rfl]
  simp only [SR,VR] at hx
  subst hx
  rw [aiK] at h
  obtain⟨⟨l,hh⟩,hb,rfl⟩:=h
  obtain⟨hr,_,_⟩:=nv (P:=P) (VU:=false) (aiQ _) xq CR Qu ED hb
  exact⟨.string (st.extract l hh),by simp [Instr.slice,cp hd,hr],by simp [VR]⟩
 ·rename_i e
  rw [IF rfl]
  rw [aiJ] at h
  obtain⟨m,hm,h⟩:=h
  cases mx with
  | some mm=>
   cases hi with
   | none=>cases h
   | some hh=>
   simp only at h
   split at h
   ·rename_i hz
    simp only [aiM] at hz
    obtain⟨⟨z1,z2⟩,z3⟩:=hz
    obtain⟨mv,rfl,ZA⟩:=hmx mm rfl
    obtain⟨hv,rfl,hhv⟩:=Qu hh rfl
    obtain⟨k3,rfl⟩:=tO z3 ZA
    obtain⟨k2,rfl⟩:=tO z2 hhv
    have hsl:∃a len cap,v = .slice a len cap∧VR c (un L0 Lo) y (.slice a 0 0):=by
     split at h<;>try (cases h; done)
     all_goals (cases h; simp only [SR,VR] at hx)
     ·obtain⟨a,cap,rfl,_,_,hs,_⟩:=hx; exact⟨_,_,_,rfl,by simp only [VR]; exact⟨_,_,rfl,aiQ _,fun _=>rfl,hs.imp id fun _=>⟨trivial,rfl⟩,.inl (by simp)⟩⟩
     ·rcases hx with⟨_,_,_,a,rfl⟩| ⟨_,_,a,cap,rfl,_,hs,_⟩
      ·exact⟨_,_,_,rfl,by simp only [VR]; exact⟨_,_,rfl,aiQ _,fun _=>rfl,.inr ⟨trivial,rfl⟩,.inl (by simp)⟩⟩
      ·exact⟨_,_,_,rfl,by simp only [VR]; exact⟨_,_,rfl,aiQ _,fun _=>rfl,.inl hs,.inl (by simp)⟩⟩
     ·subst hx; exact⟨_,_,_,rfl,by simp [VR]⟩
    obtain⟨a,len,cap,rfl,hyv⟩:=hsl
    have hlz:La=none∨∃k,La=some (.int k 0):=by
     cases lo with
     | none=>exact .inl (CR rfl)
     | some x=>
      obtain⟨lv,rfl,oQ⟩:=xq x rfl
      obtain⟨k,rfl⟩:=tO z1 oQ
      exact .inr ⟨k,rfl⟩
    refine⟨.slice a 0 0,?_,hyv⟩
    rcases hlz with rfl | ⟨k,rfl⟩<;>simp [Instr.slice,cp hd,Instr.sliceBounds,Instr.sliceBound,asIntOf,fX hm]
   ·cases h
  | none=>
   rw [Wt rfl]
   simp only at h
   cases x with
   | nils=>
    simp only [SR,VR] at hx
    subst hx
    rw [aiK] at h
    obtain⟨⟨l,hh⟩,hb,rfl⟩:=h
    obtain⟨hr,h1,h2⟩:=nv (P:=P) (VU:=true) (aiQ _) xq CR Qu ED hb
    have:hh=0:=by omega
    subst this
    have:l=0:=by omega
    subst this
    exact⟨.slice none 0 0,by simp [Instr.slice,cp hd,hr,fX hm],by simp [VR]⟩
   | fz cs len ex=>
    simp only [SR,VR] at hx
    obtain⟨a,cap,rfl,ZB,hc2,hs,hc⟩:=hx
    rw [aiK] at h
    obtain⟨⟨l,hh⟩,hb,rfl⟩:=h
    obtain⟨hr,h1,h2⟩:=nv (P:=P) (VU:=true) ZB xq CR Qu ED hb
    have hh2:hh≤len:=by omega
    refine⟨.slice (if cap=l then a else a.map (·.add (l*m))) (hh - l) (cap - l),by simp [Instr.slice,cp hd,hr,fX hm],?_⟩
    simp only [VR]
    refine⟨_,_,rfl,by omega,fun he=>?_,?_,?_⟩
    rotate_left
    ·rcases hs with hs | ⟨hs,VV⟩
     ·left; split<;>simp [hs]
     ·right; subst hs; subst VV; simp
    rotate_left
    ·simp only [aiM,beq_iff_eq] at he
     have:=hc2 he.1
     omega
    ·rcases hc with hc | ⟨b,o',ha,SC,hex,hc⟩
     ·subst hc; exact .inl (by simp)
     ·by_cases hcl:cap=l
      ·left
       have:hh - l=0:=by omega
       simp [this]
      ·right
       rw [if_neg hcl,ha]
       exact⟨b,o'+l*m,by simp [addr_add],SC,fun he=>hex (by simp only [aiM] at he; exact he.1),(hc.drop _).take _⟩
   | rs id off len lq=>
    simp only at h
    split at h
    ·rename_i A9
     subst A9
     simp only [SR,VR] at hx
     rcases hx with⟨rfl,rfl,rfl,a,rfl⟩| hx
     ·rw [aiK] at h
      obtain⟨⟨l,hh⟩,hb,rfl⟩:=h
      obtain⟨hr,h1,h2⟩:=nv (P:=P) (VU:=true) (aiQ _) xq CR Qu ED hb
      have:hh=0:=by omega
      subst this
      have:l=0:=by omega
      subst this
      exact⟨.slice a 0 0,by simp [Instr.slice,cp hd,hr,fX hm],by simp only [VR]; exact .inl ⟨trivial,by simp,trivial,a,rfl⟩⟩
     obtain⟨nV,hid,a,cap,rfl,ZB,hc2,hc⟩:=hx
     rw [aiK] at h
     obtain⟨⟨l,hh⟩,hb,rfl⟩:=h
     obtain⟨hr,h1,h2⟩:=nv (P:=P) (VU:=true) ZB xq CR Qu ED hb
     have hh2:hh≤len:=by omega
     refine⟨.slice (if cap=l then a else a.map (·.add (l*lq))) (hh - l) (cap - l),by simp [Instr.slice,cp hd,hr,fX hm],?_⟩
     simp only [VR]
     refine .inr ⟨nV,hid,_,_,rfl,by omega,by split<;>simp [hc2],fun hl=>?_⟩
     ·rcases hc hl with⟨h3,h4⟩| h3
      ·by_cases hcl:cap=l
       ·right; omega
       ·left
        rw [if_neg hcl,h3]
        refine⟨by simp [addr_add,ajT],?_⟩
        rw [←h4]
        have:cap*lq=l*lq+(cap - l)*lq:=by rw [←akb]; congr 1; omega
        omega
      ·right; omega
    ·cases h
   | _=>cases h
end
end Go.R
namespace Go.R
open Go
section
variable {P:Program}
def ints (ns:List Int):List Value:=ns.map fun n=>.int .i64 n
theorem kS:∀{cs:List AV},cs.all n6=true→∃ns:List Int,cs=ns.map fun n=>AV.int .i64 n
 | [],_=>⟨[],rfl⟩
 | x::xs,h=>by
  simp only [ajB,aiM] at h
  obtain⟨ns,rfl⟩:=kS h.2
  cases x<;>simp [n6] at h
  rename_i k m
  cases k<;>simp at h
  exact⟨m::ns,rfl⟩
theorem nw {c:Cx}{L:Nat→Prop}:∀{ns:List Int} {vs:List Value},VRs c L (ns.map fun n=>AV.int .i64 n) vs→vs=ints ns
 | [],[],_=>rfl
 | m::ns,v::vs,h=>by
  have h1:v = .int .i64 m:=by simpa [VR] using h.1
  rw [h1,nw h.2]; rfl
 | [],_::_,h=>h.elim
 | _::_,[],h=>h.elim
theorem oa:∀ns ms:List Int,pG (ns.map fun n=>AV.int .i64 n) (ms.map fun n=>AV.int .i64 n)=decide (ns=ms)
 | [],[]=>rfl
 | [],_::_=>rfl
 | _::_,[]=>rfl
 | n::ns,m::ms=>by
  simp only [ai9,pG,lg,oa ns ms]
  by_cases h1:n=m<;>by_cases h2:ns=ms<;>simp [h1,h2]
theorem kE {t:TypeId}(w:World)(ht:P.underlying t=some (.int .i64)){ns:List Int}{vs:Array Value}(hv:vs.toList=ints ns){i:Nat}{m:Int}(hi:ns[i]? = some m):(part t vs i).run P w = .ok (.int .i64 m) w:=by
 have h2:vs[i]? = some (.int .i64 m):=by rw [←Array.getElem?_toList,hv]; simp [ints,hi]
 simp [part,isAgg,cp ht,h2]
theorem pa {e:TypeId}(d:Nat)(w:World)(he:P.underlying e=some (.int .i64)){xs ys:Array Value}{ns ms:List Int}(hx:xs.toList=ints ns)(hy:ys.toList=ints ms)(hl:ns.length=ms.length) :
  ∀m i,i+m=ns.length→(Op.eqItems (d+1) e 1 xs ys (List.range' i m)).run P w = .ok (decide (ns.drop i=ms.drop i)) w
 | 0,i,h=>by
  have h1:ns.drop i=[]:=by simp; omega
  have h2:ms.drop i=[]:=by simp; omega
  simp [Op.eqItems,h1,h2]
 | m+1,i,h=>by
  have ih:=pa d w he hx hy hl m (i+1) (by omega)
  rw [List.range'_succ]
  simp only [Op.eqItems,Nat.mul_one,Sem.run_bind,kE w he hx (aiN (show i<ns.length by omega)),kE w he hy (aiN (show i<ms.length by omega)),Result.andThen_ok,run_equalIn_int w d e .i64 .i64 _ _ he]
  have e1:ns.drop i=ns[i]::ns.drop (i+1):=aiZ (by omega)
  have e2:ms.drop i=ms[i]::ms.drop (i+1):=aiZ (by omega)
  rw [e1,e2]
  clear e1 e2
  generalize ns[i]=a
  generalize ms[i]=b
  by_cases h3:a=b
  ·simp [h3,ih]
  ·simp [h3]
def EE (P : Program) (f : Field) (i : Nat) : Bool := f.name != "_" && f.offset == i && (P.underlying f.type matches some (.int .i64)) && iR P f.type == some 1
theorem oc (d:Nat)(w:World){xs ys:Array Value}{ns ms:List Int}(hx:xs.toList=ints ns)(hy:ys.toList=ints ms)(hl:ns.length=ms.length) :
  ∀(fs:List Field) (i:Nat),i+fs.length=ns.length→(fs.zipIdx i).all (fun (f,j)=>EE P f j)=true→(Op.eqFields (d+1) xs ys fs).run P w = .ok (decide (ns.drop i=ms.drop i)) w
 | [],i,h,_=>by
  have h1:ns.drop i=[]:=by simp at h ⊢; omega
  have h2:ms.drop i=[]:=by simp at h ⊢; omega
  simp [Op.eqFields,h1,h2]
 | f::fs,i,h,ha=>by
  simp only [List.zipIdx_cons,ajB,aiM] at ha
  obtain⟨hf,ha⟩:=ha
  simp only [aiX] at h
  have ih:=oc d w hx hy hl fs (i+1) (by omega) ha
  simp only [EE,aiM,bne_iff_ne,ne_eq,beq_iff_eq] at hf
  obtain⟨⟨⟨f1,f2⟩,f3⟩,f4⟩:=hf
  have ZC:P.underlying f.type=some (.int .i64):=by
   revert f3
   split<;>simp_all
  simp only [Op.eqFields,f1,ne_eq,not_false_eq_true,if_true,Sem.run_bind,f2,kE w ZC hx (aiN (show i<ns.length by omega)),kE w ZC hy (aiN (show i<ms.length by omega)),Result.andThen_ok,run_equalIn_int w d f.type .i64 .i64 _ _ ZC]
  have e1:ns.drop i=ns[i]::ns.drop (i+1):=aiZ (by omega)
  have e2:ms.drop i=ms[i]::ms.drop (i+1):=aiZ (by omega)
  rw [e1,e2]
  clear e1 e2
  generalize ns[i]=a
  generalize ms[i]=b
  by_cases h3:a=b
  ·simp [h3,ih]
  ·simp [h3]
theorem pb {t:TypeId}(h:(P.underlying t matches some (.int .i64))=true):P.underlying t=some (.int .i64):=by
 revert h
 split<;>simp_all
theorem Lb {t:TypeId}{m:Nat}(h:iR P t=some m):∃i,P.info? t=some i∧P.cellsOf t=m:=by
 unfold iR at h
 rw [aiK] at h
 obtain⟨i,hi,rfl⟩:=h
 exact⟨i,hi,by simp [Program.cellsOf,hi]⟩
theorem bytes_beq (a b:ByteArray):(a.toList==b.toList)=(a.data.toList==b.data.toList):=by
 rw [ByteArray.toList_eq,ByteArray.toList_eq]
theorem BH {c:Cx}{L:Nat→Prop}{t:TypeId}{x y:AV}{v u:Value}(d:Nat)(hx:jx P t x=true)(hs:sameShape x y=true)(hv:VR c L x v)(hu:VR c L y u)(w:World) :
  (Op.equalIn (d+2) t v u).run P w = .ok (iY x y) w:=by
 cases hd:P.underlying t with
 | none=>simp [jx,hd] at hx
 | some td=>
 cases td<;>simp only [jx,hd] at hx<;>try (cases hx; done)
 ·rename_i q
  cases x<;>simp only at hx<;>try (cases hx; done)
  rename_i k a
  cases y<;>simp only [sameShape] at hs<;>try (cases hs; done)
  rename_i l b
  simp only [VR] at hv hu
  subst hv; subst hu
  simp only [beq_iff_eq] at hs hx
  subst hs; subst hx
  rw [run_equalIn_int w (d+1) t _ _ a b hd]
  simp [iY,lg]
 ·cases x<;>simp only at hx<;>try (cases hx; done)
  rename_i a
  cases y<;>simp only [sameShape] at hs<;>try (cases hs; done)
  rename_i b
  simp only [VR] at hv hu
  subst hv; subst hu
  rw [run_equalIn_string w (d+1) t a b hd,bytes_beq]
  simp [iY,lg]
 ·rename_i n e
  cases x<;>simp only at hx<;>try (cases hx; done)
  rename_i cs
  cases y<;>simp only [sameShape] at hs<;>try (cases hs; done)
  rename_i iO
  simp only [aiM,beq_iff_eq] at hx hs
  obtain⟨⟨⟨h1,h2⟩,h3⟩,h4⟩:=hx
  obtain⟨ns,rfl⟩:=kS hs.1.2
  obtain⟨ms,rfl⟩:=kS hs.2
  simp only [VR] at hv hu
  obtain⟨xs,rfl,hxs⟩:=hv
  obtain⟨ys,rfl,ZD⟩:=hu
  obtain⟨i,hi,ZE⟩:=Lb h4
  have hl:ns.length=ms.length:=by simpa using hs.1.1
  rw [run_equalIn_array w (d+1) xs ys hd hi,ZE]
  have:=pa (P:=P) d w (pb h3) (nw hxs) (nw ZD) hl n 0 (by simpa using h1.symm)
  rw [List.range_eq_range',this,iY,oa]
  simp
 ·rename_i fs
  cases x<;>simp only at hx<;>try (cases hx; done)
  rename_i cs
  cases y<;>simp only [sameShape] at hs<;>try (cases hs; done)
  rename_i iO
  simp only [aiM,beq_iff_eq,ajX] at hx hs
  obtain⟨⟨⟨h1,h2⟩,h3⟩,h4⟩:=hx
  obtain⟨ns,rfl⟩:=kS hs.1.2
  obtain⟨ms,rfl⟩:=kS hs.2
  simp only [VR] at hv hu
  obtain⟨xs,rfl,hxs⟩:=hv
  obtain⟨ys,rfl,ZD⟩:=hu
  have hl:ns.length=ms.length:=by simpa using hs.1.1
  have hf:P.fieldsOf t=fs:=by simp [Program.fieldsOf,hd]
  rw [run_equalIn_struct w (d+1) t xs ys (by rw [hf]; exact hd) h4,hf]
  have:=oc (P:=P) d w (nw hxs) (nw ZD) hl fs.toList 0 (by simpa using h1.symm) h3
  rw [this,iY,oa]
  simp
theorem rL {α:Type}(w:World)(f:α→PUnit→Sem (ForInStep PUnit)):∀l:List α,(∀x∈l,(f x PUnit.unit).run P w = .ok (.yield PUnit.unit) w)→(forIn l PUnit.unit f).run P w = .ok PUnit.unit w
 | [],_=>by simp
 | x::xs,h=>by
  have ih:=rL w f xs (fun y hy=>h y (by simp [hy]))
  simp only [List.forIn_cons,Sem.run_bind,h x (by simp),Result.andThen_ok]
  exact ih
theorem tl {c:Cx}{L:Nat→Prop}{t:TypeId}{x:AV}{v:Value}(em:Bool)(d:Nat)(hx:jx P t x=true)(hv:VR c L x v)(w:World) :
  (Instr.checkKey em (d+2) t v).run P w = .ok () w:=by
 have one:∀(e:TypeId) (m:Int),P.underlying e=some (.int .i64)→(Instr.checkKey em (d+1) e (.int .i64 m)).run P w = .ok () w:=by
  intro e m he
  simp [Instr.checkKey,cp he]
 cases hd:P.underlying t with
 | none=>simp [jx,hd] at hx
 | some td=>
 cases td<;>simp only [jx,hd] at hx<;>try (cases hx; done)
 ·cases x<;>simp only at hx<;>try (cases hx; done)
  simp only [VR] at hv
  subst hv
  simp [Instr.checkKey,cp hd]
 ·cases x<;>simp only at hx<;>try (cases hx; done)
  simp only [VR] at hv
  subst hv
  simp [Instr.checkKey,cp hd]
 ·rename_i n e
  cases x<;>simp only at hx<;>try (cases hx; done)
  rename_i cs
  simp only [aiM,beq_iff_eq] at hx
  obtain⟨⟨⟨h1,h2⟩,h3⟩,h4⟩:=hx
  obtain⟨ns,rfl⟩:=kS h2
  simp only [VR] at hv
  obtain⟨xs,rfl,hxs⟩:=hv
  rw [Instr.checkKey]
  simp only [Sem.run_bind,cp hd,Result.andThen_ok]
  simp only [Std.Legacy.Range.forIn_eq_forIn_range',Std.Legacy.Range.size,Nat.sub_zero,Nat.add_one_sub_one,Nat.div_one]
  rw [rL w _ (List.range' 0 n) (fun i hi=>?_)]
  ·rfl
  ·have IE:i<ns.length:=by simp at hi h1; omega
   simp only [Sem.run_bind,fX h4,Result.andThen_ok,Nat.mul_one]
   rw [kE w (pb h3) (nw hxs) (aiN IE)]
   simp only [Result.andThen_ok,one e _ (pb h3)]
   rfl
 ·rename_i fs
  cases x<;>simp only at hx<;>try (cases hx; done)
  rename_i cs
  simp only [aiM,beq_iff_eq,ajX] at hx
  obtain⟨⟨⟨h1,h2⟩,h3⟩,h4⟩:=hx
  obtain⟨ns,rfl⟩:=kS h2
  simp only [VR] at hv
  obtain⟨xs,rfl,hxs⟩:=hv
  rw [Instr.checkKey]
  simp only [Sem.run_bind,cp hd,Result.andThen_ok]
  rw [←Array.forIn_toList]
  rw [rL w _ fs.toList (fun f hf=>?_)]
  ·rfl
  ·obtain⟨i,hi,rfl⟩:=List.mem_iff_getElem.1 hf
   have hm:(fs.toList[i],i)∈fs.toList.zipIdx:=by rw [List.mem_zipIdx_iff_getElem?]; simp [hi]
   have hh:=ajd.1 h3 _ hm
   generalize fs.toList[i]=f at hh
   simp only [aiM,bne_iff_ne,ne_eq,beq_iff_eq] at hh
   obtain⟨⟨⟨f1,f2⟩,f3⟩,f4⟩:=hh
   have IE:i<ns.length:=by simp at hi h1; omega
   rw [if_pos f1,f2]
   simp only [Sem.run_bind]
   rw [kE w (pb f3) (nw hxs) (aiN IE)]
   simp only [Result.andThen_ok,one _ _ (pb f3)]
   rfl
end
end Go.R
