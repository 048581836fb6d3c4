/- Part of the proof: RCore, RRel, RFrame, ROps1, ROps2, RKeys. -/
import GoSem.Dispatch
import GoSem.Machine.Return
import Derived.Orders
import Derived.Below
import Derived.Laws.World
import Derived.Laws.Sem
import Derived.Tactics
import Derived.Laws.Cells
import Derived.Laws.Entries
import Derived.ChangeKeysEq
import Derived.WideKeyRuns
set_option linter.unusedVariables false
set_option linter.unusedSimpArgs false
set_option maxRecDepth 100000
open Array renaming getElem?_eq_some_iff → afH, getElem?_setIfInBounds → af9
open Bool renaming and_eq_true → ae3, false_eq_true → afa, not_eq_true' → agk
open List renaming getElem?_eq_some_iff → ae5, getElem?_eq_getElem → ae8, length_cons → afc, drop_eq_getElem_cons → afe, mem_of_getElem? → afj, mem_cons → afq, all_eq_true → afr, map_cons → afs, all_cons → afQ
open Nat renaming le_refl → ae4, zero_add → aft, lt_of_lt_of_le → afx, beq → afN, le_trans → afV, add_sub_cancel_left → afX, add_assoc → af8, le_succ → agb, eq_of_beq_eq_true → agd, add_mul → ags, add_right_comm → agy, ble → agB, mul_one → agI
open Option renaming bind_eq_some_iff → ae0, map_eq_some_iff → ae1
open Option.some renaming injEq → ae2
open Prod.mk renaming injEq → ae9
namespace Go.R
open Go
inductive AV where
 | any
 | bool (b:Bool)
 | int (k:IntKind) (n:Int)
 | str (s:ByteArray)
 | rF
 | ptr (id off:Nat)
 | lp (k off:Nat)
 | fp (cs:List AV) (off:Nat)
 | nils
 | fz (cs:List AV) (n:Nat) (ex:Bool)
 | rs (id off len kA:Nat)
 | pC
 | mp (id:Nat)
 | fn (f:FuncId) (cap:List AV)
 | sQ
 | agg (cs:List AV)
 | tup (vs:List AV)
 deriving Inhabited
inductive AObj where
 | cells (cs:List AV)
 | map (es:List (AV × AV))
 | row (e:TypeId) (cs:List AV)
 deriving Inhabited
structure AHeap where
 get:Nat→Option AObj
 ver:Nat→Nat
 next:Nat
def AHeap.put (h:AHeap)(id:Nat)(o:AObj):AHeap:={get:=fun i=>bif afN i id then some o else h.get i,ver:=fun i=>bif afN i id then h.next else h.ver i,next:=h.next+1}
def AHeap.kill (h:AHeap)(id:Nat):AHeap:={get:=fun i=>bif afN i id then none else h.get i,ver:=fun i=>bif afN i id then h.next else h.ver i,next:=h.next+1}
def AHeap.alloc (h:AHeap)(o:AObj):AHeap:=h.put h.next o
def AV.cells:AV→List AV
 | .agg cs=>cs
 | v=>[v]
def AV.cL:AV→Bool
 | .any | .lp .. | .agg _ | .tup _=>false
 | _=>true
def AV.nI:AV→Bool
 | .lp .. | .any=>false
 | .agg cs=>cs.all AV.cL
 | _=>true
mutual
def AV.fK:AV→Bool
 | .any | .lp .. | .ptr .. | .rs .. | .mp _=>false
 | .fp cs _ | .fz cs _ _ | .agg cs | .tup cs | .fn _ cs=>dH cs
 | _=>true
def dH:List AV→Bool
 | []=>true
 | x::xs=>x.fK&&dH xs
end
mutual
def AV.lH:AV→AV
 | .nils=>.fz [] 0 false
 | .fz cs n _=>.fz (en cs) n false
 | .fp cs off=>.fp (en cs) off
 | .agg cs=>.agg (en cs)
 | .tup cs=>.tup (en cs)
 | .fn f cs=>.fn f (en cs)
 | x=>x
def en:List AV→List AV
 | []=>[]
 | x::xs=>x.lH::en xs
end
def AV.jh:AV→Option Value
 | .bool b=>some (.bool b)
 | .int k n=>some (.int k n)
 | .str s=>some (.string s)
 | .rF=>some (.pointer none)
 | .sQ=>some .nilFunc
 | .pC=>some (.map none)
 | .nils=>some (.slice none 0 0)
 | _=>none
def lq:List AV→Option (List Value)
 | []=>some []
 | x::xs=>(x.jh).bind fun v=>(lq xs).bind fun vs=>some (v::vs)
def AV.E1:AV→Option Value
 | .agg cs=>(lq cs).map fun vs=>.agg vs.toArray
 | v=>v.jh
def sR:Value→Option AV
 | .bool b=>some (.bool b)
 | .int k n=>some (.int k n)
 | .string s=>some (.str s)
 | .pointer none=>some .rF
 | .slice none 0 0=>some .nils
 | .map none=>some .pC
 | .nilFunc=>some .sQ
 | _=>none
def vq:List Value→Option (List AV)
 | []=>some []
 | x::xs=>(sR x).bind fun v=>(vq xs).bind fun vs=>some (v::vs)
def J3:Value→Option AV
 | .agg cs=>(vq cs.toList).map .agg
 | v=>sR v
def kM {α:Type}(P:Program):Sem α→Option α
 | .pure a=>some a
 | .program k=>kM P (k P)
 | _=>none
def ck (ρ:Nat→AV):Operand→AV
 | .tmp t=>ρ t
 | .const v=>(J3 v).getD .any
 | .func f=>.fn f []
 | .global _=>.any
section
variable (P:Program)
def hH (t:TypeId):Option Nat:=(P.info? t).map (·.size)
def jX (t:TypeId):Option AV:=(P.info? t).bind fun i=>i.zero.bind J3
def iQ (t:TypeId):Option Bool:=(P.underlying t).map fun | .struct _ | .array _ _=>true | _=>false
def ls (t:TypeId)(cs:List AV)(off:Nat):Option AV:=
 (iQ P t).bind fun ag=>if ag then (hH P t).bind fun n=>if off+n≤cs.length then some (.agg ((cs.drop off).take n)) else none else cs[off]?
def eO:List AV→Nat→List AV→List AV
 | cs,_,[]=>cs
 | cs,i,v::vs=>eO (cs.set i v) (i+1) vs
def jM (t:TypeId)(cs:List AV)(off:Nat)(v:AV):Option (List AV):=
 (hH P t).bind fun n=>if v.cells.length=n∧v.cells.all AV.cL∧off+n≤cs.length then some (eO cs off v.cells) else none
def xp (place:Nat→Option (Nat × Nat))(cells:List AV):List (Nat × AV)→Option (List AV)
 | []=>some cells
 | (i,v)::rest=>
  (place i).bind fun (off,size)=>
   if v.cells.length=size∧v.cells.all AV.cL∧off+size≤cells.length then xp place (eO cells off v.cells) rest else none
def E2 (fs:List Field)(i:Nat):Option (Nat × Nat):=(fs[i]?).bind fun f=>(hH P f.type).map fun n=>(f.offset,n)
def E3 (t:TypeId)(parts:List (Nat × AV)):Option AV:=
 (jX P t).bind fun z=>(P.underlying t).bind fun
  | .struct fs=>if fs.toList.all (fun f=>(hH P f.type).isSome) then (xp (E2 P fs.toList) z.cells parts).map .agg else none
  | .array _ e=>(hH P e).bind fun n=>(xp (fun i=>some (i*n,n)) z.cells parts).map .agg
  | _=>none
def jU (z:List AV):Nat→List AV
 | 0=>[]
 | n+1=>z++jU z n
def jz (t:TypeId)(len:Nat)(parts:List (Nat × AV)):Option AV:=
 (P.underlying t).bind fun
  | .slice e=>(hH P e).bind fun n=>if n=0∨len*n > 16777216 then none else if len=0 then (if parts.isEmpty then some (.fz [] 0 true) else none) else
    (jX P e).bind fun z=>if z.cells.length=n then (xp (fun i=>some (i*n,n)) (jU z.cells len) parts).map fun cs=>.fz cs len true else none
  | _=>none
def AV.shift:AV→Nat→Option AV
 | .ptr id off,n=>some (.ptr id (off+n))
 | .lp k off,n=>some (.lp k (off+n))
 | .fp cs off,n=>some (.fp cs (off+n))
 | _,_=>none
def sc (s:TypeId)(x:AV)(f:Nat):Option AV:=
 (P.underlying s).bind fun
  | .struct fs=>(fs[f]?).bind fun fd=>(hH P fd.type).bind fun n=>if n=0 then none else x.shift fd.offset
  | _=>none
def gS (t:TypeId)(x i:AV):Option AV:=
 match i with
 | .int _ i=>
  (P.underlying t).bind fun
   | .array len e=>(hH P e).bind fun n=>if 0≤i∧i<len then x.shift (i.toNat*n) else none
   | .slice e=>(hH P e).bind fun n=>
    match x with
    | .fz cs len _=>if 0≤i∧i<len∧i.toNat*n<cs.length then some (.fp cs (i.toNat*n)) else none
    | .rs id off len kA=>if kA=n∧0≤i∧i<len then some (.ptr id (off+i.toNat*n)) else none
    | _=>none
   | _=>none
 | _=>none
def Gw (t:TypeId)(cs:List AV)(off:Nat):Option AV:=ls P t cs off
def E4 (s:TypeId)(x:AV)(f:Nat):Option AV:=
 match x with
 | .agg cs=>(P.underlying s).bind fun
  | .struct fs=>(fs[f]?).bind fun fd=>Gw P fd.type cs fd.offset
  | _=>none
 | _=>none
def ui (t:TypeId)(x i:AV):Option AV:=
 match i with
 | .int _ i=>
  (P.underlying t).bind fun
   | .array len e=>match x with
    | .agg cs=>(hH P e).bind fun n=>if 0≤i∧i<len then Gw P e cs (i.toNat*n) else none
    | _=>none
   | .string=>match x with
    | .str s=>if 0≤i then (s.data.toList[i.toNat]?).map fun b=>.int .u8 b.toNat else none
    | _=>none
   | _=>none
 | _=>none
def mY (len cap:Nat)(lo hi:Option AV):Option (Nat × Nat):=
 (match hi with | none=>some len | some (.int _ i)=>if 0≤i∧i≤cap then some i.toNat else none | _=>none).bind fun h=>
 (match lo with | none=>some 0 | some (.int _ i)=>if 0≤i∧i≤h then some i.toNat else none | _=>none).bind fun l=>some (l,h)
def isZero:Option AV→Bool
 | none=>true
 | some (.int _ i)=>i==0
 | _=>false
def oz (t:TypeId)(x:AV)(lo hi mx:Option AV):Option AV:=
 (P.underlying t).bind fun
  | .string=>match x,mx with
   | .str s,none=>(mY s.size s.size lo hi).map fun (l,h)=>.str (s.extract l h)
   | _,_=>none
  | .slice e=>(hH P e).bind fun n=>
   match mx with
   | some m=>match hi with
    | some _=>if isZero lo&&isZero hi&&isZero (some m) then (match x with | .fz .. | .rs ..=>some (.fz [] 0 true) | .nils=>some .nils | _=>none) else none
    | none=>none
   | none=>
    match x with
    | .nils=>(mY 0 0 lo hi).map fun _=>.nils
    | .fz cs len ex=>(mY len len lo hi).map fun (l,h)=>.fz ((cs.drop (l*n)).take ((h - l)*n)) (h - l) (ex&&h==len)
    | .rs id off len kA=>if kA=n then (mY len len lo hi).map fun (l,h)=>.rs id (off+l*n) (h - l) kA else none
    | _=>none
  | _=>none
def fi (h:AHeap)(size:Nat)(x:AV):Option (List AV × Nat):=
 match x with
 | .nils=>some ([],0)
 | .fz cs n _=>if cs.length=n*size then some (cs,n) else none
 | .rs id off len kA=>if id=0∨(len=0∧(h.get id).isNone=true) then (if len=0 then some ([],0) else none) else (h.get id).bind fun
  | .cells cs=>if kA=size∧off+len*size≤cs.length then some ((cs.drop off).take (len*size),len) else none
  | _=>none
 | .str s=>if size=1 then some (s.data.toList.map fun b=>.int .u8 b.toNat,s.size) else none
 | _=>none
def ia:Nat:=1099511627776
def kB (t2:TypeId)(x:AV):Bool:=
 match x with
 | .str _=>(P.underlying t2 matches some .string)
 | _=>(P.underlying t2 matches some (.slice _))
def Pv (i:TypeInfo):Bool:=match i.zero.bind J3 with | some z=>z.cells.length==i.size | none=>false
def mo:AV→AV
 | .nils=>.fz [] 0 false
 | x=>x
def eY (h:AHeap)(size:Nat)(x:AV):Option (List AV × Nat):=(fi h size x).map fun p=>(p.1.map mo,p.2)
def dM (h:AHeap)(t t2:TypeId)(s x:AV):Option (AV × AHeap):=
 (P.underlying t).bind fun
  | .slice e=>(P.info? e).bind fun i=>
   (eY h i.size x).bind fun (new,n)=>
    if i.size=0∨kB P t2 x=false∨Pv i=false then none else
    match s with
    | .nils=>if n*i.bytes > ia∨n > ia then none else if n=0 then some (.rs 0 0 0 i.size,h) else some (.rs h.next 0 n i.size,h.alloc (.cells new))
    | .fz cs len true=>if (len+n)*i.bytes > ia∨len+n > ia∨cs.length≠len*i.size then none else if n=0 then (if len=0 then some (.rs 0 0 0 i.size,h) else some (s,h)) else some (.rs h.next 0 (len+n) i.size,h.alloc (.cells (cs++new)))
    | .rs id off len kA=>if id=0 then (if n*i.bytes > ia∨n > ia∨kA≠i.size then none else if n=0 then some (s,h) else some (.rs h.next 0 n i.size,h.alloc (.cells new))) else (h.get id).bind fun
     | .cells cs=>if kA≠i.size∨off+len*kA > cs.length∨(len+n)*i.bytes > ia∨len+n > ia then none else
       if n=0 then some (s,h) else some (.rs h.next 0 (len+n) kA,(h.kill id).put h.next (.cells ((cs.drop off).take (len*kA)++new)))
     | _=>none
    | _=>none
  | _=>none
def lu:AV→AV→Bool
 | .int k a,.int l b=>k==l&&a==b
 | .str a,.str b=>a.data.toList==b.data.toList
 | .bool a,.bool b=>a==b
 | _,_=>false
def oA:List AV→List AV→Bool
 | [],[]=>true
 | x::xs,y::ys=>lu x y&&oA xs ys
 | _,_=>false
def iw:AV→AV→Bool
 | .agg xs,.agg ys=>oA xs ys
 | x,y=>lu x y
def mZ:AV→Bool
 | .int .i64 _=>true
 | _=>false
def ji (t:TypeId)(k:AV):Bool:=
 match P.underlying t,k with
 | some (.int q),.int k _=>q==k
 | some .string,.str _=>true
 | some (.array n e),.agg cs=>cs.length==n&&cs.all mZ&&(P.underlying e matches some (.int .i64))&&hH P e==some 1
 | some (.struct fs), .agg cs => cs.length == fs.size && cs.all mZ && fs.toList.zipIdx.all (fun (f, i) => f.name != "_" && f.offset == i && (P.underlying f.type matches some (.int .i64)) && hH P f.type == some 1) && !P.stoodInHeld t
 | _,_=>false
def sameShape:AV→AV→Bool
 | .int k _,.int l _=>k==l
 | .str _,.str _=>true
 | .agg xs,.agg ys=>xs.length==ys.length&&xs.all mZ&&ys.all mZ
 | _,_=>false
def kN (k:AV):List (AV × AV)→Option (Option AV)
 | []=>some none
 | (k',v)::es=>if sameShape k k' then (if iw k k' then some (some v) else kN k es) else none
def A0 (k v:AV):List (AV × AV)→Option (List (AV × AV))
 | []=>some [(k,v)]
 | (k',v')::es=>if sameShape k k' then (if iw k k' then some ((k,v)::es) else (A0 k v es).map ((k',v') :: ·)) else none
def iR (h:AHeap)(t:TypeId)(m k:AV)(ok:Bool):Option AV:=
 (P.underlying t).bind fun
  | .map kt et=>if ji P kt k=false then none else
   (match m with
    | .pC=>some []
    | .mp id=>(h.get id).bind fun | .map es=>some es | _=>none
    | _=>none).bind fun es=>
   (kN k es).bind fun
   | some v=>some (if ok then .tup [v,.bool true] else v)
   | none=>(jX P et).map fun z=>if ok then .tup [z,.bool false] else z
  | _=>none
def kO (h:AHeap)(t:TypeId)(m k v:AV):Option AHeap:=
 (P.underlying t).bind fun
  | .map kt _=>if ji P kt k=false∨v.nI=false then none else
   match m with
   | .mp id=>(h.get id).bind fun | .map es=>(A0 k v es).map fun vt=>h.put id (.map vt) | _=>none
   | _=>none
  | _=>none
def xq (h:AHeap)(t:TypeId)(x:AV):Option AV:=
 (P.underlying t).bind fun
  | .slice _=>match x with
   | .nils=>some (.int .i64 0)
   | .fz _ n _=>some (.int .i64 n)
   | .rs _ _ n _=>some (.int .i64 n)
   | _=>none
  | .string=>match x with
   | .str s=>some (.int .i64 s.size)
   | _=>none
  | .map _ _=>match x with
   | .pC=>some (.int .i64 0)
   | .mp id=>(h.get id).bind fun | .map es=>some (.int .i64 es.length) | _=>none
   | _=>none
  | _=>none
def vu (h:AHeap)(t t2:TypeId)(d x:AV):Option (AV × AHeap):=
 (P.underlying t).bind fun
  | .slice e=>(P.info? e).bind fun i=>(fi h i.size x).bind fun (new,m)=>
   if kB P t2 x=false then none else
   match d with
   | .rs id off len kA=>if id=0 then (if m=0 then some (.int .i64 0,h) else none) else (h.get id).bind fun
    | .cells cs=>if kA=i.size∧m≤len∧off+m*i.size≤cs.length then some (.int .i64 m,h.put id (.cells (eO cs off new))) else none
    | _=>none
   | .nils=>if m=0 then some (.int .i64 0,h) else none
   | _=>none
  | _=>none
def oB (h:AHeap)(t:TypeId)(x:AV):Option AHeap:=
 (P.underlying t).bind fun ty=>match x with
 | .pC=>some h
 | .mp id=>(h.get id).bind fun | .map _=>some (h.put id (.map [])) | _=>none
 | .rs id off len kA=>if len=0 then some h else if id=0 then none else match ty with
  | .slice e=>(P.info? e).bind fun i=>(jX P e).bind fun z=>(h.get id).bind fun
   | .cells cs=>if kA=i.size∧z.cells.length=i.size∧i.size≠0∧z.cells.all AV.cL∧off+len*kA≤cs.length then some (h.put id (.cells (eO cs off (jU z.cells len)))) else none
   | _=>none
  | _=>none
 | _=>none
def iq (h:AHeap)(t:TypeId)(l c:AV):Option (AV × AHeap):=
 match l,c with
 | .int .i64 l,.int .i64 c=>
  (P.underlying t).bind fun
   | .slice e=>(P.info? e).bind fun i=>(jX P e).bind fun z=>
    if 0≤l∧l≤c∧c*i.bytes≤ia∧z.cells.length=i.size∧i.size≠0∧c≤1099511627776∧z.cells.all AV.cL then some (.rs h.next 0 l.toNat i.size,h.alloc (.cells (jU z.cells l.toNat))) else none
   | _=>none
 | _,_=>none
def Pw:List AV→Option (List UInt8)
 | []=>some []
 | .int .u8 n::xs=>(Pw xs).map fun l=>UInt8.ofNat n.toNat::l
 | _::_=>none
def J4 (e:TypeId):Bool:=(P.underlying e matches some (.int .u8))&&hH P e==some 1
def pW (h:AHeap)(src dst:TypeId)(x:AV):Option AV:=
 match P.underlying src,P.underlying dst with
 | some (.slice e),some .string=>if J4 P e then (fi h 1 x).bind fun (cs,_)=>(Pw cs).map fun l=>.str ⟨l.toArray⟩ else none
 | some .string,some (.slice e)=>match x with
  | .str s=>if J4 P e then some (.fz (s.data.toList.map fun b=>.int .u8 b.toNat) s.size false) else none
  | _=>none
 | some (.slice _),some (.slice e)=>match x with
  | .fz cs n true=>if src==dst&&J4 P e&&0<cs.length then some (.fz cs n true) else none
  | _=>none
 | _,_=>(x.jh).bind fun v=>(kM P (convert src dst v)).bind sR
def E5 (op:BinOp)(x y:ByteArray):Option AV:=
 let a:=x.data.toList
 let b:=y.data.toList
 match op with
 | .add=>if x.size+y.size≤1099511627776 then some (.str (x++y)) else none
 | .eql=>some (.bool (a==b))
 | .neq=>some (.bool (!(a==b)))
 | .lss=>some (.bool (Op.bytesLess a b))
 | .leq=>some (.bool (Op.bytesLess a b||a==b))
 | .gtr=>some (.bool (!(Op.bytesLess a b||a==b)))
 | .geq=>some (.bool (!Op.bytesLess a b))
 | _=>none
def E6:BinOp→Option Bool
 | .eql=>some true
 | .neq=>some false
 | _=>none
def pX (op:BinOp)(t:TypeId)(x y:AV):Option AV:=
 match x,y with
 | .str a,.str b=>E5 op a b
 | .ptr ..,.rF | .rF,.ptr .. | .fp ..,.rF=>(E6 op).bind fun uc=>if (P.underlying t matches some (.pointer _)) then some (.bool (!uc)) else none
 | .fz (_::_) ..,.nils | .rs (_+1) ..,.nils=>(E6 op).bind fun uc=>if (P.underlying t matches some (.slice _)) then some (.bool (!uc)) else none
 | .agg _,.agg _=>(E6 op).bind fun uc=>if ji P t x&&ji P t y&&sameShape x y && !P.eqGuardType P.depth t then some (.bool (iw x y==uc)) else none
 | x,y=>(x.jh).bind fun a=>(y.jh).bind fun b=>(kM P (binOp op t a b)).bind sR
def oC (op:Value→Value→Sem Value):Value→List Value→Option Value
 | v,[]=>some v
 | v,x::xs=>(kM P (op v x)).bind fun u=>oC op u xs
structure RS where
 ρ:Nat→AV
 bx:Nat→Option (List AV)
 h:AHeap
def RS.set (s:RS)(d:Option Nat)(v:AV):RS:=
 match d with
 | none=>s
 | some d=>{s with ρ:=fun t=>bif afN t d then v else s.ρ t}
def RS.box (s:RS)(k:Nat)(cs:List AV):RS:={s with bx:=fun t=>bif afN t k then some cs else s.bx t}
abbrev CallF:=FuncId→List AV→AHeap→Option (AV × AHeap)
def xt (k:Nat)(ρ:Nat→AV):List Nat→Bool
 | []=>true
 | t::ts=>(match ρ t with | .lp j _=>j != k | _=>true)&&xt k ρ ts
def kp (s:RS)(aS ds:List Nat)(o:Oper)(cs:List AV):Option RS:=
 if cs.all AV.cL then
  match o.dst with
  | some d=>if aS.contains d then (if xt d s.ρ (ds.filter fun t=>!Nat.beq t d) then some ((s.box d cs).set (some d) (.lp d 0)) else none) else some ({s with h:=s.h.alloc (.cells cs)}.set (some d) (.ptr s.h.next 0))
  | none=>none
 else none
def xu:AV→Option Bool
 | .bool b=>some b
 | _=>none
def iL (s:RS)(o:Oper)(b:Builtin)(ts:List TypeId)(args:List AV):Option RS:=
 match b,ts,args with
 | .len,[t],[x]=>(xq P s.h t x).map fun v=>s.set o.dst v
 | .append,[t,t2],[x,y]=>(dM P s.h t t2 x y).map fun (v,h)=>{s with h}.set o.dst v
 | .copy,[t,t2],[x,y]=>(vu P s.h t t2 x y).map fun (v,h)=>{s with h}.set o.dst v
 | .clear,[t],[x]=>(oB P s.h t x).map fun h=>{s with h}.set o.dst (.tup [])
 | .min,_,x::xs=>(x.jh).bind fun v=>(lq xs).bind fun vs=>(oC P Builtin.min2 v vs).bind fun u=>(sR u).map fun r=>s.set o.dst r
 | .max,_,x::xs=>(x.jh).bind fun v=>(lq xs).bind fun vs=>(oC P Builtin.max2 v vs).bind fun u=>(sR u).map fun r=>s.set o.dst r
 | _,_,_=>none
def mr (bx:Nat→Option (List AV))(h:AHeap)(t:TypeId)(x:AV):Option AV:=
 match x with
 | .lp k off=>(bx k).bind fun cs=>ls P t cs off
 | .fp cs off=>if cs.isEmpty then none else ls P t cs off
 | .ptr id off=>(h.get id).bind fun | .cells cs=>ls P t cs off | _=>none
 | _=>none
def uj:AV→Option AV
 | .ptr id off=>some (.ptr id off)
 | .lp k off=>some (.lp k off)
 | .fp cs off=>some (.fp cs off)
 | _=>none
def xw:AV→Nat→Option AV
 | .tup vs,i=>vs[i]?
 | _,_=>none
def sd (aS:List Nat)(o:Oper)(t:TypeId)(x:AV):Option (List AV × Nat × Nat):=
 match o.dst,x with
 | some d,.fz (c::cs) n true=>bif aS.contains d then (match P.underlying t with
   | some (.slice e)=>match hH P e with
    | some z=>bif afN (c::cs).length (n*z) then some (c::cs,n,z) else none
    | none=>none
   | _=>none) else none
 | _,_=>none
def uk (aS:List Nat)(s:RS)(o:Oper)(t:TypeId)(x:AV):RS:=
 match sd P aS o t x with
 | none=>s.set o.dst x
 | some (cs,n,z)=>{s with h:=s.h.alloc (.cells cs)}.set o.dst (.rs s.h.next 0 n z)
def J5:List Nat→Nat→Nat
 | [],_=>0
 | k::ks,d=>bif afN (k % 1000000) d&&agB 1000000 k then k / 1000000 else J5 ks d
def zq (n:Nat):AV→AV
 | .nils=>.rs 0 0 0 n
 | x=>x
def E7 (n:Nat):Nat→List AV→List AV
 | _,[]=>[]
 | j,x::xs=>(match n / 100 / 10 ^ j % 10 with | 0=>x | k=>zq k x)::E7 n (j+1) xs
def NO (cs:List AV):Nat→List AV
 | 0=>cs
 | n=>bif agB 100 n then E7 n 0 cs else cs.map (zq n)
def E8 (aS:List Nat)(d:Option Nat)(cs:List AV):List AV:=
 match d with
 | none=>cs
 | some d=>NO cs (J5 aS d)
def Qk (aS:List Nat)(d:Option Nat):AV→AV
 | .agg cs=>.agg (E8 aS d cs)
 | x=>x
def IC (h:AHeap)(x:AV):Option (AV × AHeap):=
 if x.fK then some (x,h) else
 match x with
 | .rs id off len kA=>if id=0 then (if len=0 then some (.fz [] 0 false,h) else none) else (h.get id).bind fun
  | .cells cs=>if off+len*kA≤cs.length∧dH ((cs.drop off).take (len*kA))=true then some (.fz ((cs.drop off).take (len*kA)) len false,h.kill id) else none
  | _=>none
 | _=>none
def A5 (h:AHeap):List AV→Option (List AV × AHeap)
 | []=>some ([],h)
 | x::xs=>(IC h x).bind fun a=>(A5 a.2 xs).map fun b=>(a.1::b.1,b.2)
def kP (k:Nat)(h:AHeap)(x:AV):Option (AV × AHeap):=
 match k with
 | 0=>
  match x with
  | .nils=>some (.fz [] 0 false,h)
  | .rs id off len kA=>if id=0 then (if len=0 then some (.fz [] 0 false,h) else none) else (h.get id).bind fun
   | .cells cs=>if off+len*kA≤cs.length then (A5 (h.kill id) ((cs.drop off).take (len*kA))).map fun r=>(.fz r.1 len false,r.2) else none
   | _=>none
  | .fz cs n _=>some (.fz cs n false,h)
  | _=>none
 | k+1=>
  match x with
  | .nils=>some (.rs 0 0 0 (k+1),h)
  | .fz [] 0 true=>some (.rs 0 0 0 (k+1),h)
  | .rs id off len kA=>some (.rs id off len kA,h)
  | _=>none
def Tw (aS:List Nat)(d:Option Nat):Bool:=
 match d with
 | none=>false
 | some d=>aS.contains (1000000000+d)
def A6 (aS:List Nat)(d:Option Nat)(x:AV × AHeap):Option (AV × AHeap):=
 bif Tw aS d then kP 0 x.2 x.1 else some x
def E9 (cf:CallF)(aS ds:List Nat)(e:Operand→AV)(s:RS)(o:Oper):Option RS:=
 let v (r:Option AV):Option RS:=r.map fun x=>s.set o.dst x
 match o.op with
 | .move x | .assign x=>some (s.set o.dst (e x))
 | .pick c a b=>(xu (e c)).map fun t=>s.set o.dst (if t then e a else e b)
 | .alloc t=>(jX P t).bind fun z=>kp s aS ds o (E8 aS o.dst z.cells)
 | .box _ x=>kp s aS ds o (e x).cells
 | .build t ps=>v ((E3 P t (ps.toList.map fun (i,x)=>(i,e x))).map (Qk aS o.dst))
 | .buildSlice t n ps=>(jz P t n (ps.toList.map fun (i,x)=>(i,e x))).map fun x=>uk P aS s o t x
 | .load t a=>v (mr P s.bx s.h t (e a))
 | .store t a x=>if o.dst.isSome then none else
  match e a with
  | .lp k off=>(s.bx k).bind fun cs=>(jM P t cs off (e x)).map fun gF=>s.box k gF
  | .ptr id off=>(s.h.get id).bind fun | .cells cs=>(jM P t cs off (e x)).map fun gF=>{s with h:=s.h.put id (.cells gF)} | _=>none
  | _=>none
 | .nilCheck x=>v (uj (e x))
 | .binOp op t x y _=>v (pX P op t (e x) (e y))
 | .unOp op _ x=>v ((e x).jh.bind fun a=>(kM P (Op.unary op a)).bind sR)
 | .convert a b x=>v (pW P s.h a b (e x))
 | .makeFunc (.func f) first cap=>if first.isEmpty∧(cap.toList.map e).all AV.cL then v (some (.fn f (cap.toList.map e))) else none
 | .makeMap _ none=>some ({s with h:=s.h.alloc (.map [])}.set o.dst (.mp s.h.next))
 | .makeSlice t l c=>(iq P s.h t (e l) (e c)).map fun (x,h)=>{s with h}.set o.dst x
 | .slice t x lo hi mx=>v (oz P t (e x) (lo.map e) (hi.map e) (mx.map e))
 | .fieldAddr t x f=>v (sc P t (e x) f)
 | .field t x f=>v (E4 P t (e x) f)
 | .indexAddr t x i=>v (gS P t (e x) (e i))
 | .index t x i=>v (ui P t (e x) (e i))
 | .lookup t m k ok=>v (iR P s.h t (e m) (e k) ok)
 | .mapUpdate t m k x | .insert t m k x=>if o.dst.isSome then none else (kO P s.h t (e m) (e k) (e x)).map fun h=>{s with h}
 | .extract t i=>v (xw (e t) i)
 | .call {callee:=.builtin b,args,argTypes}=>iL P s o b argTypes.toList (args.toList.map e)
 | .call {callee:=.value f,args,..}=>
  match e f with
  | .fn f cap=>let as:=args.toList.map e
    if as.all AV.nI then ((cf f (as++cap) s.h).bind (A6 aS o.dst)).map fun (r,h)=>{s with h}.set o.dst r else none
  | _=>none
 | _=>none
def A7 (cf:CallF)(aS ds:List Nat)(s:RS)(o:Oper):Option RS:=E9 P cf aS ds (ck s.ρ) s o
def jN (ops:List Oper)(ρ:Nat→AV)(o:Oper):Option Bool:=
 match o.guard with
 | none=>some true
 | some (j,want)=>((ops[j]?).bind (·.dst)).bind fun d=>match ρ d with
  | .bool b=>some (b==want)
  | .tup []=>some false
  | _=>none
def pY (cf:CallF)(aS:List Nat)(ops:List Oper)(s:RS)(o:Oper):Option RS:=
 (jN ops s.ρ o).bind fun w=>if w then A7 P cf aS (ops.filterMap (·.dst)) s o else some (s.set o.dst (.tup []))
def wi (cf:CallF)(aS:List Nat)(ops:List Oper):RS→List Oper→Option RS
 | s,[]=>some s
 | s,o::os=>(pY P cf aS ops s o).bind fun s'=>wi cf aS ops s' os
end
structure nJ where
 rb:List Nat:=[]
 wb:Option Nat:=none
 rh:List Nat:=[]
 wh:Bool:=false
 al:Bool:=false
def bE (aS:List Nat)(e:Operand→AV)(o:Oper):nJ:=
 match o.op with
 | .alloc _ | .box _ _=>match o.dst with
  | some d=>if aS.contains d then {wb:=some d,al:=true} else {wh:=true}
  | none=>{}
 | .load _ a=>match e a with
  | .lp k _=>{rb:=[k]}
  | .ptr id _=>{rh:=[id]}
  | _=>{}
 | .store _ a _=>match e a with
  | .lp k _=>{rb:=[k],wb:=some k}
  | _=>{wh:=true}
 | .convert _ _ x=>match e x with
  | .rs id _ _ _=>{rh:=[id]}
  | _=>{}
 | .lookup _ m _ _=>match e m with
  | .mp id=>{rh:=[id]}
  | _=>{}
 | .buildSlice _ _ _=>match o.dst with
  | some d=>if aS.contains d then {wh:=true} else {}
  | none=>{}
 | .makeMap _ _ | .makeSlice _ _ _ | .mapUpdate _ _ _ _ | .insert _ _ _ _=>{wh:=true}
 | .call {callee:=.builtin b,args,..}=>match b,args.toList.map e with
  | .len,[.mp id]=>{rh:=[id]}
  | .len,_ | .min,_ | .max,_=>{}
  | _,_=>{wh:=true}
 | .call _=>{wh:=true}
 | _=>{}
structure pD where
 o:Oper
 f:nJ
 s:RS
 s':RS
def pD.out (e:pD):AV:=
 match e.o.dst with
 | some d=>e.s'.ρ d
 | none=>.any
def nJ.quiet (f:nJ):Bool:=f.rb.isEmpty&&f.wb.isNone&&f.rh.isEmpty && !f.wh
def Ql (k:Nat):AV→Bool
 | .lp j _=>j==k
 | _=>false
def pD.lQ (x y:pD):Bool:=
 (match x.f.wb with
  | some k=>!y.f.rb.contains k&&y.f.wb != some k
  | none=>true) &&
 (!x.f.wh||(!y.f.wh&&y.f.rh.all fun id=>afN (x.s.h.ver id) (x.s'.h.ver id)))
def lR:List Nat→List Oper→List Nat
 | acc,[]=>acc
 | acc,o::os=>lR (acc++[o.after.toList.foldl (fun m e=>bif Region.binds .any e then m ||| (2 ^ e.on ||| acc.getD e.on 0) else m) 0]) os
def A8 (ops:Array Oper)(x y:Oper):Bool:=
 (match x.dst with
  | some d=>!(y.looksAt ops).contains d&&y.dst != some d
  | none=>true)
def wZ:Nat→List Oper→Bool
 | _,[]=>true
 | k,o::os=>o.after.toList.all (fun e=>!Region.binds .any e||Nat.blt e.on k)&&wZ (k+1) os
def sS {α:Type}(p:Nat→α→Nat→α→Bool):Nat→List α→Bool
 | _,[]=>true
 | i,x::xs=>(xs.zipIdx (i+1)).all (fun (y,j)=>p i x j y)&&sS p (i+1) xs
def rf (ops:Array Oper)(ms:List Nat):Bool:=
 wZ 0 ops.toList &&
 sS (fun i x j y=>(ms.getD j 0).testBit i||(A8 ops x y&&A8 ops y x)) 0 ops.toList
def sU (P:Program)(cf:CallF)(aS:List Nat)(ops:List Oper):RS→List Oper→Option (List pD × RS)
 | s,[]=>some ([],s)
 | s,o::os=>
  (jN ops s.ρ o).bind fun w=>
   (if w then A7 P cf aS (ops.filterMap (·.dst)) s o else some (s.set o.dst (.tup []))).bind fun s1=>
    (sU P cf aS ops s1 os).map fun (l,r)=>({o,f:=if w then bE aS (ck s.ρ) o else {},s,s':=s1}::l,r)
def w5 (ms:List Nat)(ds:List Nat)(s0:RS)(es:List (pD × Nat))(x:pD)(i:Nat):Bool:=
 match x.f.al,x.o.dst with
 | true,some d=>xt d s0.ρ (ds.filter fun t=>!Nat.beq t d)&&es.all fun (y,j)=>afN i j||(ms.getD j 0).testBit i || !Ql d y.out
 | _,_=>true
def mu (P:Program)(cf:CallF)(aS:List Nat)(ops:Array Oper)(s:RS):Option RS:=
 let ms:=lR [] ops.toList
 if rf ops ms then
  (sU P cf aS ops.toList s ops.toList).bind fun (es,r)=>
   let is:=es.zipIdx
   let A9:=is.filter fun (x,_)=>!x.f.quiet
   if A9.all (fun (x,i)=>w5 ms (ops.toList.filterMap (·.dst)) s is x i&&A9.all fun (y,j)=>agB j i||(ms.getD j 0).testBit i||(x.lQ y&&y.lQ x)) then some r else none
 else none
structure St where
 vars:List AV
 SK:List (Option (List AV))
 h:AHeap
inductive Ex where
 | norm
 | exit (id:Nat)
 | ret
def look {α:Type}(d:α):List Nat→List α→Nat→α
 | k::ks,v::vs,t=>bif afN t k then v else look d ks vs t
 | _,_,_=>d
structure bX where
 keep:List Nat
 aS:List Nat
 dead:List (Nat × List Nat):=[]
 JP:List (Nat × List (Nat × Option Nat × Nat)):=[]
 Fa:List (Nat × List (Nat × Option Nat × Nat)):=[]
def iS {α:Type}(r:Nat):List (Nat × List α)→List α
 | []=>[]
 | (k,l)::ks=>bif afN k r then l else iS r ks
def St.open (A:bX)(s:St):RS:={ρ:=look AV.any A.keep s.vars,bx:=look (none:Option (List AV)) A.aS s.SK,h:=s.h}
def CU (aS:List Nat)(ρ:Nat→AV)(t:Nat):AV:=
 match ρ t with
 | .lp k off=>bif afN k t&&afN off 0&&aS.contains k then .lp k off else .any
 | v=>v
def RS.shut (A:bX)(s:RS):St:={vars:=A.keep.map (CU A.aS s.ρ),SK:=A.aS.map s.bx,h:=s.h}
def RS.pZ (A:bX)(r:Nat)(s:RS):St:=
 match iS r A.dead with
 | []=>s.shut A
 | ds=>{vars:=A.keep.map (fun t=>bif ds.contains t then .any else CU A.aS s.ρ t),SK:=A.aS.map (fun k=>bif ds.contains k then none else s.bx k),h:=s.h}
def Ba (s:RS)(p:Nat × Option Nat × Nat):Option RS:=
 match p.2.1 with
 | none=>(kP p.2.2 s.h (s.ρ p.1)).map fun (y,h)=>{s with h:=h,ρ:=fun t=>bif afN t p.1 then y else s.ρ t}
 | some i=>
  match s.bx p.1 with
  | some cs=>(cs[i]?).bind fun x=>(kP p.2.2 s.h x).map fun (y,h)=>{s with h:=h,bx:=fun k=>bif afN k p.1 then some (cs.set i y) else s.bx k}
  | none=>none
def nK (s:RS):List (Nat × Option Nat × Nat)→Option RS
 | []=>some s
 | p::ps=>(Ba s p).bind fun s=>nK s ps
def nL (f:St→Option (Ex × St)):Nat→St→Option (Ex × St)
 | 0,_=>none
 | n+1,s=>(f s).bind fun
  | (.norm,s')=>nL f n s'
  | r=>some r
def cb (P:Program)(cf:CallF)(A:bX)(n:Nat):Code→St→Option (Ex × St)
 | .skip,s=>some (.norm,s)
 | .label _,s=>some (.norm,s)
 | .ret,s=>some (.ret,s)
 | .exit id,s=>some (.exit id,s)
 | .seq a b,s=>(cb P cf A n a s).bind fun
  | (.norm,s')=>cb P cf A n b s'
  | r=>some r
 | .cond c x y,s=>(xu (ck (s.open A).ρ c)).bind fun t=>if t then cb P cf A n x s else cb P cf A n y s
 | .block id body,s=>(cb P cf A n body s).map fun
  | (.exit i,s')=>(if i=id then .norm else .exit i,s')
  | r=>r
 | .loop body,s=>nL (cb P cf A n body) n s
 | .region r ops draw,s=>(nK (s.open A) (iS r A.JP)).bind fun s=>((if draw then mu P cf A.aS ops s else wi P cf A.aS ops.toList s ops.toList)).bind fun s'=>(nK s' (iS r A.Fa)).map fun s'=>(.norm,s'.pZ A r)
 | _,_=>none
def Fb (P:Program)(s:RS):List ResultVar→Option (List AV)
 | []=>some []
 | .tmp t::rs=>(Fb P s rs).map fun l=>s.ρ t::l
 | .cell a t::rs=>(mr P s.bx s.h t (s.ρ a)).bind fun v=>(Fb P s rs).map fun l=>v::l
def aM (P:Program)(s:RS)(rs:List ResultVar):Option AV:=
 (Fb P s rs).bind fun l=>if l.all AV.nI then (match l with | [v]=>some v | l=>some (.tup l)) else none
def qa (keep:List Nat)(args:List AV):List AV:=keep.map fun t=>args.getD t AV.any
mutual
def cK (h:AHeap):Nat→AV→Option AV
 | 0,_=>none
 | n+1,x=>
  match x with
  | .ptr id off=>(h.get id).bind fun | .cells cs=>(bK h n cs).map fun gF=>.fp gF off | _=>none
  | .rs id off len kA=>if id=0 then (if len=0 then some (.fz [] 0 false) else none) else (h.get id).bind fun | .cells cs=>if off+len*kA≤cs.length then (bK h n ((cs.drop off).take (len*kA))).map fun gF=>.fz gF len false else none | _=>none
  | .agg cs=>(bK h n cs).map .agg
  | .tup cs=>(bK h n cs).map .tup
  | .fn f cs=>(bK h n cs).map (.fn f)
  | x=>if x.fK then some x.lH else none
def bK (h:AHeap):Nat→List AV→Option (List AV)
 | 0,_=>none
 | _+1,[]=>some []
 | n+1,x::xs=>(cK h n x).bind fun y=>(bK h n xs).map fun ys=>y::ys
end
mutual
def iT (h:AHeap):Nat→AV→Option AV
 | 0,_=>none
 | n+1,x=>
  match x with
  | .bool b=>some (.bool b)
  | .int k v=>some (.int k v)
  | .str s=>some (.str s)
  | .rF=>some .rF
  | .pC=>some .pC
  | .sQ=>some .sQ
  | .nils=>some (.fz [] 0 false)
  | .fz [] 0 _=>some (.fz [] 0 false)
  | .rs id off len kA=>if id=0 then (if len=0 then some (.fz [] 0 false) else none) else (h.get id).bind fun | .cells cs=>if off+len*kA≤cs.length then (eP h n ((cs.drop off).take (len*kA))).map fun gF=>.fz gF len false else none | _=>none
  | .agg cs=>(eP h n cs).map .agg
  | .tup cs=>(eP h n cs).map .tup
  | _=>none
def eP (h:AHeap):Nat→List AV→Option (List AV)
 | 0,_=>none
 | _+1,[]=>some []
 | n+1,x::xs=>(iT h n x).bind fun y=>(eP h n xs).map fun ys=>y::ys
end
def bC:AHeap:={get:=fun _=>none,ver:=fun _=>0,next:=1}
mutual
def eC (k:Nat):AV→Option AV
 | .bool b=>some (.bool b)
 | .int i n=>some (.int i n)
 | .str s=>some (.str s)
 | .rF=>some .rF
 | .pC=>some .pC
 | .sQ=>some .sQ
 | .nils=>some .nils
 | .ptr id off=>some (.ptr (id+k) off)
 | .rs id off len z=>if id=0 then some (.rs 0 off len z) else some (.rs (id+k) off len z)
 | .agg cs=>(dA k cs).map .agg
 | .tup cs=>(dA k cs).map .tup
 | _=>none
def dA (k:Nat):List AV→Option (List AV)
 | []=>some []
 | x::xs=>(eC k x).bind fun y=>(dA k xs).map fun ys=>y::ys
end
def iB (k:Nat):List AV→List AV
 | []=>[]
 | x::xs=>match eC k x with | some y=>y::iB k xs | none=>[]
def Fc (k:Nat):AObj→Option AObj
 | .cells cs=>some (.cells (iB k cs))
 | _=>none
def AHeap.gm (h h1:AHeap):AHeap:={get:=fun i=>bif Nat.blt i h.next then h.get i else (h1.get (i - h.next)).bind (Fc h.next),ver:=fun i=>bif Nat.blt i h.next then h.ver i else h.next+h1.ver (i - h.next),next:=h.next+h1.next}
def aP (x:AV):AV:=bif x.fK then x.lH else x
def ba (P:Program)(aX:FuncId→bX)(cf:CallF)(m:Nat)(f:FuncId)(args:List AV)(h:AHeap):Option (AV × AHeap):=
 (P.funcs[f]?).bind fun fn=>fn.body.bind fun c=>
  if args.length≤fn.ntmps then
   (cb P cf (aX f) m c {vars:=qa (aX f).keep args,SK:=(aX f).aS.map fun _=>none,h}).bind fun
    | (.norm,s) | (.ret,s)=>(aM P (s.open (aX f)) fn.results.toList).map fun r=>(r,s.h)
    | _=>none
  else none
structure rM where
 aX:FuncId→bX
 intr:FuncId→Option (List AV→AHeap→Option (AV × AHeap))
 pure:FuncId→Option Nat
 gm:FuncId→Bool:=fun _=>false
def gK (P:Program)(T:rM)(m:Nat):Nat→CallF
 | 0=>fun _ _ _=>none
 | n+1=>fun f args h=>
  match T.intr f with
  | some g=>g args h
  | none=>
   match T.pure f with
   | some deep=>if T.gm f then (bK h deep args).bind fun us=>(ba P T.aX (gK P T m n) m f us bC).bind fun x=>(eC h.next x.1).map fun r=>(r,h.gm x.2) else
     if dH args then (ba P T.aX (gK P T m n) m f (en args) bC).bind fun x=>(cK x.2 deep x.1).map fun r=>(r,h) else
     match bK h deep args with
     | some as=>(ba P T.aX (gK P T m n) m f as bC).bind fun x=>(iT x.2 deep x.1).map fun r=>(r,h)
     | none=>ba P T.aX (gK P T m n) m f (args.map aP) h
   | none=>ba P T.aX (gK P T m n) m f (args.map aP) h
end Go.R
namespace Go.R
open Go
structure Steady (h h':AHeap):Prop where
 next:h.next≤h'.next
 keep:∀id,(h'.ver id=h.ver id∧h'.get id=h.get id)∨h.next≤h'.ver id
 wf:(∀id,h.ver id<h.next)→∀id,h'.ver id<h'.next
theorem Steady.refl (h:AHeap):Steady h h:=⟨ae4 _,fun _=>.inl ⟨rfl,rfl⟩,fun h=>h⟩
theorem Steady.trans {h h' Z9:AHeap}(a:Steady h h')(b:Steady h' Z9):Steady h Z9:=
 ⟨afV a.next b.next,fun id=>by
  rcases b.keep id with⟨h1,h2⟩| h1
  ·rcases a.keep id with⟨h3,h4⟩| h3
   ·exact .inl ⟨h1.trans h3,h2.trans h4⟩
   ·exact .inr (by rw [h1]; exact h3)
  ·exact .inr (afV a.next h1),fun h=>b.wf (a.wf h)⟩
theorem beq_nat (a b:Nat):afN a b=decide (a=b):=by
 by_cases h:a=b
 ·subst h; simp
 ·cases hb:afN a b with
  | true=>exact absurd (agd hb) h
  | false=>simp [h]
theorem Steady.put (h:AHeap)(id:Nat)(o:AObj):Steady h (h.put id o):=by
 refine⟨agb _,fun i=>?_,fun hw i=>?_⟩
 ·by_cases hi:i=id
  ·right; simp [AHeap.put,beq_nat,hi]
  ·left; simp [AHeap.put,beq_nat,hi]
 ·have:=hw i
  by_cases hi:i=id
  ·simp [AHeap.put,beq_nat,hi]
  ·simp only [AHeap.put,beq_nat,hi,decide_false,cond_false]; omega
theorem Steady.kill (h:AHeap)(id:Nat):Steady h (h.kill id):=by
 refine⟨agb _,fun i=>?_,fun hw i=>?_⟩
 ·by_cases hi:i=id
  ·right; simp [AHeap.kill,beq_nat,hi]
  ·left; simp [AHeap.kill,beq_nat,hi]
 ·have:=hw i
  by_cases hi:i=id
  ·simp [AHeap.kill,beq_nat,hi]
  ·simp only [AHeap.kill,beq_nat,hi,decide_false,cond_false]; omega
structure Cx where
 β:Nat→Nat × Nat
 h:AHeap
 w:World
 base:Nat
def Live (h:AHeap)(id:Nat):Prop:=id<h.next∧(h.get id).isSome=true
def RO (c:Cx)(L:Nat→Prop)(b:Nat):Prop:=(∀id,Live c.h id→(c.β id).1≠b)∧¬L b
def Cx.len (c:Cx)(b:Nat):Nat:=((c.w.shape? b).map (·.2)).getD 0
mutual
def VR (c:Cx)(L:Nat→Prop):AV→Value→Prop
 | .any,_=>True
 | .bool b,v=>v = .bool b
 | .int k n,v=>v = .int k n
 | .str s,v=>v = .string s
 | .rF,v=>v = .pointer none
 | .ptr id off,v=>id<c.h.next∧∃a,v = .pointer (some a)∧(Live c.h id→a=⟨(c.β id).1,(c.β id).2+off,none⟩)
 | .lp _ _,_=>False
 | .fp cs off,v=>∃b o,v = .pointer (some ⟨b,o+off,none⟩)∧(cs=[]∨(RO c L b∧Cells c L cs b o))
 | .nils,v=>v = .slice none 0 0
 | .fz cs n ex,v=>∃a cap,v = .slice a n cap∧n≤cap∧(ex=true→cap=n)∧(a.isSome=true∨cs=[]∧cap=0)∧(cs=[]∨∃b o,a=some ⟨b,o,none⟩∧RO c L b∧(ex=true→c.base≤b)∧Cells c L cs b o)
 | .rs id off len kA,v=>(id=0∧off=0∧len=0∧∃a,v = .slice a 0 0)∨id≠0∧id<c.h.next∧∃a cap,v = .slice a len cap∧len≤cap∧a.isSome=true∧(Live c.h id→(a=some ⟨(c.β id).1,(c.β id).2+off,none⟩∧(c.β id).2+off+cap*kA=c.len (c.β id).1)∨cap=0)
 | .pC,v=>v = .map none
 | .mp id,v=>id<c.h.next∧∃r,v = .map (some r)∧(Live c.h id→r=(c.β id).1)
 | .fn f cap,v=>∃vs:Array Value,v = .func (.func f) #[] vs∧VRs c L cap vs.toList
 | .sQ,v=>v = .nilFunc
 | .agg cs,v=>∃vs:Array Value,v = .agg vs∧VRs c L cs vs.toList
 | .tup cs,v=>∃vs:Array Value,v = .tuple vs∧VRs c L cs vs.toList
def VRs (c:Cx)(L:Nat→Prop):List AV→List Value→Prop
 | [],[]=>True
 | x::xs,v::vs=>VR c L x v∧VRs c L xs vs
 | _,_=>False
def Cells (c:Cx)(L:Nat→Prop):List AV→Nat→Nat→Prop
 | [],_,_=>True
 | x::xs,b,o=>(∃v,c.w.cell? ⟨b,o,none⟩=some v∧v.oneCell'=true∧VR c L x v)∧Cells c L xs b (o+1)
end
def jY (w w':World)(b:Nat):Prop:=
 w'.heap[b]? = w.heap[b]?∨∃(C:Array Value) (e lo hi Ny mw:Nat),w.heap[b]? = some (.cells C e (lo,hi))∧w'.heap[b]? = some (.cells C e (Ny,mw))∧((lo=hi∨C.size≤lo)→(Ny=mw∨C.size≤Ny))
theorem jY.trans {w w' w'':World}{b:Nat}(h:jY w w' b)(k:jY w' w'' b):jY w w'' b:=by
 rcases h with h | ⟨C,e,lo,hi,Ny,mw,h1,h2,h3⟩<;>rcases k with k | ⟨C',e',l1,i1,l2,i2,k1,k2,k3⟩
 ·exact .inl (k.trans h)
 ·exact .inr ⟨C',e',l1,i1,l2,i2,h ▸ k1,k2,k3⟩
 ·exact .inr ⟨C,e,lo,hi,Ny,mw,h1,k.trans h2,h3⟩
 ·rw [h2] at k1
  simp only [ae2,Obj.cells.injEq,ae9] at k1
  obtain⟨rfl,rfl,rfl,rfl⟩:=k1
  exact .inr ⟨C,e,lo,hi,l2,i2,h1,k2,fun x=>k3 (h3 x)⟩
theorem jY.cell {w w':World}{b:Nat}(h:jY w w' b)(o:Nat):w'.cell? ⟨b,o,none⟩=w.cell? ⟨b,o,none⟩:=by
 rcases h with h | ⟨C,e,lo,hi,Ny,mw,h1,h2,_⟩
 ·simp only [World.cell?,h]
 ·simp only [World.cell?,h1,h2]
structure Ext (c:Cx)(Lo:Nat→Prop)(c':Cx)(ma:Nat→Prop):Prop where
 next:c.h.next≤c'.h.next
 live:∀id,id<c.h.next→Live c'.h id→Live c.h id∧c'.β id=c.β id∧c'.len (c.β id).1=c.len (c.β id).1
 size:c.w.heap.size≤c'.w.heap.size
 keep:∀b,b<c.w.heap.size→¬Lo b→(∀id,Live c.h id→(c.β id).1≠b)→jY c.w c'.w b
 exact:∀b,b<c.base→c'.w.heap[b]? = c.w.heap[b]?
 base:c'.base=c.base
 NP:∀id,Live c'.h id→c.w.heap.size≤(c'.β id).1∨∃ud,Live c.h ud∧(c.β ud).1=(c'.β id).1
 own:∀b,Lo b→ma b
 grow:∀b,ma b→Lo b∨c.w.heap.size≤b
 os:c'.w.os=c.w.os
 tape:c'.w.tape=c.w.tape
 output:c'.w.output=c.w.output
theorem Ext.refl (c:Cx)(Lo:Nat→Prop):Ext c Lo c Lo:=
 ⟨ae4 _,fun _ _ h=>⟨h,rfl,rfl⟩,ae4 _,fun _ _ _ _=>.inl rfl,fun _ _=>rfl,rfl,fun id h=>.inr ⟨id,h,rfl⟩,fun _ h=>h,fun _ h=>.inl h,rfl,rfl,rfl⟩
theorem Ext.trans {c c' c'':Cx}{L L' L'':Nat→Prop}(h:Ext c L c' L')(k:Ext c' L' c'' L''):Ext c L c'' L'' where
 next:=afV h.next k.next
 live:=fun id hi hl=>by
  obtain⟨l1,b1,s1⟩:=k.live id (afx hi h.next) hl
  obtain⟨l0,b0,s0⟩:=h.live id hi l1
  refine⟨l0,b1.trans b0,?_⟩
  rw [b0] at s1
  exact s1.trans s0
 size:=afV h.size k.size
 keep:=fun b hb hL hi=>by
  have e1:=h.keep b hb hL hi
  refine e1.trans (k.keep b (afx hb h.size) (fun hL'=>?_) (fun id hl he=>?_))
  ·rcases h.grow b hL' with h1 | h1
   ·exact hL h1
   ·omega
  ·rcases h.NP id hl with h1 | ⟨ud,h1,h2⟩
   ·omega
   ·exact hi ud h1 (h2.trans he)
 exact:=fun b hb=>(k.exact b (h.base ▸ hb)).trans (h.exact b hb)
 base:=k.base.trans h.base
 NP:=fun id hl=>by
  rcases k.NP id hl with h1 | ⟨id1,h1,h2⟩
  ·exact .inl (afV h.size h1)
  ·rcases h.NP id1 h1 with h3 | ⟨ud,h3,h4⟩
   ·exact .inl (h2 ▸ h3)
   ·exact .inr ⟨ud,h3,h4.trans h2⟩
 own:=fun b hb=>k.own b (h.own b hb)
 grow:=fun b hb=>by
  rcases k.grow b hb with h1 | h1
  ·exact h.grow b h1
  ·exact .inr (afV h.size h1)
 os:=k.os.trans h.os
 tape:=k.tape.trans h.tape
 output:=k.output.trans h.output
def un (L0 Lo:Nat→Prop):Nat→Prop:=fun b=>L0 b∨Lo b
theorem xy {w w':World}{b:Nat}(h:w'.heap[b]? = w.heap[b]?)(o:Nat):w'.cell? ⟨b,o,none⟩=w.cell? ⟨b,o,none⟩:=by
 simp only [World.cell?,h]
theorem RO.ext {c c':Cx}{L0 Lo ma:Nat→Prop}{b:Nat}(h:RO c (un L0 Lo) b)(e:Ext c Lo c' ma)(hb:b<c.w.heap.size):RO c' (un L0 ma) b:=by
 refine⟨fun id hl he=>?_,fun hL=>?_⟩
 ·rcases e.NP id hl with h1 | ⟨ud,h1,h2⟩
  ·omega
  ·exact h.1 ud h1 (h2.trans he)
 ·rcases hL with h1 | h1
  ·exact h.2 (.inl h1)
  ·rcases e.grow b h1 with h2 | h2
   ·exact h.2 (.inr h2)
   ·omega
theorem Ext.cell {c c':Cx}{L0 Lo ma:Nat→Prop}{b:Nat}(e:Ext c Lo c' ma)(h:RO c (un L0 Lo) b)(hb:b<c.w.heap.size)(o:Nat):c'.w.cell? ⟨b,o,none⟩=c.w.cell? ⟨b,o,none⟩:=
 (e.keep b hb (fun h1=>h.2 (.inr h1)) h.1).cell o
theorem xz {c c':Cx}{Lo ma:Nat→Prop}(e:Ext c Lo c' ma){id:Nat}(hi:id<c.h.next):id<c'.h.next:=afx hi e.next
theorem my {c:Cx}{L:Nat→Prop}{x:AV}{cs:List AV}{b o:Nat}(h:Cells c L (x::cs) b o):b<c.w.heap.size:=by
 obtain⟨⟨v,hv,_⟩,_⟩:=h
 exact World.block_lt_of_cell? c.w ⟨b,o,none⟩ hv
mutual
theorem VR.ext {c c':Cx}{L0 Lo ma:Nat→Prop}(e:Ext c Lo c' ma):∀(x:AV) (v:Value),VR c (un L0 Lo) x v→VR c' (un L0 ma) x v
 | .any,_,_=>trivial
 | .bool _,_,h=>h
 | .int _ _,_,h=>h
 | .str _,_,h=>h
 | .rF,_,h=>h
 | .ptr id off,v,h=>by
  simp only [VR] at h ⊢
  obtain⟨hi,a,rfl,ha⟩:=h
  refine⟨xz e hi,a,rfl,fun hl=>?_⟩
  obtain⟨l0,b0,_⟩:=e.live id hi hl
  rw [b0]
  exact ha l0
 | .lp _ _,_,h=>h
 | .fp cs off,v,h=>by
  simp only [VR] at h ⊢
  obtain⟨b,o,rfl,hc⟩:=h
  refine⟨b,o,rfl,?_⟩
  rcases hc with hc | ⟨hr,hc⟩
  ·exact .inl hc
  ·cases cs with
   | nil=>exact .inl rfl
   | cons x xs=>exact .inr ⟨hr.ext e (my hc),Cells.ext e (x::xs) b o hr (my hc) hc⟩
 | .nils,_,h=>h
 | .fz cs n ex,v,h=>by
  simp only [VR] at h ⊢
  obtain⟨a,cap,rfl,h1,h2,hs,hc⟩:=h
  refine⟨a,cap,rfl,h1,h2,hs,?_⟩
  rcases hc with hc | ⟨b,o,ha,hr,hex,hc⟩
  ·exact .inl hc
  ·cases cs with
   | nil=>exact .inl rfl
   | cons x xs=>exact .inr ⟨b,o,ha,hr.ext e (my hc),by rw [e.base]; exact hex,Cells.ext e (x::xs) b o hr (my hc) hc⟩
 | .rs id off len kA,v,h=>by
  simp only [VR] at h ⊢
  rcases h with h | h
  ·exact .inl h
  obtain⟨hz,hi,a,cap,rfl,h1,h3,h2⟩:=h
  refine .inr ⟨hz,xz e hi,a,cap,rfl,h1,h3,fun hl=>?_⟩
  obtain⟨l0,b0,s0⟩:=e.live id hi hl
  rw [b0,s0]
  exact h2 l0
 | .pC,_,h=>h
 | .mp id,v,h=>by
  simp only [VR] at h ⊢
  obtain⟨hi,r,rfl,h2⟩:=h
  refine⟨xz e hi,r,rfl,fun hl=>?_⟩
  obtain⟨l0,b0,_⟩:=e.live id hi hl
  rw [b0]
  exact h2 l0
 | .fn f cap,v,h=>by
  simp only [VR] at h ⊢
  obtain⟨vs,rfl,h1⟩:=h
  exact⟨vs,rfl,VRs.ext e cap vs.toList h1⟩
 | .sQ,_,h=>h
 | .agg cs,v,h=>by
  simp only [VR] at h ⊢
  obtain⟨vs,rfl,h1⟩:=h
  exact⟨vs,rfl,VRs.ext e cs vs.toList h1⟩
 | .tup cs,v,h=>by
  simp only [VR] at h ⊢
  obtain⟨vs,rfl,h1⟩:=h
  exact⟨vs,rfl,VRs.ext e cs vs.toList h1⟩
theorem VRs.ext {c c':Cx}{L0 Lo ma:Nat→Prop}(e:Ext c Lo c' ma):∀(xs:List AV) (vs:List Value),VRs c (un L0 Lo) xs vs→VRs c' (un L0 ma) xs vs
 | [],[],_=>trivial
 | x::xs,v::vs,h=>⟨VR.ext e x v h.1,VRs.ext e xs vs h.2⟩
 | [],_::_,h=>h
 | _::_,[],h=>h
theorem Cells.ext {c c':Cx}{L0 Lo ma:Nat→Prop}(e:Ext c Lo c' ma):∀(xs:List AV) (b o:Nat),RO c (un L0 Lo) b→b<c.w.heap.size→Cells c (un L0 Lo) xs b o→Cells c' (un L0 ma) xs b o
 | [],_,_,_,_,_=>trivial
 | x::xs,b,o,hr,hb,h=>by
  obtain⟨⟨v,hv,h1,hx⟩,hs⟩:=h
  exact⟨⟨v,(e.cell hr hb o).trans hv,h1,VR.ext e x v hx⟩,Cells.ext e xs b (o+1) hr hb hs⟩
end
theorem RO.nt {c:Cx}{L L':Nat→Prop}(hL:∀b,L' b→L b){b:Nat}(h:RO c L b):RO c L' b:=⟨h.1,fun h1=>h.2 (hL b h1)⟩
mutual
theorem VR.nt {c:Cx}{L L':Nat→Prop}(hL:∀b,L' b→L b):∀(x:AV) (v:Value),VR c L x v→VR c L' x v
 | .any,_,_=>trivial
 | .bool _,_,h=>h
 | .int _ _,_,h=>h
 | .str _,_,h=>h
 | .rF,_,h=>h
 | .ptr id off,v,h=>h
 | .lp _ _,_,h=>h
 | .fp cs off,v,h=>by
  simp only [VR] at h ⊢
  obtain⟨b,o,rfl,hc⟩:=h
  exact⟨b,o,rfl,hc.imp id fun ⟨hr,hc⟩=>⟨hr.nt hL,Cells.nt hL cs b o hc⟩⟩
 | .nils,_,h=>h
 | .fz cs n ex,v,h=>by
  simp only [VR] at h ⊢
  obtain⟨a,cap,rfl,h1,h2,hs,hc⟩:=h
  exact⟨a,cap,rfl,h1,h2,hs,hc.imp id fun ⟨b,o,ha,hr,hex,hc⟩=>⟨b,o,ha,hr.nt hL,hex,Cells.nt hL cs b o hc⟩⟩
 | .rs id off len kA,v,h=>h
 | .pC,_,h=>h
 | .mp id,v,h=>h
 | .fn f cap,v,h=>by
  simp only [VR] at h ⊢
  obtain⟨vs,rfl,h1⟩:=h
  exact⟨vs,rfl,VRs.nt hL cap vs.toList h1⟩
 | .sQ,_,h=>h
 | .agg cs,v,h=>by
  simp only [VR] at h ⊢
  obtain⟨vs,rfl,h1⟩:=h
  exact⟨vs,rfl,VRs.nt hL cs vs.toList h1⟩
 | .tup cs,v,h=>by
  simp only [VR] at h ⊢
  obtain⟨vs,rfl,h1⟩:=h
  exact⟨vs,rfl,VRs.nt hL cs vs.toList h1⟩
theorem VRs.nt {c:Cx}{L L':Nat→Prop}(hL:∀b,L' b→L b):∀(xs:List AV) (vs:List Value),VRs c L xs vs→VRs c L' xs vs
 | [],[],_=>trivial
 | x::xs,v::vs,h=>⟨VR.nt hL x v h.1,VRs.nt hL xs vs h.2⟩
 | [],_::_,h=>h
 | _::_,[],h=>h
theorem Cells.nt {c:Cx}{L L':Nat→Prop}(hL:∀b,L' b→L b):∀(xs:List AV) (b o:Nat),Cells c L xs b o→Cells c L' xs b o
 | [],_,_,_=>trivial
 | x::xs,b,o,h=>by
  obtain⟨⟨v,hv,h1,hx⟩,hs⟩:=h
  exact⟨⟨v,hv,h1,VR.nt hL x v hx⟩,Cells.nt hL xs b (o+1) hs⟩
end
theorem ID {c:Cx}{L:Nat→Prop}{x:AV}{v:Value}(h:VR c L x v):VR c L (mo x) v:=by
 cases x<;>try exact h
 simp only [VR] at h
 simp only [mo,VR]
 exact⟨none,0,h,ae4 _,fun _=>rfl,.inr ⟨trivial,rfl⟩,.inl trivial⟩
theorem xA {c:Cx}{L:Nat→Prop}:∀{xs:List AV} {vs:List Value},VRs c L xs vs→VRs c L (xs.map mo) vs
 | [],[],_=>trivial
 | _::_,_::_,h=>⟨ID h.1,xA h.2⟩
 | [],_::_,h=>h.elim
 | _::_,[],h=>h.elim
theorem Cells.move {c c':Cx}{L0 Lo ma:Nat→Prop}(e:Ext c Lo c' ma):∀(xs:List AV) (b o b' o':Nat),(∀i,i<xs.length→c'.w.cell? ⟨b',o'+i,none⟩=c.w.cell? ⟨b,o+i,none⟩)→Cells c (un L0 Lo) xs b o→Cells c' (un L0 ma) xs b' o'
 | [],_,_,_,_,_,_=>trivial
 | x::xs,b,o,b',o',hm,h=>by
  obtain⟨⟨v,hv,h1,hx⟩,hs⟩:=h
  refine⟨⟨v,(hm 0 (by simp)).trans hv,h1,VR.ext e x v hx⟩,Cells.move e xs b (o+1) b' (o'+1) (fun i hi=>?_) hs⟩
  have:=hm (i+1) (by simpa using hi)
  rwa [agy o' 1 i,agy o 1 i,af8,af8]
theorem VRs.length {c:Cx}{L:Nat→Prop}:∀{xs:List AV} {vs:List Value},VRs c L xs vs→xs.length=vs.length
 | [],[],_=>rfl
 | _::_,_::_,h=>by simp [VRs.length h.2]
 | [],_::_,h=>h.elim
 | _::_,[],h=>h.elim
theorem VRs.get {c:Cx}{L:Nat→Prop}:∀{xs:List AV} {vs:List Value},VRs c L xs vs→∀(i:Nat) (x:AV),xs[i]? = some x→∃v,vs[i]? = some v∧VR c L x v
 | [],[],_,i,x,hx=>by simp at hx
 | y::ys,u::us,h,i,x,hx=>by
  cases i with
  | zero=>simp at hx; subst hx; exact⟨u,rfl,h.1⟩
  | succ i=>simpa using VRs.get h.2 i x (by simpa using hx)
 | [],_::_,h,_,_,_=>h.elim
 | _::_,[],h,_,_,_=>h.elim
theorem VRs.append {c:Cx}{L:Nat→Prop}:∀{xs ys:List AV} {vs us:List Value},VRs c L xs vs→VRs c L ys us→VRs c L (xs++ys) (vs++us)
 | [],_,[],_,_,h=>h
 | _::_,_,_::_,_,h,k=>⟨h.1,VRs.append h.2 k⟩
 | [],_,_::_,_,h,_=>h.elim
 | _::_,_,[],_,h,_=>h.elim
theorem VRs.drop {c:Cx}{L:Nat→Prop}:∀(n:Nat) {xs:List AV} {vs:List Value},VRs c L xs vs→VRs c L (xs.drop n) (vs.drop n)
 | 0,_,_,h=>h
 | _+1,[],[],h=>h
 | n+1,_::_,_::_,h=>VRs.drop n h.2
 | _+1,[],_::_,h=>h.elim
 | _+1,_::_,[],h=>h.elim
theorem VRs.take {c:Cx}{L:Nat→Prop}:∀(n:Nat) {xs:List AV} {vs:List Value},VRs c L xs vs→VRs c L (xs.take n) (vs.take n)
 | 0,_,_,_=>by simp [VRs]
 | _+1,[],[],h=>h
 | n+1,_::_,_::_,h=>⟨h.1,VRs.take n h.2⟩
 | _+1,[],_::_,h=>h.elim
 | _+1,_::_,[],h=>h.elim
theorem VRs.set {c:Cx}{L:Nat→Prop}{x:AV}{v:Value}(hx:VR c L x v):∀(n:Nat) {xs:List AV} {vs:List Value},VRs c L xs vs→VRs c L (xs.set n x) (vs.set n v)
 | _,[],[],h=>h
 | 0,_::_,_::_,h=>⟨hx,h.2⟩
 | n+1,_::_,_::_,h=>⟨h.1,VRs.set hx n h.2⟩
 | _,[],_::_,h=>h.elim
 | _,_::_,[],h=>h.elim
theorem Cells.vals {c:Cx}{L:Nat→Prop}:∀{xs:List AV} {b o:Nat},Cells c L xs b o→∃vs:List Value,VRs c L xs vs∧(∀i,i<xs.length→c.w.cell? ⟨b,o+i,none⟩=vs[i]?)∧∀v∈vs,v.oneCell'=true
 | [],_,_,_=>⟨[],trivial,fun i hi=>by simp at hi,fun _ h=>by cases h⟩
 | x::xs,b,o,h=>by
  obtain⟨⟨v,hv,h0,hx⟩,hs⟩:=h
  obtain⟨vs,h1,h2,h3⟩:=Cells.vals hs
  refine⟨v::vs,⟨hx,h1⟩,fun i hi=>?_,fun u hu=>?_⟩
  ·cases i with
   | zero=>exact hv
   | succ i=>
    have:=h2 i (by simpa using hi)
    rw [agy,af8] at this
    simpa using this
  ·rcases afq.1 hu with rfl | hu
   ·exact h0
   ·exact h3 u hu
theorem Cells.of_vals {c:Cx}{L:Nat→Prop}:∀{xs:List AV} {vs:List Value} {b o:Nat},VRs c L xs vs→(∀i,i<vs.length→c.w.cell? ⟨b,o+i,none⟩=vs[i]?)→(∀v∈vs,v.oneCell'=true)→Cells c L xs b o
 | [],[],_,_,_,_,_=>trivial
 | x::xs,v::vs,b,o,h,hc,h1=>by
  refine⟨⟨v,hc 0 (by simp),h1 v (by simp),h.1⟩,Cells.of_vals h.2 (fun i hi=>?_) (fun u hu=>h1 u (by simp [hu]))⟩
  have:=hc (i+1) (by simpa using hi)
  rw [agy,af8]
  simpa using this
 | [],_::_,_,_,h,_,_=>h.elim
 | _::_,[],_,_,h,_,_=>h.elim
theorem Cells.get' {c:Cx}{L:Nat→Prop}{xs:List AV}{b o:Nat}(h:Cells c L xs b o)(i:Nat)(x:AV)(hx:xs[i]? = some x):∃v,c.w.cell? ⟨b,o+i,none⟩=some v∧v.oneCell'=true∧VR c L x v:=by
 obtain⟨vs,h1,h2,h3⟩:=h.vals
 obtain⟨v,hv,hr⟩:=VRs.get h1 i x hx
 exact⟨v,(h2 i (ae5.1 hx).1).trans hv,h3 v (afj hv),hr⟩
theorem Cells.get {c:Cx}{L:Nat→Prop}{xs:List AV}{b o:Nat}(h:Cells c L xs b o)(i:Nat)(x:AV)(hx:xs[i]? = some x):∃v,c.w.cell? ⟨b,o+i,none⟩=some v∧VR c L x v:=by
 obtain⟨v,h1,_,h2⟩:=h.get' i x hx
 exact⟨v,h1,h2⟩
end Go.R
namespace Go.R
open Go
def nM (c:Cx)(L:Nat→Prop):List (AV × AV)→List MapEntry→Prop
 | [],[]=>True
 | (k,v)::es,m::ms=>(VR c L k m.key∧k.E1.isSome=true)∧VR c L v m.val∧nM c L es ms
 | _,_=>False
def Plain (c:Cx)(b:Nat)(n:Nat):Prop:=∃(C:Array Value) (e lo hi:Nat),c.w.heap[b]? = some (.cells C e (lo,hi))∧(lo=hi∨C.size≤lo)∧C.size=n
def kq (c:Cx)(b:Nat)(n:Nat):Prop:=∃(C:Array Value) (e:TypeId),c.w.heap[b]? = some (.cells C e (0,0))∧C.size=n
theorem kq.nb {c:Cx}{b n:Nat}(h:kq c b n):Plain c b n:=by
 obtain⟨C,e,h1,h2⟩:=h
 exact⟨C,e,0,0,h1,.inl rfl,h2⟩
theorem kq.of_heap {c c':Cx}{b n:Nat}(h:kq c b n)(he:c'.w.heap[b]? = c.w.heap[b]?):kq c' b n:=by
 obtain⟨C,e,h1,h2⟩:=h
 exact⟨C,e,he.trans h1,h2⟩
theorem kq.lt {c:Cx}{b n:Nat}(h:kq c b n):b<c.w.heap.size:=by
 obtain⟨C,e,h1,_⟩:=h
 exact (afH.1 h1).1
def sV (c:Cx)(L:Nat→Prop)(b base:Nat):AObj→Prop
 | .cells cs=>∃n,kq c b n∧base+cs.length≤n∧Cells c L cs b base
 | .row e cs=>base=0∧∃C:Array Value,c.w.heap[b]? = some (.cells C e (0,0))∧cs.length≤C.size∧C.size≤maxLen∧Cells c L cs b 0
 | .map es=>∃nN clock,c.w.heap[b]? = some (.map nN clock)∧nM c L es nN.toList
structure HRel (c:Cx)(L:Nat→Prop):Prop where
 lt:∀id o,c.h.get id=some o→id<c.h.next
 obj:∀id o,c.h.get id=some o→sV c L (c.β id).1 (c.β id).2 o
 inj:∀id nu,Live c.h id→Live c.h nu→(c.β id).1=(c.β nu).1→id=nu
 out:∀id,Live c.h id→¬L (c.β id).1
 bd:∀b,L b→b<c.w.heap.size
 low:∀id,Live c.h id→c.base≤(c.β id).1
 ver:∀id,c.h.ver id<c.h.next
structure V7 (c:Cx)(L0 Lo:Nat→Prop)(lam:Nat→Nat)(k:Nat)(cs:List AV):Prop where
 own:Lo (lam k)
 plain:Plain c (lam k) cs.length
 cells:Cells c (un L0 Lo) cs (lam k) 0
def SR (c:Cx)(L0 Lo:Nat→Prop)(lam:Nat→Nat)(bx:Nat→Option (List AV))(x:AV)(v:Value):Prop:=
 match x with
 | .lp k off=>v = .pointer (some ⟨lam k,off,none⟩)∧(bx k).isSome=true
 | x=>VR c (un L0 Lo) x v
structure Fr (L0:Nat→Prop)(c:Cx)(Lo:Nat→Prop)(lam:Nat→Nat)(ds:List Nat)(s:RS)(a:Act):Prop where
 h:c.h=s.h
 rel:HRel c (un L0 Lo)
 slot:∀t,SR c L0 Lo lam s.bx (s.ρ t) (a.tmps.getD t undef)
 box:∀k cs,s.bx k=some cs→V7 c L0 Lo lam k cs
 inj:∀k k',(s.bx k).isSome=true→(s.bx k').isSome=true→lam k=lam k'→k=k'
 tidy:∀t k off,t∉ds→s.ρ t = .lp k off→k=t
 defers:a.defers=[]
 J6:∀b,Lo b→c.base≤b
def none0:Nat→Prop:=fun _=>False
def Inv (L0:Nat→Prop)(c0:Cx)(n:Nat)(ds:List Nat)(s:RS)(a:Act)(w:World):Prop:=
 a.tmps.size=n∧∃c Lo lam,c.w=w∧Fr L0 c Lo lam ds s a∧Ext c0 none0 c Lo
theorem SR.vr {c:Cx}{L0 Lo:Nat→Prop}{lam:Nat→Nat}{bx:Nat→Option (List AV)}{x:AV}{v:Value}(h:SR c L0 Lo lam bx x v)(hx:∀k off,x≠.lp k off):VR c (un L0 Lo) x v:=by
 unfold SR at h
 split at h
 ·exact absurd rfl (hx _ _)
 ·exact h
theorem SR.of {c:Cx}{L0 Lo:Nat→Prop}{lam:Nat→Nat}{bx:Nat→Option (List AV)}{x:AV}{v:Value}(h:VR c (un L0 Lo) x v):SR c L0 Lo lam bx x v:=by
 unfold SR
 split
 ·exact h.elim
 ·exact h
theorem ri {c:Cx}{L:Nat→Prop}{v:Value}{x:AV}(h:sR v=some x):VR c L x v:=by
 unfold sR at h
 split at h<;>first | (cases h; done) | (cases h; simp [VR])
theorem CV {c:Cx}{L:Nat→Prop}:∀{vs:List Value} {xs:List AV},vq vs=some xs→VRs c L xs vs
 | [],xs,h=>by simp [vq] at h; subst h; trivial
 | v::vs,xs,h=>by
  simp only [vq,ae0] at h
  obtain⟨x,hx,ys,hy,he⟩:=h
  cases he
  exact⟨ri hx,CV hy⟩
theorem oD {c:Cx}{L:Nat→Prop}{v:Value}{x:AV}(h:J3 v=some x):VR c L x v:=by
 unfold J3 at h
 split at h
 ·rename_i cs
  rw [ae1] at h
  obtain⟨xs,hx,rfl⟩:=h
  simp only [VR]
  exact⟨cs,rfl,CV hx⟩
 ·exact ri h
theorem nO {c:Cx}{L:Nat→Prop}{x:AV}{u v:Value}(h:x.jh=some u)(hx:VR c L x v):v=u:=by
 unfold AV.jh at h
 split at h<;>first | (cases h; done) | (cases h; simpa [VR] using hx)
theorem nP {x:AV}{u:Value}(h:x.jh=some u):∀k off,x≠.lp k off:=by
 rintro k off rfl
 simp [AV.jh] at h
theorem um {c:Cx}{L:Nat→Prop}:∀{xs:List AV} {us vs:List Value},lq xs=some us→VRs c L xs vs→vs=us
 | [],us,[],h,_=>by simp [lq] at h; exact h.symm
 | x::xs,us,v::vs,h,hx=>by
  simp only [lq,ae0] at h
  obtain⟨u,h1,ws,h2,he⟩:=h
  cases he
  rw [nO h1 hx.1,um h2 hx.2]
 | [],_,_::_,_,h=>h.elim
 | _::_,_,[],_,h=>h.elim
theorem Bb {c:Cx}{L:Nat→Prop}{x:AV}{u v:Value}(h:x.E1=some u)(hx:VR c L x v):v=u:=by
 unfold AV.E1 at h
 split at h
 ·rw [ae1] at h
  obtain⟨vs,h1,rfl⟩:=h
  simp only [VR] at hx
  obtain⟨ws,rfl,h2⟩:=hx
  rw [←um h1 h2]
 ·exact nO h hx
theorem nc {α:Type}{P:Program}{e:Sem α}{r:α}(w:World):kM P e=some r→e.run P w = .ok r w:=by
 induction e with
 | pure a=>intro h; simp [kM] at h; subst h; rfl
 | program k ih=>intro h; exact ih P (by simpa [kM] using h)
 | _=>intro h; simp [kM] at h
theorem b6 {L0:Nat→Prop}{c:Cx}{Lo:Nat→Prop}{lam:Nat→Nat}{ds:List Nat}{s:RS}{a:Act}(f:Fr L0 c Lo lam ds s a)(x:Operand):SR c L0 Lo lam s.bx (ck s.ρ x) (a.eval x):=by
 cases x with
 | tmp t=>exact f.slot t
 | const v=>
  refine SR.of ?_
  simp only [ck,Act.eval]
  cases h:J3 v with
  | none=>simp [VR]
  | some x=>simpa using oD h
 | global g=>exact SR.of (by simp [ck,VR])
 | func f=>exact SR.of (by simp only [ck,VR,Act.eval]; exact⟨#[],rfl,by simp [VRs]⟩)
def lI (P:Program)(L0:Nat→Prop)(c0:Cx)(n:Nat)(ds:List Nat)(o:Oper)(s s':RS):Prop:=
 ∀a w (K:Act→World→Prop) (Q:Exit→Act→World→Prop),Inv L0 c0 n ds s a w→(∀a' w',Inv L0 c0 n ds s' a' w'→K a' w')→o.wp P a w K Q
theorem jj (a:Act)(d:Option Nat)(v:Value):(a.put d v).tmps.size=a.tmps.size:=by cases d<;>simp [Act.put]
theorem J7 (a:Act)(d t:Nat)(v:Value)(hd:d<a.tmps.size):(a.put (some d) v).tmps.getD t undef=if t=d then v else a.tmps.getD t undef:=by
 simp only [Act.put,Array.getD_eq_getD_getElem?,af9]
 by_cases h:d=t
 ·subst h; simp [hd]
 ·simp [h,Ne.symm h]
theorem zT (s:RS)(d t:Nat)(x:AV):(s.set (some d) x).ρ t=if t=d then x else s.ρ t:=by
 simp only [RS.set,beq_nat]
 by_cases h:t=d<;>simp [h]
theorem Fr.set {L0:Nat→Prop}{c:Cx}{Lo:Nat→Prop}{lam:Nat→Nat}{ds:List Nat}{s:RS}{a:Act}(f:Fr L0 c Lo lam ds s a){d:Option Nat}{x:AV}{v:Value}(hx:SR c L0 Lo lam s.bx x v)
  (hd:∀t,d=some t→t<a.tmps.size∧t∈ds):Fr L0 c Lo lam ds (s.set d x) (a.put d v):=by
 cases d with
 | none=>exact f
 | some d=>
  obtain⟨h1,h2⟩:=hd d rfl
  refine⟨f.h,f.rel,fun t=>?_,f.box,f.inj,fun t k off ht he=>?_,f.defers,f.J6⟩
  ·rw [J7 _ _ _ _ h1,zT]
   by_cases h:t=d
   ·simp only [h,if_true]; exact hx
   ·simp only [h,if_false]; exact f.slot t
  ·rw [zT] at he
   by_cases h:t=d
   ·subst h; exact absurd h2 ht
   ·rw [if_neg h] at he; exact f.tidy t k off ht he
section
variable {P:Program}{L0:Nat→Prop}{c0:Cx}{n:Nat}{ds:List Nat}{o:Oper}{s:RS}
def jk (n:Nat)(ds:List Nat)(o:Oper):Prop:=∀t,o.dst=some t→t<n∧t∈ds
theorem iC (hd:jk n ds o){x:AV}
  (h:∀a c Lo lam,Fr L0 c Lo lam ds s a→a.tmps.size=n→∃v,(execOp a.eval o).run P c.w = .ok (.value v) c.w∧SR c L0 Lo lam s.bx x v):lI P L0 c0 n ds o s (s.set o.dst x):=by
 rintro a w K Q ⟨hn,c,Lo,lam,rfl,f,e⟩ hK
 obtain⟨v,hr,hv⟩:=h a c Lo lam f hn
 unfold Oper.wp
 rw [hr,Oper.upon_value]
 exact hK _ _ ⟨(jj _ _ _).trans hn,c,Lo,lam,rfl,f.set hv (fun t ht=>hn ▸ hd t ht),e⟩
end
theorem SR.ext {c c':Cx}{L0 Lo ma:Nat→Prop}{lam wj:Nat→Nat}{bx bx':Nat→Option (List AV)}{x:AV}{v:Value}(h:SR c L0 Lo lam bx x v)(e:Ext c Lo c' ma)
  (hl:∀k off,x = .lp k off→wj k=lam k∧((bx k).isSome=true→(bx' k).isSome=true)):SR c' L0 ma wj bx' x v:=by
 unfold SR at h ⊢
 split
 ·rename_i k off
  obtain⟨h1,h2⟩:=h
  obtain⟨h3,h4⟩:=hl k off rfl
  rw [h3]
  exact⟨h1,h4 h2⟩
 ·rename_i hne
  split at h
  ·exact absurd rfl (hne _ _)
  ·exact VR.ext e _ _ h
theorem Plain.of_heap {c c':Cx}{b n:Nat}(h:Plain c b n)(he:jY c.w c'.w b):Plain c' b n:=by
 obtain⟨C,e,lo,hi,h1,h2,h3⟩:=h
 rcases he with he | ⟨C',e',l1,i1,l2,i2,k1,k2,k3⟩
 ·exact⟨C,e,lo,hi,he.trans h1,h2,h3⟩
 ·rw [h1] at k1
  simp only [ae2,Obj.cells.injEq,ae9] at k1
  obtain⟨rfl,rfl,rfl,rfl⟩:=k1
  exact⟨C,e,l2,i2,k2,k3 h2,h3⟩
theorem Plain.lt {c:Cx}{b n:Nat}(h:Plain c b n):b<c.w.heap.size:=by
 obtain⟨C,e,lo,hi,h1,_⟩:=h
 exact (afH.1 h1).1
theorem nM.ext {c c':Cx}{L0 Lo ma:Nat→Prop}(e:Ext c Lo c' ma):∀{es:List (AV × AV)} {ms:List MapEntry},nM c (un L0 Lo) es ms→nM c' (un L0 ma) es ms
 | [],[],_=>trivial
 | (k,v)::es,m::ms,h=>⟨⟨VR.ext e _ _ h.1.1,h.1.2⟩,VR.ext e _ _ h.2.1,nM.ext e h.2.2⟩
 | [],_::_,h=>h.elim
 | _::_,[],h=>h.elim
theorem sV.ext {c c':Cx}{L0 Lo ma:Nat→Prop}(e:Ext c Lo c' ma){b base:Nat}{o:AObj}(h:sV c (un L0 Lo) b base o)(he:c'.w.heap[b]? = c.w.heap[b]?):sV c' (un L0 ma) b base o:=by
 cases o with
 | cells cs=>
  obtain⟨n,h1,h2,h3⟩:=h
  exact⟨n,h1.of_heap he,h2,Cells.move e cs b base b base (fun i _=>xy he _) h3⟩
 | row t cs=>
  obtain⟨h0,C,h1,h2,h4,h3⟩:=h
  exact⟨h0,C,he.trans h1,h2,h4,Cells.move e cs b 0 b 0 (fun i _=>xy he _) h3⟩
 | map es=>
  obtain⟨nN,clock,h1,h2⟩:=h
  exact⟨nN,clock,he.trans h1,h2.ext e⟩
theorem V7.ext {c c':Cx}{L0 Lo ma:Nat→Prop}{lam:Nat→Nat}(e:Ext c Lo c' ma){k:Nat}{cs:List AV}(h:V7 c L0 Lo lam k cs)(he:jY c.w c'.w (lam k)):V7 c' L0 ma lam k cs:=
 ⟨e.own _ h.own,h.plain.of_heap he,Cells.move e cs (lam k) 0 (lam k) 0 (fun i _=>he.cell _) h.cells⟩
end Go.R
namespace Go.R
open Go
theorem addr_add (b o i:Nat):(⟨b,o,none⟩:Addr).add i=⟨b,o+i,none⟩:=by
 unfold Addr.add
 split<;>simp_all
section
variable {P:Program}{L0:Nat→Prop}{c0:Cx}{n:Nat}{ds:List Nat}{o:Oper}{s:RS}
theorem bS {t:TypeId}{d:TypeDesc}(h:P.underlying t=some d)(w:World):(underlying t).run P w = .ok d w:=run_underlying h w
theorem fj {t:TypeId}{m:Nat}(h:hH P t=some m)(w:World):(sizeOf t).run P w = .ok m w:=by
 unfold hH at h
 rw [ae1] at h
 obtain⟨i,hi,rfl⟩:=h
 simp [sizeOf,typeInfo,hi]
theorem Gx {t:TypeId}{b:Bool}(h:iQ P t=some b)(w:World):(isAgg t).run P w = .ok b w:=by
 unfold iQ at h
 rw [ae1] at h
 obtain⟨d,hd,rfl⟩:=h
 simp only [isAgg,Sem.run_bind,bS hd,Result.andThen_ok]
 cases d<;>rfl
theorem Fe {c:Cx}{L:Nat→Prop}{xs:List AV}{b off:Nat}(h:Cells c L xs b off):∃vs:List Value,(loadCells ⟨b,off,none⟩ xs.length).run P c.w = .ok vs.toArray c.w∧VRs c L xs vs:=by
 obtain⟨vs,h1,h2,_⟩:=h.vals
 refine⟨vs,?_,h1⟩
 have:=run_loadCells_list (P:=P) (w:=c.w) ⟨b,off,none⟩ vs (fun j v hj=>by
  rw [addr_add,h2 j (by rw [h1.length]; exact (ae5.1 hj).1)]; exact hj)
 rwa [←h1.length] at this
theorem Cells.drop {c:Cx}{L:Nat→Prop}:∀(m:Nat) {xs:List AV} {b off:Nat},Cells c L xs b off→Cells c L (xs.drop m) b (off+m)
 | 0,_,_,_,h=>h
 | m+1,[],_,_,_=>by simp [Cells]
 | m+1,x::xs,b,off,h=>by
  have:=Cells.drop m h.2
  rw [agy,af8] at this
  simpa using this
theorem Cells.take {c:Cx}{L:Nat→Prop}:∀(m:Nat) {xs:List AV} {b off:Nat},Cells c L xs b off→Cells c L (xs.take m) b off
 | 0,_,_,_,_=>by simp [Cells]
 | m+1,[],_,_,h=>by simpa using h
 | m+1,x::xs,b,off,h=>⟨h.1,Cells.take m h.2⟩
theorem se {c:Cx}{L:Nat→Prop}{t:TypeId}{cs:List AV}{b base off:Nat}{x:AV}(h:ls P t cs off=some x)(hc:Cells c L cs b base) :
  ∃v,(loadVar t ⟨b,base+off,none⟩).run P c.w = .ok v c.w∧VR c L x v:=by
 unfold ls at h
 rw [ae0] at h
 obtain⟨ag,Wy,h⟩:=h
 simp only [loadVar,Sem.run_bind,Gx Wy,Result.andThen_ok]
 cases ag with
 | true=>
  simp only [if_true,ae0] at h
  obtain⟨m,hm,h⟩:=h
  split at h
  ·rename_i hle
   cases h
   have hc2:=(hc.drop off).take m
   obtain⟨vs,hr,hv⟩:=Fe (P:=P) hc2
   rw [show ((cs.drop off).take m).length=m by simp; omega] at hr
   refine⟨.agg vs.toArray,by simp [fj hm,hr],?_⟩
   simp only [VR]
   exact⟨vs.toArray,rfl,by simpa using hv⟩
  ·cases h
 | false=>
  simp only [afa,if_false] at h
  obtain⟨v,hv,hx⟩:=hc.get off x h
  exact⟨v,by simp [hv],hx⟩
theorem CW {c:Cx}{Lo:Nat→Prop}{lam:Nat→Nat}{bx:Nat→Option (List AV)}{x y:AV}{m:Nat}{v:Value}(h:x.shift m=some y)(hx:SR c L0 Lo lam bx x v) :
  ∃ad,v = .pointer (some ad)∧SR c L0 Lo lam bx y (.pointer (some (ad.add m))):=by
 cases x<;>simp only [AV.shift] at h<;>cases h
 ·rename_i id off
  simp only [SR,VR] at hx ⊢
  obtain⟨hi,ad,rfl,ha⟩:=hx
  exact⟨ad,rfl,hi,_,rfl,fun hl=>by rw [ha hl,addr_add,af8]⟩
 ·rename_i k off
  simp only [SR] at hx ⊢
  obtain⟨rfl,hb⟩:=hx
  exact⟨_,rfl,by rw [addr_add],hb⟩
 ·rename_i cs off
  simp only [SR,VR] at hx ⊢
  obtain⟨b,o',rfl,hc⟩:=hx
  exact⟨_,rfl,b,o',by rw [addr_add,af8],hc⟩
theorem xB {c:Cx}{Lo:Nat→Prop}{lam:Nat→Nat}{a:Act}(f:Fr L0 c Lo lam ds s a){t:TypeId}{x y:AV}{v:Value}(hx:SR c L0 Lo lam s.bx x v)
  (h:mr P s.bx s.h t x=some y):∃u,(Instr.loadAt t v).run P c.w = .ok u c.w∧VR c (un L0 Lo) y u:=by
 unfold mr at h
 cases x<;>simp only at h<;>try (cases h; done)
 ·rename_i id off
  rw [ae0] at h
  obtain⟨ob,ho,h⟩:=h
  cases ob with
  | map es=>cases h
  | row t cs=>cases h
  | cells cs=>
   simp only [SR,VR] at hx
   obtain⟨hi,ad,rfl,ha⟩:=hx
   rw [←f.h] at ho
   have hl:Live c.h id:=⟨f.rel.lt _ _ ho,by simp [ho]⟩
   obtain⟨m,h1,h2,h3⟩:=f.rel.obj _ _ ho
   obtain⟨u,hr,hu⟩:=se (P:=P) h h3
   exact⟨u,by simp [Instr.loadAt,Instr.sureAddr,ha hl,hr],hu⟩
 ·rename_i k off
  rw [ae0] at h
  obtain⟨cs,hb,h⟩:=h
  simp only [SR] at hx
  obtain⟨rfl,_⟩:=hx
  have hw:=f.box k cs hb
  obtain⟨u,hr,hu⟩:=se (P:=P) h hw.cells
  rw [aft] at hr
  exact⟨u,by simp [Instr.loadAt,Instr.sureAddr,hr],hu⟩
 ·rename_i cs off
  split at h
  ·cases h
  ·rename_i hne
   simp only [SR,VR] at hx
   obtain⟨b,o',rfl,hc⟩:=hx
   rcases hc with hc | ⟨_,hc⟩
   ·subst hc; simp at hne
   ·obtain⟨u,hr,hu⟩:=se (P:=P) h hc
    exact⟨u,by simp [Instr.loadAt,Instr.sureAddr,hr],hu⟩
theorem CX {c:Cx}{Lo:Nat→Prop}{lam:Nat→Nat}{bx:Nat→Option (List AV)}{t:TypeId}{x i y:AV}{v u:Value}(hx:SR c L0 Lo lam bx x v)(hi:SR c L0 Lo lam bx i u)
  (h:gS P t x i=some y):∃r,(Instr.indexAt t v u).run P c.w = .ok r c.w∧SR c L0 Lo lam bx y r:=by
 unfold gS at h
 split at h<;>try (cases h; done)
 rename_i k i
 simp only [SR,VR] at hi
 subst hi
 rw [ae0] at h
 obtain⟨d,hd,h⟩:=h
 split at h<;>try (cases h; done)
 ·rename_i len e
  rw [ae0] at h
  obtain⟨m,hm,h⟩:=h
  split at h
  ·rename_i hin
   obtain⟨ad,rfl,hy⟩:=CW h hx
   exact⟨_,by simp [Instr.indexAt,asIntOf,bS hd,Instr.sureAddr,hin,fj hm],hy⟩
  ·cases h
 ·rename_i e
  rw [ae0] at h
  obtain⟨m,hm,h⟩:=h
  split at h<;>try (cases h; done)
  ·rename_i cs len ex
   split at h
   ·rename_i hin
    obtain⟨h1,h2,h3⟩:=hin
    cases h
    simp only [SR,VR] at hx ⊢
    obtain⟨a,cap,rfl,h4,h5,_,hc⟩:=hx
    rcases hc with hc | ⟨b,o',rfl,hr,hex,hc⟩
    ·subst hc; simp at h3
    ·refine⟨.pointer (some ((⟨b,o',none⟩:Addr).add (i.toNat*m))),by simp [Instr.indexAt,asIntOf,bS hd,h1,h2,fj hm],b,o',?_,.inr ⟨hr,hc⟩⟩
     rw [addr_add]
   ·cases h
  ·rename_i id off len kA
   split at h
   ·rename_i hin
    obtain⟨h0,h1,h2⟩:=hin
    cases h
    simp only [SR,VR] at hx ⊢
    rcases hx with⟨_,_,hz,_⟩| hx
    ·subst hz; omega
    obtain⟨_,hid,a,cap,rfl,h4,hs,h5⟩:=hx
    cases a with
    | none=>simp at hs
    | some a=>
     refine⟨.pointer (some (a.add (i.toNat*m))),by simp [Instr.indexAt,asIntOf,bS hd,h1,h2,fj hm],hid,_,rfl,fun hl=>?_⟩
     rcases h5 hl with h6 | h6
     ·obtain⟨h6,_⟩:=h6
      cases h6
      rw [addr_add,af8]
     ·subst h6; omega
   ·cases h
end
end Go.R
namespace Go.R
open Go
section
variable {P:Program}{L0:Nat→Prop}{c0:Cx}{n:Nat}{ds:List Nat}{o:Oper}{s:RS}
theorem zU {c:Cx}{L:Nat→Prop}{t:TypeId}{cs:List AV}{vs:Array Value}{off:Nat}{x:AV}(hv:VRs c L cs vs.toList)(h:Gw P t cs off=some x) :
  ∃v,(part t vs off).run P c.w = .ok v c.w∧VR c L x v:=by
 unfold Gw ls at h
 rw [ae0] at h
 obtain⟨ag,Wy,h⟩:=h
 simp only [part,Sem.run_bind,Gx Wy,Result.andThen_ok]
 cases ag with
 | true=>
  simp only [if_true,ae0] at h
  obtain⟨m,hm,h⟩:=h
  split at h
  ·rename_i hle
   cases h
   refine⟨.agg (vs.extract off (off+m)),by simp [fj hm],?_⟩
   simp only [VR]
   refine⟨_,rfl,?_⟩
   rw [Array.toList_extract,List.extract_eq_take_drop,afX]
   exact (hv.drop off).take m
  ·cases h
 | false=>
  simp only [afa,if_false] at h
  obtain⟨v,Qm,hx⟩:=hv.get off x h
  have Wz:vs[off]? = some v:=by rw [←Array.getElem?_toList]; exact Qm
  exact⟨v,by simp [Wz],hx⟩
theorem Ff {c:Cx}{Lo:Nat→Prop}{lam:Nat→Nat}{bx:Nat→Option (List AV)}{t:TypeId}{x y:AV}{v:Value}{i:Nat}(hx:SR c L0 Lo lam bx x v)(h:E4 P t x i=some y) :
  ∃r,(Instr.field t v i).run P c.w = .ok r c.w∧VR c (un L0 Lo) y r:=by
 unfold E4 at h
 split at h<;>try (cases h; done)
 rename_i cs
 simp only [SR,VR] at hx
 obtain⟨vs,rfl,hv⟩:=hx
 rw [ae0] at h
 obtain⟨d,hd,h⟩:=h
 split at h<;>try (cases h; done)
 rename_i fs
 rw [ae0] at h
 obtain⟨fd,hf,h⟩:=h
 obtain⟨r,hr,hy⟩:=zU hv h
 exact⟨r,by simp [Instr.field,bS hd,hf,asAgg,hr],hy⟩
theorem CY {c:Cx}{Lo:Nat→Prop}{lam:Nat→Nat}{bx:Nat→Option (List AV)}{t:TypeId}{x y:AV}{v:Value}{i:Nat}(hx:SR c L0 Lo lam bx x v)(h:sc P t x i=some y) :
  ∃r,(Instr.fieldAt t v i).run P c.w = .ok r c.w∧SR c L0 Lo lam bx y r:=by
 unfold sc at h
 rw [ae0] at h
 obtain⟨d,hd,h⟩:=h
 split at h<;>try (cases h; done)
 rename_i fs
 simp only [ae0] at h
 obtain⟨fd,hf,m,hm,h⟩:=h
 split at h
 ·cases h
 ·rename_i xC
  obtain⟨ad,rfl,hy⟩:=CW h hx
  exact⟨_,by simp [Instr.fieldAt,bS hd,hf,Instr.sureAddr,fieldPlace,fj hm,xC],hy⟩
theorem Fg {c:Cx}{Lo:Nat→Prop}{lam:Nat→Nat}{bx:Nat→Option (List AV)}{t:TypeId}{x i y:AV}{v u:Value}(hx:SR c L0 Lo lam bx x v)(hi:SR c L0 Lo lam bx i u)(h:ui P t x i=some y) :
  ∃r,(Instr.index t v u).run P c.w = .ok r c.w∧VR c (un L0 Lo) y r:=by
 unfold ui at h
 split at h<;>try (cases h; done)
 rename_i k i
 simp only [SR,VR] at hi
 subst hi
 rw [ae0] at h
 obtain⟨d,hd,h⟩:=h
 split at h<;>try (cases h; done)
 ·rename_i len e
  split at h<;>try (cases h; done)
  rename_i cs
  simp only [SR,VR] at hx
  obtain⟨vs,rfl,hv⟩:=hx
  rw [ae0] at h
  obtain⟨m,hm,h⟩:=h
  split at h
  ·rename_i hin
   obtain⟨r,hr,hy⟩:=zU hv h
   exact⟨r,by simp [Instr.index,asIntOf,bS hd,hin,fj hm,hr],hy⟩
  ·cases h
 ·split at h<;>try (cases h; done)
  rename_i st
  simp only [SR,VR] at hx
  subst hx
  split at h
  ·rename_i h0
   rw [ae1] at h
   obtain⟨b,hb,rfl⟩:=h
   have hb2:st[i.toNat]? = some b:=by
    have hl:i.toNat<st.data.toList.length:=(ae5.1 hb).1
    have Gy:i.toNat<st.size:=by simpa using hl
    rw [getElem?_pos st i.toNat Gy]
    have:=(ae5.1 hb).2
    rw [←this]
    rfl
   exact⟨.int .u8 b.toNat,by simp [Instr.index,asIntOf,bS hd,h0,hb2],by simp [VR]⟩
  ·cases h
theorem mz {c:Cx}{Lo:Nat→Prop}{lam:Nat→Nat}{bx:Nat→Option (List AV)}{SL:Bool}{len lim cap:Nat}{lo hi:Option AV}{IE J8:Option Value}{l h:Nat}(hl:lim≤cap)
  (vw:∀x,lo=some x→∃v,IE=some v∧SR c L0 Lo lam bx x v) (Bc:lo=none→IE=none) (NQ:∀x,hi=some x→∃v,J8=some v∧SR c L0 Lo lam bx x v) (CZ:hi=none→J8=none)
  (hb:mY len lim lo hi=some (l,h)):(Instr.sliceBounds SL len cap IE J8 none).run P c.w = .ok (l,h,cap) c.w∧l≤h∧(h≤lim∨h=len):=by
 unfold mY at hb
 simp only [ae0] at hb
 obtain⟨h',hh,l',rN,he⟩:=hb
 cases he
 have e1:(J8=none∧h=len)∨∃k i,J8=some (.int k i)∧(0≤i∧i≤(cap:Int))∧h=i.toNat∧h≤lim:=by
  cases hi with
  | none=>
   simp only [ae2] at hh
   exact .inl ⟨CZ rfl,hh.symm⟩
  | some x=>
   obtain⟨v,rfl,hv⟩:=NQ x rfl
   cases x<;>simp only at hh<;>try (cases hh; done)
   rename_i k i
   simp only [SR,VR] at hv
   subst hv
   split at hh
   ·rename_i hin
    cases hh
    exact .inr ⟨k,i,rfl,⟨hin.1,by omega⟩,rfl,by omega⟩
   ·cases hh
 have e2:(IE=none∧l=0)∨∃k i,IE=some (.int k i)∧(0≤i∧i≤(h:Int))∧l=i.toNat:=by
  cases lo with
  | none=>
   simp only [ae2] at rN
   exact .inl ⟨Bc rfl,rN.symm⟩
  | some x=>
   obtain⟨v,rfl,hv⟩:=vw x rfl
   cases x<;>simp only at rN<;>try (cases rN; done)
   rename_i k i
   simp only [SR,VR] at hv
   subst hv
   split at rN
   ·rename_i hin
    cases rN
    exact .inr ⟨k,i,rfl,hin,rfl⟩
   ·cases rN
 clear vw Bc NQ CZ hh rN
 have e3:l≤h:=by rcases e2 with⟨_,h2⟩| ⟨k,i,_,h2,h3⟩<;>omega
 have e4:h≤lim∨h=len:=by rcases e1 with⟨_,h2⟩| ⟨k,i,_,h2,h3,h4⟩<;>omega
 refine⟨?_,e3,e4⟩
 rcases e1 with⟨rfl,rfl⟩| ⟨k,i,rfl,V8,rfl,_⟩<;>rcases e2 with⟨rfl,rfl⟩| ⟨k2,i2,rfl,Gz,rfl⟩<;>simp_all [Instr.sliceBounds,Instr.sliceBound,asIntOf]
theorem sf {c:Cx}{Lo:Nat→Prop}{lam:Nat→Nat}{bx:Nat→Option (List AV)}{x:AV}{v:Value}(h:isZero (some x)=true)(hv:SR c L0 Lo lam bx x v):∃k,v = .int k 0:=by
 cases x<;>simp [isZero] at h
 subst h
 simp only [SR,VR] at hv
 exact⟨_,hv⟩
theorem Fh {c:Cx}{Lo:Nat→Prop}{lam:Nat→Nat}{bx:Nat→Option (List AV)}{t:TypeId}{x y:AV}{v:Value}{lo hi mx:Option AV}{IE J8 Tx:Option Value}(hx:SR c L0 Lo lam bx x v)
  (vw:∀x,lo=some x→∃v,IE=some v∧SR c L0 Lo lam bx x v) (Bc:lo=none→IE=none) (NQ:∀x,hi=some x→∃v,J8=some v∧SR c L0 Lo lam bx x v) (CZ:hi=none→J8=none)
  (hmx:∀x,mx=some x→∃v,Tx=some v∧SR c L0 Lo lam bx x v) (Ty:mx=none→Tx=none)
  (h:oz P t x lo hi mx=some y):∃r,(Instr.sliceAt t v IE J8 Tx).run P c.w = .ok r c.w∧VR c (un L0 Lo) y r:=by
 unfold oz at h
 rw [ae0] at h
 obtain⟨d,hd,h⟩:=h
 have GA:(match d with | .array _ _=>false | _=>true)=true→(Instr.sliceAt t v IE J8 Tx).run P c.w=(Instr.slice t v IE J8 Tx).run P c.w:=by
  intro hna
  unfold Instr.sliceAt
  simp only [Sem.run_bind,bS hd,Result.andThen_ok]
  cases d<;>simp at hna<;>rfl
 split at h<;>try (cases h; done)
 ·rw [GA rfl]
  cases mx with
  | some mm=>cases x<;>cases h
  | none=>
  cases x<;>simp only at h<;>try (cases h; done)
  rename_i st
  rw [Ty rfl]
  simp only [SR,VR] at hx
  subst hx
  rw [ae1] at h
  obtain⟨⟨l,hh⟩,hb,rfl⟩:=h
  obtain⟨hr,_,_⟩:=mz (P:=P) (SL:=false) (ae4 _) vw Bc NQ CZ hb
  exact⟨.string (st.extract l hh),by simp [Instr.slice,bS hd,hr],by simp [VR]⟩
 ·rename_i e
  rw [GA rfl]
  rw [ae0] at h
  obtain⟨m,hm,h⟩:=h
  cases mx with
  | some mm=>
   cases hi with
   | none=>cases h
   | some hh=>
   simp only at h
   split at h
   ·rename_i hz
    simp only [ae3] at hz
    obtain⟨⟨z1,z2⟩,z3⟩:=hz
    obtain⟨mv,rfl,WA⟩:=hmx mm rfl
    obtain⟨hv,rfl,hhv⟩:=NQ hh rfl
    obtain⟨k3,rfl⟩:=sf z3 WA
    obtain⟨k2,rfl⟩:=sf z2 hhv
    have hsl:∃a len cap,v = .slice a len cap∧VR c (un L0 Lo) y (.slice a 0 0):=by
     split at h<;>try (cases h; done)
     all_goals (cases h; simp only [SR,VR] at hx)
     ·obtain⟨a,cap,rfl,_,_,hs,_⟩:=hx; exact⟨_,_,_,rfl,by simp only [VR]; exact⟨_,_,rfl,ae4 _,fun _=>rfl,hs.imp id fun _=>⟨trivial,rfl⟩,.inl (by simp)⟩⟩
     ·rcases hx with⟨_,_,_,a,rfl⟩| ⟨_,_,a,cap,rfl,_,hs,_⟩
      ·exact⟨_,_,_,rfl,by simp only [VR]; exact⟨_,_,rfl,ae4 _,fun _=>rfl,.inr ⟨trivial,rfl⟩,.inl (by simp)⟩⟩
      ·exact⟨_,_,_,rfl,by simp only [VR]; exact⟨_,_,rfl,ae4 _,fun _=>rfl,.inl hs,.inl (by simp)⟩⟩
     ·subst hx; exact⟨_,_,_,rfl,by simp [VR]⟩
    obtain⟨a,len,cap,rfl,hyv⟩:=hsl
    have hlz:IE=none∨∃k,IE=some (.int k 0):=by
     cases lo with
     | none=>exact .inl (Bc rfl)
     | some x=>
      obtain⟨lv,rfl,nf⟩:=vw x rfl
      obtain⟨k,rfl⟩:=sf z1 nf
      exact .inr ⟨k,rfl⟩
    refine⟨.slice a 0 0,?_,hyv⟩
    rcases hlz with rfl | ⟨k,rfl⟩<;>simp [Instr.slice,bS hd,Instr.sliceBounds,Instr.sliceBound,asIntOf,fj hm]
   ·cases h
  | none=>
   rw [Ty rfl]
   simp only at h
   cases x with
   | nils=>
    simp only [SR,VR] at hx
    subst hx
    rw [ae1] at h
    obtain⟨⟨l,hh⟩,hb,rfl⟩:=h
    obtain⟨hr,h1,h2⟩:=mz (P:=P) (SL:=true) (ae4 _) vw Bc NQ CZ hb
    have:hh=0:=by omega
    subst this
    have:l=0:=by omega
    subst this
    exact⟨.slice none 0 0,by simp [Instr.slice,bS hd,hr,fj hm],by simp [VR]⟩
   | fz cs len ex=>
    simp only [SR,VR] at hx
    obtain⟨a,cap,rfl,WB,hc2,hs,hc⟩:=hx
    rw [ae1] at h
    obtain⟨⟨l,hh⟩,hb,rfl⟩:=h
    obtain⟨hr,h1,h2⟩:=mz (P:=P) (SL:=true) WB vw Bc NQ CZ hb
    have hh2:hh≤len:=by omega
    refine⟨.slice (if cap=l then a else a.map (·.add (l*m))) (hh - l) (cap - l),by simp [Instr.slice,bS hd,hr,fj hm],?_⟩
    simp only [VR]
    refine⟨_,_,rfl,by omega,fun he=>?_,?_,?_⟩
    rotate_left
    ·rcases hs with hs | ⟨hs,SM⟩
     ·left; split<;>simp [hs]
     ·right; subst hs; subst SM; simp
    rotate_left
    ·simp only [ae3,beq_iff_eq] at he
     have:=hc2 he.1
     omega
    ·rcases hc with hc | ⟨b,o',ha,Px,hex,hc⟩
     ·subst hc; exact .inl (by simp)
     ·by_cases hcl:cap=l
      ·left
       have:hh - l=0:=by omega
       simp [this]
      ·right
       rw [if_neg hcl,ha]
       exact⟨b,o'+l*m,by simp [addr_add],Px,fun he=>hex (by simp only [ae3] at he; exact he.1),(hc.drop _).take _⟩
   | rs id off len kA=>
    simp only at h
    split at h
    ·rename_i zh
     subst zh
     simp only [SR,VR] at hx
     rcases hx with⟨rfl,rfl,rfl,a,rfl⟩| hx
     ·rw [ae1] at h
      obtain⟨⟨l,hh⟩,hb,rfl⟩:=h
      obtain⟨hr,h1,h2⟩:=mz (P:=P) (SL:=true) (ae4 _) vw Bc NQ CZ hb
      have:hh=0:=by omega
      subst this
      have:l=0:=by omega
      subst this
      exact⟨.slice a 0 0,by simp [Instr.slice,bS hd,hr,fj hm],by simp only [VR]; exact .inl ⟨trivial,by simp,trivial,a,rfl⟩⟩
     obtain⟨mT,hid,a,cap,rfl,WB,hc2,hc⟩:=hx
     rw [ae1] at h
     obtain⟨⟨l,hh⟩,hb,rfl⟩:=h
     obtain⟨hr,h1,h2⟩:=mz (P:=P) (SL:=true) WB vw Bc NQ CZ hb
     have hh2:hh≤len:=by omega
     refine⟨.slice (if cap=l then a else a.map (·.add (l*kA))) (hh - l) (cap - l),by simp [Instr.slice,bS hd,hr,fj hm],?_⟩
     simp only [VR]
     refine .inr ⟨mT,hid,_,_,rfl,by omega,by split<;>simp [hc2],fun hl=>?_⟩
     ·rcases hc hl with⟨h3,h4⟩| h3
      ·by_cases hcl:cap=l
       ·right; omega
       ·left
        rw [if_neg hcl,h3]
        refine⟨by simp [addr_add,af8],?_⟩
        rw [←h4]
        have:cap*kA=l*kA+(cap - l)*kA:=by rw [←ags]; congr 1; omega
        omega
      ·right; omega
    ·cases h
   | _=>cases h
end
end Go.R
namespace Go.R
open Go
section
variable {P:Program}
def ints (ns:List Int):List Value:=ns.map fun n=>.int .i64 n
theorem jZ:∀{cs:List AV},cs.all mZ=true→∃ns:List Int,cs=ns.map fun n=>AV.int .i64 n
 | [],_=>⟨[],rfl⟩
 | x::xs,h=>by
  simp only [afQ,ae3] at h
  obtain⟨ns,rfl⟩:=jZ h.2
  cases x<;>simp [mZ] at h
  rename_i k m
  cases k<;>simp at h
  exact⟨m::ns,rfl⟩
theorem mA {c:Cx}{L:Nat→Prop}:∀{ns:List Int} {vs:List Value},VRs c L (ns.map fun n=>AV.int .i64 n) vs→vs=ints ns
 | [],[],_=>rfl
 | m::ns,v::vs,h=>by
  have h1:v = .int .i64 m:=by simpa [VR] using h.1
  rw [h1,mA h.2]; rfl
 | [],_::_,h=>h.elim
 | _::_,[],h=>h.elim
theorem ng:∀ns ms:List Int,oA (ns.map fun n=>AV.int .i64 n) (ms.map fun n=>AV.int .i64 n)=decide (ns=ms)
 | [],[]=>rfl
 | [],_::_=>rfl
 | _::_,[]=>rfl
 | n::ns,m::ms=>by
  simp only [afs,oA,lu,ng ns ms]
  by_cases h1:n=m<;>by_cases h2:ns=ms<;>simp [h1,h2]
theorem jO {t:TypeId}(w:World)(ht:P.underlying t=some (.int .i64)){ns:List Int}{vs:Array Value}(hv:vs.toList=ints ns){i:Nat}{m:Int}(hi:ns[i]? = some m):(part t vs i).run P w = .ok (.int .i64 m) w:=by
 have h2:vs[i]? = some (.int .i64 m):=by rw [←Array.getElem?_toList,hv]; simp [ints,hi]
 simp [part,isAgg,bS ht,h2]
theorem nQ {e:TypeId}(d:Nat)(w:World)(he:P.underlying e=some (.int .i64)){xs ys:Array Value}{ns ms:List Int}(hx:xs.toList=ints ns)(hy:ys.toList=ints ms)(hl:ns.length=ms.length) :
  ∀m i,i+m=ns.length→(Op.eqItems (d+1) e 1 xs ys (List.range' i m)).run P w = .ok (decide (ns.drop i=ms.drop i)) w
 | 0,i,h=>by
  have h1:ns.drop i=[]:=by simp; omega
  have h2:ms.drop i=[]:=by simp; omega
  simp [Op.eqItems,h1,h2]
 | m+1,i,h=>by
  have ih:=nQ d w he hx hy hl m (i+1) (by omega)
  rw [List.range'_succ]
  simp only [Op.eqItems,agI,Sem.run_bind,jO w he hx (ae8 (show i<ns.length by omega)),jO w he hy (ae8 (show i<ms.length by omega)),Result.andThen_ok,run_equalIn_int w d e .i64 .i64 _ _ he]
  have e1:ns.drop i=ns[i]::ns.drop (i+1):=afe (by omega)
  have e2:ms.drop i=ms[i]::ms.drop (i+1):=afe (by omega)
  rw [e1,e2]
  clear e1 e2
  generalize ns[i]=a
  generalize ms[i]=b
  by_cases h3:a=b
  ·simp [h3,ih]
  ·simp [h3]
def C0 (P : Program) (f : Field) (i : Nat) : Bool := f.name != "_" && f.offset == i && (P.underlying f.type matches some (.int .i64)) && hH P f.type == some 1
theorem nh (d:Nat)(w:World){xs ys:Array Value}{ns ms:List Int}(hx:xs.toList=ints ns)(hy:ys.toList=ints ms)(hl:ns.length=ms.length) :
  ∀(fs:List Field) (i:Nat),i+fs.length=ns.length→(fs.zipIdx i).all (fun (f,j)=>C0 P f j)=true→(Op.eqFields (d+1) xs ys fs).run P w = .ok (decide (ns.drop i=ms.drop i)) w
 | [],i,h,_=>by
  have h1:ns.drop i=[]:=by simp at h ⊢; omega
  have h2:ms.drop i=[]:=by simp at h ⊢; omega
  simp [Op.eqFields,h1,h2]
 | f::fs,i,h,ha=>by
  simp only [List.zipIdx_cons,afQ,ae3] at ha
  obtain⟨hf,ha⟩:=ha
  simp only [afc] at h
  have ih:=nh d w hx hy hl fs (i+1) (by omega) ha
  simp only [C0,ae3,bne_iff_ne,ne_eq,beq_iff_eq] at hf
  obtain⟨⟨⟨f1,f2⟩,f3⟩,f4⟩:=hf
  have WC:P.underlying f.type=some (.int .i64):=by
   revert f3
   split<;>simp_all
  simp only [Op.eqFields,f1,ne_eq,not_false_eq_true,if_true,Sem.run_bind,f2,jO w WC hx (ae8 (show i<ns.length by omega)),jO w WC hy (ae8 (show i<ms.length by omega)),Result.andThen_ok,run_equalIn_int w d f.type .i64 .i64 _ _ WC]
  have e1:ns.drop i=ns[i]::ns.drop (i+1):=afe (by omega)
  have e2:ms.drop i=ms[i]::ms.drop (i+1):=afe (by omega)
  rw [e1,e2]
  clear e1 e2
  generalize ns[i]=a
  generalize ms[i]=b
  by_cases h3:a=b
  ·simp [h3,ih]
  ·simp [h3]
theorem nS {t:TypeId}(h:(P.underlying t matches some (.int .i64))=true):P.underlying t=some (.int .i64):=by
 revert h
 split<;>simp_all
theorem IF {t:TypeId}{m:Nat}(h:hH P t=some m):∃i,P.info? t=some i∧P.cellsOf t=m:=by
 unfold hH at h
 rw [ae1] at h
 obtain⟨i,hi,rfl⟩:=h
 exact⟨i,hi,by simp [Program.cellsOf,hi]⟩
theorem bytes_beq (a b:ByteArray):(a.toList==b.toList)=(a.data.toList==b.data.toList):=by
 rw [ByteArray.toList_eq,ByteArray.toList_eq]
theorem zV {c:Cx}{L:Nat→Prop}{t:TypeId}{x y:AV}{v u:Value}(d:Nat)(hx:ji P t x=true)(hs:sameShape x y=true)(hv:VR c L x v)(hu:VR c L y u)(w:World) :
  (Op.equalIn (d+2) t v u).run P w = .ok (iw x y) w:=by
 cases hd:P.underlying t with
 | none=>simp [ji,hd] at hx
 | some td=>
 cases td<;>simp only [ji,hd] at hx<;>try (cases hx; done)
 ·rename_i q
  cases x<;>simp only at hx<;>try (cases hx; done)
  rename_i k a
  cases y<;>simp only [sameShape] at hs<;>try (cases hs; done)
  rename_i l b
  simp only [VR] at hv hu
  subst hv; subst hu
  simp only [beq_iff_eq] at hs hx
  subst hs; subst hx
  rw [run_equalIn_int w (d+1) t _ _ a b hd]
  simp [iw,lu]
 ·cases x<;>simp only at hx<;>try (cases hx; done)
  rename_i a
  cases y<;>simp only [sameShape] at hs<;>try (cases hs; done)
  rename_i b
  simp only [VR] at hv hu
  subst hv; subst hu
  rw [run_equalIn_string w (d+1) t a b hd,bytes_beq]
  simp [iw,lu]
 ·rename_i n e
  cases x<;>simp only at hx<;>try (cases hx; done)
  rename_i cs
  cases y<;>simp only [sameShape] at hs<;>try (cases hs; done)
  rename_i gF
  simp only [ae3,beq_iff_eq] at hx hs
  obtain⟨⟨⟨h1,h2⟩,h3⟩,h4⟩:=hx
  obtain⟨ns,rfl⟩:=jZ hs.1.2
  obtain⟨ms,rfl⟩:=jZ hs.2
  simp only [VR] at hv hu
  obtain⟨xs,rfl,hxs⟩:=hv
  obtain⟨ys,rfl,WD⟩:=hu
  obtain⟨i,hi,WE⟩:=IF h4
  have hl:ns.length=ms.length:=by simpa using hs.1.1
  rw [run_equalIn_array w (d+1) xs ys hd hi,WE]
  have:=nQ (P:=P) d w (nS h3) (mA hxs) (mA WD) hl n 0 (by simpa using h1.symm)
  rw [List.range_eq_range',this,iw,ng]
  simp
 ·rename_i fs
  cases x<;>simp only at hx<;>try (cases hx; done)
  rename_i cs
  cases y<;>simp only [sameShape] at hs<;>try (cases hs; done)
  rename_i gF
  simp only [ae3,beq_iff_eq,agk] at hx hs
  obtain⟨⟨⟨h1,h2⟩,h3⟩,h4⟩:=hx
  obtain⟨ns,rfl⟩:=jZ hs.1.2
  obtain⟨ms,rfl⟩:=jZ hs.2
  simp only [VR] at hv hu
  obtain⟨xs,rfl,hxs⟩:=hv
  obtain⟨ys,rfl,WD⟩:=hu
  have hl:ns.length=ms.length:=by simpa using hs.1.1
  have hf:P.fieldsOf t=fs:=by simp [Program.fieldsOf,hd]
  rw [run_equalIn_struct w (d+1) t xs ys (by rw [hf]; exact hd) h4,hf]
  have:=nh (P:=P) d w (mA hxs) (mA WD) hl fs.toList 0 (by simpa using h1.symm) h3
  rw [this,iw,ng]
  simp
theorem qd {α:Type}(w:World)(f:α→PUnit→Sem (ForInStep PUnit)):∀l:List α,(∀x∈l,(f x PUnit.unit).run P w = .ok (.yield PUnit.unit) w)→(forIn l PUnit.unit f).run P w = .ok PUnit.unit w
 | [],_=>by simp
 | x::xs,h=>by
  have ih:=qd w f xs (fun y hy=>h y (by simp [hy]))
  simp only [List.forIn_cons,Sem.run_bind,h x (by simp),Result.andThen_ok]
  exact ih
theorem rO {c:Cx}{L:Nat→Prop}{t:TypeId}{x:AV}{v:Value}(em:Bool)(d:Nat)(hx:ji P t x=true)(hv:VR c L x v)(w:World) :
  (Instr.checkKey em (d+2) t v).run P w = .ok () w:=by
 have one:∀(e:TypeId) (m:Int),P.underlying e=some (.int .i64)→(Instr.checkKey em (d+1) e (.int .i64 m)).run P w = .ok () w:=by
  intro e m he
  simp [Instr.checkKey,bS he]
 cases hd:P.underlying t with
 | none=>simp [ji,hd] at hx
 | some td=>
 cases td<;>simp only [ji,hd] at hx<;>try (cases hx; done)
 ·cases x<;>simp only at hx<;>try (cases hx; done)
  simp only [VR] at hv
  subst hv
  simp [Instr.checkKey,bS hd]
 ·cases x<;>simp only at hx<;>try (cases hx; done)
  simp only [VR] at hv
  subst hv
  simp [Instr.checkKey,bS hd]
 ·rename_i n e
  cases x<;>simp only at hx<;>try (cases hx; done)
  rename_i cs
  simp only [ae3,beq_iff_eq] at hx
  obtain⟨⟨⟨h1,h2⟩,h3⟩,h4⟩:=hx
  obtain⟨ns,rfl⟩:=jZ h2
  simp only [VR] at hv
  obtain⟨xs,rfl,hxs⟩:=hv
  rw [Instr.checkKey]
  simp only [Sem.run_bind,bS hd,Result.andThen_ok]
  simp only [Std.Legacy.Range.forIn_eq_forIn_range',Std.Legacy.Range.size,Nat.sub_zero,Nat.add_one_sub_one,Nat.div_one]
  rw [qd w _ (List.range' 0 n) (fun i hi=>?_)]
  ·rfl
  ·have Gz:i<ns.length:=by simp at hi h1; omega
   simp only [Sem.run_bind,fj h4,Result.andThen_ok,agI]
   rw [jO w (nS h3) (mA hxs) (ae8 Gz)]
   simp only [Result.andThen_ok,one e _ (nS h3)]
   rfl
 ·rename_i fs
  cases x<;>simp only at hx<;>try (cases hx; done)
  rename_i cs
  simp only [ae3,beq_iff_eq,agk] at hx
  obtain⟨⟨⟨h1,h2⟩,h3⟩,h4⟩:=hx
  obtain⟨ns,rfl⟩:=jZ h2
  simp only [VR] at hv
  obtain⟨xs,rfl,hxs⟩:=hv
  rw [Instr.checkKey]
  simp only [Sem.run_bind,bS hd,Result.andThen_ok]
  rw [←Array.forIn_toList]
  rw [qd w _ fs.toList (fun f hf=>?_)]
  ·rfl
  ·obtain⟨i,hi,rfl⟩:=List.mem_iff_getElem.1 hf
   have hm:(fs.toList[i],i)∈fs.toList.zipIdx:=by rw [List.mem_zipIdx_iff_getElem?]; simp [hi]
   have hh:=afr.1 h3 _ hm
   generalize fs.toList[i]=f at hh
   simp only [ae3,bne_iff_ne,ne_eq,beq_iff_eq] at hh
   obtain⟨⟨⟨f1,f2⟩,f3⟩,f4⟩:=hh
   have Gz:i<ns.length:=by simp at hi h1; omega
   rw [if_pos f1,f2]
   simp only [Sem.run_bind]
   rw [jO w (nS f3) (mA hxs) (ae8 Gz)]
   simp only [Result.andThen_ok,one _ _ (nS f3)]
   rfl
end
end Go.R
