/- Part of the proof: RCore, RRel, RFrame, ROps1, ROps2, RKeys. -/
import GoSem.Dispatch
import GoSem.Machine.Return
import Derived.Orders
import Derived.Below
import Derived.Laws.World
import Derived.Laws.Sem
import Derived.Tactics
import Derived.Laws.Cells
import Derived.Laws.Entries
import Derived.ChangeKeysEq
import Derived.WideKeyRuns
set_option linter.unusedVariables false
set_option linter.unusedSimpArgs false
set_option maxRecDepth 100000
open Array renaming getElem?_eq_some_iff → YT, getElem?_setIfInBounds → Zj, getElem?_toList → ZC
open Bool renaming and_eq_true → Yo, false_eq_true → YA, not_eq_true' → ZF
open List renaming getElem?_eq_some_iff → Yu, getElem?_eq_getElem → Yv, drop_eq_getElem_cons → Yz, length_cons → YD, map_cons → YJ, all_eq_true → YK, mem_cons → YW, all_cons → Zg, mem_of_getElem? → Zm
open Nat renaming le_refl → Yn, zero_add → YG, lt_of_lt_of_le → YN, le_trans → Y0, beq → Y5, add_assoc → Y7, le_succ → Zr, add_mul → Zs, add_sub_cancel_left → Zt, eq_of_beq_eq_true → ZA, add_right_comm → ZJ, mul_one → ZQ
open Ne renaming symm → ZB
open Option renaming bind_eq_some_iff → Yk, map_eq_some_iff → Yl
open Option.some renaming injEq → Ym
open Prod.mk renaming injEq → Yr
open UInt8 renaming ofNat → ZX
namespace Go.R
open Go
inductive AV where
 | any
 | bool (b:Bool)
 | int (k:IntKind) (n:Int)
 | str (s:ByteArray)
 | rO
 | ptr (id off:Nat)
 | lp (k off:Nat)
 | fp (cs:List AV) (off:Nat)
 | nils
 | fz (cs:List AV) (n:Nat) (ex:Bool)
 | rs (id off len jc:Nat)
 | nT
 | mp (id:Nat)
 | fn (f:FuncId) (cap:List AV)
 | sP
 | agg (cs:List AV)
 | tup (vs:List AV)
 deriving Inhabited
inductive AObj where
 | cells (cs:List AV)
 | map (es:List (AV × AV))
 | row (e:TypeId) (cs:List AV)
 deriving Inhabited
structure AHeap where
 get:Nat→Option AObj
 ver:Nat→Nat
 next:Nat
def AHeap.put (h:AHeap)(id:Nat)(o:AObj):AHeap:={get:=fun i=>bif Y5 i id then some o else h.get i,ver:=fun i=>bif Y5 i id then h.next else h.ver i,next:=h.next+1}
def AHeap.kill (h:AHeap)(id:Nat):AHeap:={get:=fun i=>bif Y5 i id then none else h.get i,ver:=fun i=>bif Y5 i id then h.next else h.ver i,next:=h.next+1}
def AHeap.alloc (h:AHeap)(o:AObj):AHeap:=h.put h.next o
def AV.cells:AV→List AV
 | .agg cs=>cs
 | v=>[v]
def AV.cK:AV→Bool
 | .any | .lp .. | .agg _ | .tup _=>false
 | _=>true
def AV.lW:AV→Bool
 | .lp .. | .any=>false
 | .agg cs=>cs.all AV.cK
 | _=>true
mutual
def AV.dX:AV→Bool
 | .any | .lp .. | .ptr .. | .rs .. | .mp _=>false
 | .fp cs _ | .fz cs _ _ | .agg cs | .tup cs | .fn _ cs=>cL cs
 | _=>true
def cL:List AV→Bool
 | []=>true
 | x::xs=>x.dX&&cL xs
end
mutual
def AV.kj:AV→AV
 | .nils=>.fz [] 0 false
 | .fz cs n _=>.fz (dB cs) n false
 | .fp cs off=>.fp (dB cs) off
 | .agg cs=>.agg (dB cs)
 | .tup cs=>.tup (dB cs)
 | .fn f cs=>.fn f (dB cs)
 | x=>x
def dB:List AV→List AV
 | []=>[]
 | x::xs=>x.kj::dB xs
end
def AV.fA:AV→Option Value
 | .bool b=>some (.bool b)
 | .int k n=>some (.int k n)
 | .str s=>some (.string s)
 | .rO=>some (.pointer none)
 | .sP=>some .nilFunc
 | .nT=>some (.map none)
 | .nils=>some (.slice none 0 0)
 | _=>none
def jg:List AV→Option (List Value)
 | []=>some []
 | x::xs=>(x.fA).bind fun v=>(jg xs).bind fun vs=>some (v::vs)
def AV.AF:AV→Option Value
 | .agg cs=>(jg cs).map fun vs=>.agg vs.toArray
 | v=>v.fA
def oI:Value→Option AV
 | .bool b=>some (.bool b)
 | .int k n=>some (.int k n)
 | .string s=>some (.str s)
 | .pointer none=>some .rO
 | .slice none 0 0=>some .nils
 | .map none=>some .nT
 | .nilFunc=>some .sP
 | _=>none
def ri:List Value→Option (List AV)
 | []=>some []
 | x::xs=>(oI x).bind fun v=>(ri xs).bind fun vs=>some (v::vs)
def Fa:Value→Option AV
 | .agg cs=>(ri cs.toList).map .agg
 | v=>oI v
def iK {α:Type}(P:Program):Sem α→Option α
 | .pure a=>some a
 | .program k=>iK P (k P)
 | _=>none
def bS (ρ:Nat→AV):Operand→AV
 | .tmp t=>ρ t
 | .const v=>(Fa v).getD .any
 | .func f=>.fn f []
 | .global _=>.any
section
variable (P:Program)
def ez (t:TypeId):Option Nat:=(P.info? t).map (·.size)
def jT (t:TypeId):Option AV:=(P.info? t).bind fun i=>i.zero.bind Fa
def eB (t:TypeId):Option Bool:=(P.underlying t).map fun | .struct _ | .array _ _=>true | _=>false
def jh (t:TypeId)(cs:List AV)(off:Nat):Option AV:=
 (eB P t).bind fun ag=>if ag then (ez P t).bind fun n=>if off+n≤cs.length then some (.agg ((cs.drop off).take n)) else none else cs[off]?
def dE:List AV→Nat→List AV→List AV
 | cs,_,[]=>cs
 | cs,i,v::vs=>dE (cs.set i v) (i+1) vs
def gR (t:TypeId)(cs:List AV)(off:Nat)(v:AV):Option (List AV):=
 (ez P t).bind fun n=>if v.cells.length=n∧v.cells.all AV.cK∧off+n≤cs.length then some (dE cs off v.cells) else none
def sQ (place:Nat→Option (Nat × Nat))(cells:List AV):List (Nat × AV)→Option (List AV)
 | []=>some cells
 | (i,v)::rest=>
  (place i).bind fun (off,size)=>
   if v.cells.length=size∧v.cells.all AV.cK∧off+size≤cells.length then sQ place (dE cells off v.cells) rest else none
def places (fs:List Field)(i:Nat):Option (Nat × Nat):=(fs[i]?).bind fun f=>(ez P f.type).map fun n=>(f.offset,n)
def AG (t:TypeId)(parts:List (Nat × AV)):Option AV:=
 (jT P t).bind fun z=>(P.underlying t).bind fun
  | .struct fs=>if fs.toList.all (fun f=>(ez P f.type).isSome) then (sQ (places P fs.toList) z.cells parts).map .agg else none
  | .array _ e=>(ez P e).bind fun n=>(sQ (fun i=>some (i*n,n)) z.cells parts).map .agg
  | _=>none
def lX (z:List AV):Nat→List AV
 | 0=>[]
 | n+1=>z++lX z n
def gC (t:TypeId)(len:Nat)(parts:List (Nat × AV)):Option AV:=
 (P.underlying t).bind fun
  | .slice e=>(ez P e).bind fun n=>if n=0∨len*n > 16777216 then none else if len=0 then (if parts.isEmpty then some (.fz [] 0 true) else none) else
    (jT P e).bind fun z=>if z.cells.length=n then (sQ (fun i=>some (i*n,n)) (lX z.cells len) parts).map fun cs=>.fz cs len true else none
  | _=>none
def AV.shift:AV→Nat→Option AV
 | .ptr id off,n=>some (.ptr id (off+n))
 | .lp k off,n=>some (.lp k (off+n))
 | .fp cs off,n=>some (.fp cs (off+n))
 | _,_=>none
def nU (s:TypeId)(x:AV)(f:Nat):Option AV:=
 (P.underlying s).bind fun
  | .struct fs=>(fs[f]?).bind fun fd=>(ez P fd.type).bind fun n=>if n=0 then none else x.shift fd.offset
  | _=>none
def eC (t:TypeId)(x i:AV):Option AV:=
 match i with
 | .int _ i=>
  (P.underlying t).bind fun
   | .array len e=>(ez P e).bind fun n=>if 0≤i∧i<len then x.shift (i.toNat*n) else none
   | .slice e=>(ez P e).bind fun n=>
    match x with
    | .fz cs len _=>if 0≤i∧i<len∧i.toNat*n<cs.length then some (.fp cs (i.toNat*n)) else none
    | .rs id off len jc=>if jc=n∧0≤i∧i<len then some (.ptr id (off+i.toNat*n)) else none
    | _=>none
   | _=>none
 | _=>none
def B9 (t:TypeId)(cs:List AV)(off:Nat):Option AV:=jh P t cs off
def AH (s:TypeId)(x:AV)(f:Nat):Option AV:=
 match x with
 | .agg cs=>(P.underlying s).bind fun
  | .struct fs=>(fs[f]?).bind fun fd=>B9 P fd.type cs fd.offset
  | _=>none
 | _=>none
def qf (t:TypeId)(x i:AV):Option AV:=
 match i with
 | .int _ i=>
  (P.underlying t).bind fun
   | .array len e=>match x with
    | .agg cs=>(ez P e).bind fun n=>if 0≤i∧i<len then B9 P e cs (i.toNat*n) else none
    | _=>none
   | .string=>match x with
    | .str s=>if 0≤i then (s.data.toList[i.toNat]?).map fun b=>.int .u8 b.toNat else none
    | _=>none
   | _=>none
 | _=>none
def iL (len cap:Nat)(lo hi:Option AV):Option (Nat × Nat):=
 (match hi with | none=>some len | some (.int _ i)=>if 0≤i∧i≤cap then some i.toNat else none | _=>none).bind fun h=>
 (match lo with | none=>some 0 | some (.int _ i)=>if 0≤i∧i≤h then some i.toNat else none | _=>none).bind fun l=>some (l,h)
def isZero:Option AV→Bool
 | none=>true
 | some (.int _ i)=>i==0
 | _=>false
def eR (t:TypeId)(x:AV)(lo hi mx:Option AV):Option AV:=
 (P.underlying t).bind fun
  | .string=>match x,mx with
   | .str s,none=>(iL s.size s.size lo hi).map fun (l,h)=>.str (s.extract l h)
   | _,_=>none
  | .slice e=>(ez P e).bind fun n=>
   match mx with
   | some m=>match hi with
    | some _=>if isZero lo&&isZero hi&&isZero (some m) then (match x with | .fz .. | .rs ..=>some (.fz [] 0 true) | .nils=>some .nils | _=>none) else none
    | none=>none
   | none=>
    match x with
    | .nils=>(iL 0 0 lo hi).map fun _=>.nils
    | .fz cs len ex=>(iL len len lo hi).map fun (l,h)=>.fz ((cs.drop (l*n)).take ((h - l)*n)) (h - l) (ex&&h==len)
    | .rs id off len jc=>if jc=n then (iL len len lo hi).map fun (l,h)=>.rs id (off+l*n) (h - l) jc else none
    | _=>none
  | _=>none
def dR (h:AHeap)(size:Nat)(x:AV):Option (List AV × Nat):=
 match x with
 | .nils=>some ([],0)
 | .fz cs n _=>if cs.length=n*size then some (cs,n) else none
 | .rs id off len jc=>if id=0 then (if len=0 then some ([],0) else none) else (h.get id).bind fun
  | .cells cs=>if jc=size∧off+len*size≤cs.length then some ((cs.drop off).take (len*size),len) else none
  | _=>none
 | .str s=>if size=1 then some (s.data.toList.map fun b=>.int .u8 b.toNat,s.size) else none
 | _=>none
def fG:Nat:=1099511627776
def jU (t2:TypeId)(x:AV):Bool:=
 match x with
 | .str _=>(P.underlying t2 matches some .string)
 | _=>(P.underlying t2 matches some (.slice _))
def KI (i:TypeInfo):Bool:=match i.zero.bind Fa with | some z=>z.cells.length==i.size | none=>false
def nV:AV→AV
 | .nils=>.fz [] 0 false
 | x=>x
def eV (h:AHeap)(size:Nat)(x:AV):Option (List AV × Nat):=(dR h size x).map fun p=>(p.1.map nV,p.2)
def eJ (h:AHeap)(t t2:TypeId)(s x:AV):Option (AV × AHeap):=
 (P.underlying t).bind fun
  | .slice e=>(P.info? e).bind fun i=>
   (eV h i.size x).bind fun (new,n)=>
    if i.size=0∨jU P t2 x=false∨KI i=false then none else
    match s with
    | .nils=>if n*i.bytes > fG∨n > fG then none else if n=0 then some (.rs 0 0 0 i.size,h) else some (.rs h.next 0 n i.size,h.alloc (.cells new))
    | .fz cs len true=>if (len+n)*i.bytes > fG∨len+n > fG∨cs.length≠len*i.size then none else if n=0 then (if len=0 then some (.rs 0 0 0 i.size,h) else some (s,h)) else some (.rs h.next 0 (len+n) i.size,h.alloc (.cells (cs++new)))
    | .rs id off len jc=>if id=0 then (if n*i.bytes > fG∨n > fG∨jc≠i.size then none else if n=0 then some (s,h) else some (.rs h.next 0 n i.size,h.alloc (.cells new))) else (h.get id).bind fun
     | .cells cs=>if jc≠i.size∨off+len*jc > cs.length∨(len+n)*i.bytes > fG∨len+n > fG then none else
       if n=0 then some (s,h) else some (.rs h.next 0 (len+n) jc,(h.kill id).put h.next (.cells ((cs.drop off).take (len*jc)++new)))
     | _=>none
    | _=>none
  | _=>none
def ji:AV→AV→Bool
 | .int k a,.int l b=>k==l&&a==b
 | .str a,.str b=>a.data.toList==b.data.toList
 | .bool a,.bool b=>a==b
 | _,_=>false
def mr:List AV→List AV→Bool
 | [],[]=>true
 | x::xs,y::ys=>ji x y&&mr xs ys
 | _,_=>false
def gd:AV→AV→Bool
 | .agg xs,.agg ys=>mr xs ys
 | x,y=>ji x y
def km:AV→Bool
 | .int .i64 _=>true
 | _=>false
def gf (t:TypeId)(k:AV):Bool:=
 match P.underlying t,k with
 | some (.int q),.int k _=>q==k
 | some .string,.str _=>true
 | some (.array n e),.agg cs=>cs.length==n&&cs.all km&&(P.underlying e matches some (.int .i64))&&ez P e==some 1
 | some (.struct fs), .agg cs => cs.length == fs.size && cs.all km && fs.toList.zipIdx.all (fun (f, i) => f.name != "_" && f.offset == i && (P.underlying f.type matches some (.int .i64)) && ez P f.type == some 1) && !P.stoodInHeld t
 | _,_=>false
def sameShape:AV→AV→Bool
 | .int k _,.int l _=>k==l
 | .str _,.str _=>true
 | .agg xs,.agg ys=>xs.length==ys.length&&xs.all km&&ys.all km
 | _,_=>false
def iM (k:AV):List (AV × AV)→Option (Option AV)
 | []=>some none
 | (k',v)::es=>if sameShape k k' then (if gd k k' then some (some v) else iM k es) else none
def wR (k v:AV):List (AV × AV)→Option (List (AV × AV))
 | []=>some [(k,v)]
 | (k',v')::es=>if sameShape k k' then (if gd k k' then some ((k,v)::es) else (wR k v es).map ((k',v') :: ·)) else none
def fL (h:AHeap)(t:TypeId)(m k:AV)(ok:Bool):Option AV:=
 (P.underlying t).bind fun
  | .map kt et=>if gf P kt k=false then none else
   (match m with
    | .nT=>some []
    | .mp id=>(h.get id).bind fun | .map es=>some es | _=>none
    | _=>none).bind fun es=>
   (iM k es).bind fun
   | some v=>some (if ok then .tup [v,.bool true] else v)
   | none=>(jT P et).map fun z=>if ok then .tup [z,.bool false] else z
  | _=>none
def iN (h:AHeap)(t:TypeId)(m k v:AV):Option AHeap:=
 (P.underlying t).bind fun
  | .map kt _=>if gf P kt k=false∨v.lW=false then none else
   match m with
   | .mp id=>(h.get id).bind fun | .map es=>(wR k v es).map fun rj=>h.put id (.map rj) | _=>none
   | _=>none
  | _=>none
def sR (h:AHeap)(t:TypeId)(x:AV):Option AV:=
 (P.underlying t).bind fun
  | .slice _=>match x with
   | .nils=>some (.int .i64 0)
   | .fz _ n _=>some (.int .i64 n)
   | .rs _ _ n _=>some (.int .i64 n)
   | _=>none
  | .string=>match x with
   | .str s=>some (.int .i64 s.size)
   | _=>none
  | .map _ _=>match x with
   | .nT=>some (.int .i64 0)
   | .mp id=>(h.get id).bind fun | .map es=>some (.int .i64 es.length) | _=>none
   | _=>none
  | _=>none
def vF (h:AHeap)(t t2:TypeId)(d x:AV):Option (AV × AHeap):=
 (P.underlying t).bind fun
  | .slice e=>(P.info? e).bind fun i=>(dR h i.size x).bind fun (new,m)=>
   if jU P t2 x=false then none else
   match d with
   | .rs id off len jc=>if id=0 then (if m=0 then some (.int .i64 0,h) else none) else (h.get id).bind fun
    | .cells cs=>if jc=i.size∧m≤len∧off+m*i.size≤cs.length then some (.int .i64 m,h.put id (.cells (dE cs off new))) else none
    | _=>none
   | .nils=>if m=0 then some (.int .i64 0,h) else none
   | _=>none
  | _=>none
def sS (h:AHeap)(t:TypeId)(x:AV):Option AHeap:=
 (P.underlying t).bind fun _=>match x with
 | .nT=>some h
 | .mp id=>(h.get id).bind fun | .map _=>some (h.put id (.map [])) | _=>none
 | _=>none
def gD (h:AHeap)(t:TypeId)(l c:AV):Option (AV × AHeap):=
 match l,c with
 | .int .i64 l,.int .i64 c=>
  (P.underlying t).bind fun
   | .slice e=>(P.info? e).bind fun i=>(jT P e).bind fun z=>
    if 0≤l∧l≤c∧c*i.bytes≤fG∧z.cells.length=i.size∧i.size≠0∧c≤1099511627776∧z.cells.all AV.cK then some (.rs h.next 0 l.toNat i.size,h.alloc (.cells (lX z.cells l.toNat))) else none
   | _=>none
 | _,_=>none
def Il:List AV→Option (List UInt8)
 | []=>some []
 | .int .u8 n::xs=>(Il xs).map fun l=>ZX n.toNat::l
 | _::_=>none
def DA (e:TypeId):Bool:=(P.underlying e matches some (.int .u8))&&ez P e==some 1
def ib (h:AHeap)(src dst:TypeId)(x:AV):Option AV:=
 match P.underlying src,P.underlying dst with
 | some (.slice e),some .string=>if DA P e then (dR h 1 x).bind fun (cs,_)=>(Il cs).map fun l=>.str ⟨l.toArray⟩ else none
 | some .string,some (.slice e)=>match x with
  | .str s=>if DA P e then some (.fz (s.data.toList.map fun b=>.int .u8 b.toNat) s.size false) else none
  | _=>none
 | some (.slice _),some (.slice e)=>match x with
  | .fz cs n true=>if src==dst&&DA P e&&0<cs.length then some (.fz cs n true) else none
  | _=>none
 | _,_=>(x.fA).bind fun v=>(iK P (convert src dst v)).bind oI
def AI (op:BinOp)(x y:ByteArray):Option AV:=
 let a:=x.data.toList
 let b:=y.data.toList
 match op with
 | .add=>if x.size+y.size≤1099511627776 then some (.str (x++y)) else none
 | .eql=>some (.bool (a==b))
 | .neq=>some (.bool (!(a==b)))
 | .lss=>some (.bool (Op.bytesLess a b))
 | .leq=>some (.bool (Op.bytesLess a b||a==b))
 | .gtr=>some (.bool (!(Op.bytesLess a b||a==b)))
 | .geq=>some (.bool (!Op.bytesLess a b))
 | _=>none
def AJ:BinOp→Option Bool
 | .eql=>some true
 | .neq=>some false
 | _=>none
def jC (op:BinOp)(t:TypeId)(x y:AV):Option AV:=
 match x,y with
 | .str a,.str b=>AI op a b
 | .ptr ..,.rO | .rO,.ptr .. | .fp ..,.rO=>(AJ op).bind fun qa=>if (P.underlying t matches some (.pointer _)) then some (.bool (!qa)) else none
 | .fz (_::_) ..,.nils | .rs (_+1) ..,.nils=>(AJ op).bind fun qa=>if (P.underlying t matches some (.slice _)) then some (.bool (!qa)) else none
 | .agg _,.agg _=>(AJ op).bind fun qa=>if gf P t x&&gf P t y&&sameShape x y && !P.eqGuardType P.depth t then some (.bool (gd x y==qa)) else none
 | x,y=>(x.fA).bind fun a=>(y.fA).bind fun b=>(iK P (binOp op t a b)).bind oI
def lF (op:Value→Value→Sem Value):Value→List Value→Option Value
 | v,[]=>some v
 | v,x::xs=>(iK P (op v x)).bind fun u=>lF op u xs
structure RS where
 ρ:Nat→AV
 bx:Nat→Option (List AV)
 h:AHeap
def RS.set (s:RS)(d:Option Nat)(v:AV):RS:=
 match d with
 | none=>s
 | some d=>{s with ρ:=fun t=>bif Y5 t d then v else s.ρ t}
def RS.box (s:RS)(k:Nat)(cs:List AV):RS:={s with bx:=fun t=>bif Y5 t k then some cs else s.bx t}
abbrev CallF:=FuncId→List AV→AHeap→Option (AV × AHeap)
def sT (k:Nat)(ρ:Nat→AV):List Nat→Bool
 | []=>true
 | t::ts=>(match ρ t with | .lp j _=>j != k | _=>true)&&sT k ρ ts
def iw (s:RS)(aF ds:List Nat)(o:Oper)(cs:List AV):Option RS:=
 if cs.all AV.cK then
  match o.dst with
  | some d=>if aF.contains d then (if sT d s.ρ (ds.filter fun t=>!Nat.beq t d) then some ((s.box d cs).set (some d) (.lp d 0)) else none) else some ({s with h:=s.h.alloc (.cells cs)}.set (some d) (.ptr s.h.next 0))
  | none=>none
 else none
def sU:AV→Option Bool
 | .bool b=>some b
 | _=>none
def gE (s:RS)(o:Oper)(b:Builtin)(ts:List TypeId)(args:List AV):Option RS:=
 match b,ts,args with
 | .len,[t],[x]=>(sR P s.h t x).map fun v=>s.set o.dst v
 | .append,[t,t2],[x,y]=>(eJ P s.h t t2 x y).map fun (v,h)=>{s with h}.set o.dst v
 | .copy,[t,t2],[x,y]=>(vF P s.h t t2 x y).map fun (v,h)=>{s with h}.set o.dst v
 | .clear,[t],[x]=>(sS P s.h t x).map fun h=>{s with h}.set o.dst (.tup [])
 | .min,_,x::xs=>(x.fA).bind fun v=>(jg xs).bind fun vs=>(lF P Builtin.min2 v vs).bind fun u=>(oI u).map fun r=>s.set o.dst r
 | .max,_,x::xs=>(x.fA).bind fun v=>(jg xs).bind fun vs=>(lF P Builtin.max2 v vs).bind fun u=>(oI u).map fun r=>s.set o.dst r
 | _,_,_=>none
def ju (bx:Nat→Option (List AV))(h:AHeap)(t:TypeId)(x:AV):Option AV:=
 match x with
 | .lp k off=>(bx k).bind fun cs=>jh P t cs off
 | .fp cs off=>if cs.isEmpty then none else jh P t cs off
 | .ptr id off=>(h.get id).bind fun | .cells cs=>jh P t cs off | _=>none
 | _=>none
def qg:AV→Option AV
 | .ptr id off=>some (.ptr id off)
 | .lp k off=>some (.lp k off)
 | .fp cs off=>some (.fp cs off)
 | _=>none
def sV:AV→Nat→Option AV
 | .tup vs,i=>vs[i]?
 | _,_=>none
def nW (aF:List Nat)(o:Oper)(t:TypeId)(x:AV):Option (List AV × Nat × Nat):=
 match o.dst,x with
 | some d,.fz (c::cs) n true=>bif aF.contains d then (match P.underlying t with
   | some (.slice e)=>match ez P e with
    | some z=>bif Y5 (c::cs).length (n*z) then some (c::cs,n,z) else none
    | none=>none
   | _=>none) else none
 | _,_=>none
def qh (aF:List Nat)(s:RS)(o:Oper)(t:TypeId)(x:AV):RS:=
 match nW P aF o t x with
 | none=>s.set o.dst x
 | some (cs,n,z)=>{s with h:=s.h.alloc (.cells cs)}.set o.dst (.rs s.h.next 0 n z)
def JW:List Nat→Nat→Nat
 | [],_=>0
 | k::ks,d=>bif Y5 (k % 1000000) d&&Nat.ble 1000000 k then k / 1000000 else JW ks d
def Iz (n:Nat):AV→AV
 | .nils=>.rs 0 0 0 n
 | x=>x
def DB (aF:List Nat)(d:Option Nat)(cs:List AV):List AV:=
 match d with
 | none=>cs
 | some d=>match JW aF d with
  | 0=>cs
  | n=>cs.map (Iz n)
def AK (cf:CallF)(aF ds:List Nat)(e:Operand→AV)(s:RS)(o:Oper):Option RS:=
 let v (r:Option AV):Option RS:=r.map fun x=>s.set o.dst x
 match o.op with
 | .move x | .assign x=>some (s.set o.dst (e x))
 | .pick c a b=>(sU (e c)).map fun t=>s.set o.dst (if t then e a else e b)
 | .alloc t=>(jT P t).bind fun z=>iw s aF ds o (DB aF o.dst z.cells)
 | .box _ x=>iw s aF ds o (e x).cells
 | .build t ps=>v (AG P t (ps.toList.map fun (i,x)=>(i,e x)))
 | .buildSlice t n ps=>(gC P t n (ps.toList.map fun (i,x)=>(i,e x))).map fun x=>qh P aF s o t x
 | .load t a=>v (ju P s.bx s.h t (e a))
 | .store t a x=>if o.dst.isSome then none else
  match e a with
  | .lp k off=>(s.bx k).bind fun cs=>(gR P t cs off (e x)).map fun fF=>s.box k fF
  | .ptr id off=>(s.h.get id).bind fun | .cells cs=>(gR P t cs off (e x)).map fun fF=>{s with h:=s.h.put id (.cells fF)} | _=>none
  | _=>none
 | .nilCheck x=>v (qg (e x))
 | .binOp op t x y _=>v (jC P op t (e x) (e y))
 | .unOp op _ x=>v ((e x).fA.bind fun a=>(iK P (Op.unary op a)).bind oI)
 | .convert a b x=>v (ib P s.h a b (e x))
 | .makeFunc (.func f) first cap=>if first.isEmpty∧(cap.toList.map e).all AV.cK then v (some (.fn f (cap.toList.map e))) else none
 | .makeMap _ none=>some ({s with h:=s.h.alloc (.map [])}.set o.dst (.mp s.h.next))
 | .makeSlice t l c=>(gD P s.h t (e l) (e c)).map fun (x,h)=>{s with h}.set o.dst x
 | .slice t x lo hi mx=>v (eR P t (e x) (lo.map e) (hi.map e) (mx.map e))
 | .fieldAddr t x f=>v (nU P t (e x) f)
 | .field t x f=>v (AH P t (e x) f)
 | .indexAddr t x i=>v (eC P t (e x) (e i))
 | .index t x i=>v (qf P t (e x) (e i))
 | .lookup t m k ok=>v (fL P s.h t (e m) (e k) ok)
 | .mapUpdate t m k x | .insert t m k x=>if o.dst.isSome then none else (iN P s.h t (e m) (e k) (e x)).map fun h=>{s with h}
 | .extract t i=>v (sV (e t) i)
 | .call {callee:=.builtin b,args,argTypes}=>gE P s o b argTypes.toList (args.toList.map e)
 | .call {callee:=.value f,args,..}=>
  match e f with
  | .fn f cap=>let as:=args.toList.map e
    if as.all AV.lW then (cf f (as++cap) s.h).map fun (r,h)=>{s with h}.set o.dst r else none
  | _=>none
 | _=>none
def wS (cf:CallF)(aF ds:List Nat)(s:RS)(o:Oper):Option RS:=AK P cf aF ds (bS s.ρ) s o
def gS (ops:List Oper)(ρ:Nat→AV)(o:Oper):Option Bool:=
 match o.guard with
 | none=>some true
 | some (j,want)=>((ops[j]?).bind (·.dst)).bind fun d=>match ρ d with
  | .bool b=>some (b==want)
  | .tup []=>some false
  | _=>none
def mw (cf:CallF)(aF:List Nat)(ops:List Oper)(s:RS)(o:Oper):Option RS:=
 (gS ops s.ρ o).bind fun w=>if w then wS P cf aF (ops.filterMap (·.dst)) s o else some (s.set o.dst (.tup []))
def rP (cf:CallF)(aF:List Nat)(ops:List Oper):RS→List Oper→Option RS
 | s,[]=>some s
 | s,o::os=>(mw P cf aF ops s o).bind fun s'=>rP cf aF ops s' os
end
structure kL where
 rb:List Nat:=[]
 wb:Option Nat:=none
 rh:List Nat:=[]
 wh:Bool:=false
 al:Bool:=false
def a8 (aF:List Nat)(e:Operand→AV)(o:Oper):kL:=
 match o.op with
 | .alloc _ | .box _ _=>match o.dst with
  | some d=>if aF.contains d then {wb:=some d,al:=true} else {wh:=true}
  | none=>{}
 | .load _ a=>match e a with
  | .lp k _=>{rb:=[k]}
  | .ptr id _=>{rh:=[id]}
  | _=>{}
 | .store _ a _=>match e a with
  | .lp k _=>{rb:=[k],wb:=some k}
  | _=>{wh:=true}
 | .convert _ _ x=>match e x with
  | .rs id _ _ _=>{rh:=[id]}
  | _=>{}
 | .lookup _ m _ _=>match e m with
  | .mp id=>{rh:=[id]}
  | _=>{}
 | .buildSlice _ _ _=>match o.dst with
  | some d=>if aF.contains d then {wh:=true} else {}
  | none=>{}
 | .makeMap _ _ | .makeSlice _ _ _ | .mapUpdate _ _ _ _ | .insert _ _ _ _=>{wh:=true}
 | .call {callee:=.builtin b,args,..}=>match b,args.toList.map e with
  | .len,[.mp id]=>{rh:=[id]}
  | .len,_ | .min,_ | .max,_=>{}
  | _,_=>{wh:=true}
 | .call _=>{wh:=true}
 | _=>{}
structure su where
 o:Oper
 f:kL
 s:RS
 s':RS
def su.out (e:su):AV:=
 match e.o.dst with
 | some d=>e.s'.ρ d
 | none=>.any
def kL.quiet (f:kL):Bool:=f.rb.isEmpty&&f.wb.isNone&&f.rh.isEmpty && !f.wh
def KJ (k:Nat):AV→Bool
 | .lp j _=>j==k
 | _=>false
def su.qi (x y:su):Bool:=
 (match x.f.wb with
  | some k=>!y.f.rb.contains k&&y.f.wb != some k
  | none=>true) &&
 (!x.f.wh||(!y.f.wh&&y.f.rh.all fun id=>Y5 (x.s.h.ver id) (x.s'.h.ver id)))
def jV:List Nat→List Oper→List Nat
 | acc,[]=>acc
 | acc,o::os=>jV (acc++[o.after.toList.foldl (fun m e=>bif Region.binds .any e then m ||| (2 ^ e.on ||| acc.getD e.on 0) else m) 0]) os
def wT (ops:Array Oper)(x y:Oper):Bool:=
 (match x.dst with
  | some d=>!(y.looksAt ops).contains d&&y.dst != some d
  | none=>true)
def sv:Nat→List Oper→Bool
 | _,[]=>true
 | k,o::os=>o.after.toList.all (fun e=>!Region.binds .any e||Nat.blt e.on k)&&sv (k+1) os
def oJ {α:Type}(p:Nat→α→Nat→α→Bool):Nat→List α→Bool
 | _,[]=>true
 | i,x::xs=>(xs.zipIdx (i+1)).all (fun (y,j)=>p i x j y)&&oJ p (i+1) xs
def qm (ops:Array Oper)(ms:List Nat):Bool:=
 sv 0 ops.toList &&
 oJ (fun i x j y=>(ms.getD j 0).testBit i||(wT ops x y&&wT ops y x)) 0 ops.toList
def qn (P:Program)(cf:CallF)(aF:List Nat)(ops:List Oper):RS→List Oper→Option (List su × RS)
 | s,[]=>some ([],s)
 | s,o::os=>
  (gS ops s.ρ o).bind fun w=>
   (if w then wS P cf aF (ops.filterMap (·.dst)) s o else some (s.set o.dst (.tup []))).bind fun s1=>
    (qn P cf aF ops s1 os).map fun (l,r)=>({o,f:=if w then a8 aF (bS s.ρ) o else {},s,s':=s1}::l,r)
def wU (ms:List Nat)(ds:List Nat)(s0:RS)(es:List (su × Nat))(x:su)(i:Nat):Bool:=
 match x.f.al,x.o.dst with
 | true,some d=>sT d s0.ρ (ds.filter fun t=>!Nat.beq t d)&&es.all fun (y,j)=>Y5 i j||(ms.getD j 0).testBit i || !KJ d y.out
 | _,_=>true
def lG (P:Program)(cf:CallF)(aF:List Nat)(ops:Array Oper)(s:RS):Option RS:=
 let ms:=jV [] ops.toList
 if qm ops ms then
  (qn P cf aF ops.toList s ops.toList).bind fun (es,r)=>
   let is:=es.zipIdx
   let Fb:=is.filter fun (x,_)=>!x.f.quiet
   if Fb.all (fun (x,i)=>wU ms (ops.toList.filterMap (·.dst)) s is x i&&Fb.all fun (y,j)=>Nat.ble j i||(ms.getD j 0).testBit i||(x.qi y&&y.qi x)) then some r else none
 else none
structure St where
 vars:List AV
 MU:List (Option (List AV))
 h:AHeap
inductive Ex where
 | norm
 | exit (id:Nat)
 | ret
def look {α:Type}(d:α):List Nat→List α→Nat→α
 | k::ks,v::vs,t=>bif Y5 t k then v else look d ks vs t
 | _,_,_=>d
structure cm where
 gz:List Nat
 aF:List Nat
 dead:List (Nat × List Nat):=[]
 oK:List (Nat × List (Nat × Option Nat × Nat)):=[]
 DC:List (Nat × List (Nat × Option Nat × Nat)):=[]
def gF {α:Type}(r:Nat):List (Nat × List α)→List α
 | []=>[]
 | (k,l)::ks=>bif Y5 k r then l else gF r ks
def St.open (A:cm)(s:St):RS:={ρ:=look AV.any A.gz s.vars,bx:=look (none:Option (List AV)) A.aF s.MU,h:=s.h}
def yC (aF:List Nat)(ρ:Nat→AV)(t:Nat):AV:=
 match ρ t with
 | .lp k off=>bif Y5 k t&&Y5 off 0&&aF.contains k then .lp k off else .any
 | v=>v
def RS.shut (A:cm)(s:RS):St:={vars:=A.gz.map (yC A.aF s.ρ),MU:=A.aF.map s.bx,h:=s.h}
def RS.nD (A:cm)(r:Nat)(s:RS):St:=
 match gF r A.dead with
 | []=>s.shut A
 | ds=>{vars:=A.gz.map (fun t=>bif ds.contains t then .any else yC A.aF s.ρ t),MU:=A.aF.map (fun k=>bif ds.contains k then none else s.bx k),h:=s.h}
def DD (h:AHeap)(x:AV):Option (AV × AHeap):=
 if x.dX then some (x,h) else
 match x with
 | .rs id off len jc=>if id=0 then (if len=0 then some (.fz [] 0 false,h) else none) else (h.get id).bind fun
  | .cells cs=>if off+len*jc≤cs.length∧cL ((cs.drop off).take (len*jc))=true then some (.fz ((cs.drop off).take (len*jc)) len false,h.kill id) else none
  | _=>none
 | _=>none
def wV (h:AHeap):List AV→Option (List AV × AHeap)
 | []=>some ([],h)
 | x::xs=>(DD h x).bind fun a=>(wV a.2 xs).map fun b=>(a.1::b.1,b.2)
def kM (k:Nat)(h:AHeap)(x:AV):Option (AV × AHeap):=
 match k with
 | 0=>
  match x with
  | .nils=>some (.fz [] 0 false,h)
  | .rs id off len jc=>if id=0 then (if len=0 then some (.fz [] 0 false,h) else none) else (h.get id).bind fun
   | .cells cs=>if off+len*jc≤cs.length then (wV (h.kill id) ((cs.drop off).take (len*jc))).map fun r=>(.fz r.1 len false,r.2) else none
   | _=>none
  | .fz cs n _=>some (.fz cs n false,h)
  | _=>none
 | k+1=>
  match x with
  | .nils=>some (.rs 0 0 0 (k+1),h)
  | .fz [] 0 true=>some (.rs 0 0 0 (k+1),h)
  | .rs id off len jc=>some (.rs id off len jc,h)
  | _=>none
def wW (s:RS)(p:Nat × Option Nat × Nat):Option RS:=
 match p.2.1 with
 | none=>(kM p.2.2 s.h (s.ρ p.1)).map fun (y,h)=>{s with h:=h,ρ:=fun t=>bif Y5 t p.1 then y else s.ρ t}
 | some i=>
  match s.bx p.1 with
  | some cs=>(cs[i]?).bind fun x=>(kM p.2.2 s.h x).map fun (y,h)=>{s with h:=h,bx:=fun k=>bif Y5 k p.1 then some (cs.set i y) else s.bx k}
  | none=>none
def lH (s:RS):List (Nat × Option Nat × Nat)→Option RS
 | []=>some s
 | p::ps=>(wW s p).bind fun s=>lH s ps
def kN (f:St→Option (Ex × St)):Nat→St→Option (Ex × St)
 | 0,_=>none
 | n+1,s=>(f s).bind fun
  | (.norm,s')=>kN f n s'
  | r=>some r
def bN (P:Program)(cf:CallF)(A:cm)(n:Nat):Code→St→Option (Ex × St)
 | .skip,s=>some (.norm,s)
 | .label _,s=>some (.norm,s)
 | .ret,s=>some (.ret,s)
 | .exit id,s=>some (.exit id,s)
 | .seq a b,s=>(bN P cf A n a s).bind fun
  | (.norm,s')=>bN P cf A n b s'
  | r=>some r
 | .cond c x y,s=>(sU (bS (s.open A).ρ c)).bind fun t=>if t then bN P cf A n x s else bN P cf A n y s
 | .block id body,s=>(bN P cf A n body s).map fun
  | (.exit i,s')=>(if i=id then .norm else .exit i,s')
  | r=>r
 | .loop body,s=>kN (bN P cf A n body) n s
 | .region r ops draw,s=>(lH (s.open A) (gF r A.oK)).bind fun s=>((if draw then lG P cf A.aF ops s else rP P cf A.aF ops.toList s ops.toList)).bind fun s'=>(lH s' (gF r A.DC)).map fun s'=>(.norm,s'.nD A r)
 | _,_=>none
def AL (P:Program)(s:RS):List ResultVar→Option (List AV)
 | []=>some []
 | .tmp t::rs=>(AL P s rs).map fun l=>s.ρ t::l
 | .cell a t::rs=>(ju P s.bx s.h t (s.ρ a)).bind fun v=>(AL P s rs).map fun l=>v::l
def aH (P:Program)(s:RS)(rs:List ResultVar):Option AV:=
 (AL P s rs).bind fun l=>if l.all AV.lW then (match l with | [v]=>some v | l=>some (.tup l)) else none
def my (gz:List Nat)(args:List AV):List AV:=gz.map fun t=>args.getD t AV.any
mutual
def cq (h:AHeap):Nat→AV→Option AV
 | 0,_=>none
 | n+1,x=>
  match x with
  | .ptr id off=>(h.get id).bind fun | .cells cs=>(bO h n cs).map fun fF=>.fp fF off | _=>none
  | .rs id off len jc=>if id=0 then (if len=0 then some (.fz [] 0 false) else none) else (h.get id).bind fun | .cells cs=>if off+len*jc≤cs.length then (bO h n ((cs.drop off).take (len*jc))).map fun fF=>.fz fF len false else none | _=>none
  | .agg cs=>(bO h n cs).map .agg
  | .tup cs=>(bO h n cs).map .tup
  | x=>if x.dX then some x.kj else none
def bO (h:AHeap):Nat→List AV→Option (List AV)
 | 0,_=>none
 | _+1,[]=>some []
 | n+1,x::xs=>(cq h n x).bind fun y=>(bO h n xs).map fun ys=>y::ys
end
mutual
def fM (h:AHeap):Nat→AV→Option AV
 | 0,_=>none
 | n+1,x=>
  match x with
  | .bool b=>some (.bool b)
  | .int k v=>some (.int k v)
  | .str s=>some (.str s)
  | .rO=>some .rO
  | .nT=>some .nT
  | .sP=>some .sP
  | .nils=>some (.fz [] 0 false)
  | .fz [] 0 _=>some (.fz [] 0 false)
  | .rs id off len jc=>if id=0 then (if len=0 then some (.fz [] 0 false) else none) else (h.get id).bind fun | .cells cs=>if off+len*jc≤cs.length then (db h n ((cs.drop off).take (len*jc))).map fun fF=>.fz fF len false else none | _=>none
  | .agg cs=>(db h n cs).map .agg
  | .tup cs=>(db h n cs).map .tup
  | _=>none
def db (h:AHeap):Nat→List AV→Option (List AV)
 | 0,_=>none
 | _+1,[]=>some []
 | n+1,x::xs=>(fM h n x).bind fun y=>(db h n xs).map fun ys=>y::ys
end
def bH:AHeap:={get:=fun _=>none,ver:=fun _=>0,next:=1}
def ay (x:AV):AV:=bif x.dX then x.kj else x
def be (P:Program)(aU:FuncId→cm)(cf:CallF)(m:Nat)(f:FuncId)(args:List AV)(h:AHeap):Option (AV × AHeap):=
 (P.funcs[f]?).bind fun fn=>fn.body.bind fun c=>
  if args.length≤fn.ntmps then
   (bN P cf (aU f) m c {vars:=my (aU f).gz args,MU:=(aU f).aF.map fun _=>none,h}).bind fun
    | (.norm,s) | (.ret,s)=>(aH P (s.open (aU f)) fn.results.toList).map fun r=>(r,s.h)
    | _=>none
  else none
structure oL where
 aU:FuncId→cm
 intr:FuncId→Option (List AV→AHeap→Option (AV × AHeap))
 pure:FuncId→Option Nat
def eX (P:Program)(T:oL)(m:Nat):Nat→CallF
 | 0=>fun _ _ _=>none
 | n+1=>fun f args h=>
  match T.intr f with
  | some g=>g args h
  | none=>
   match T.pure f with
   | some deep=>if cL args then (be P T.aU (eX P T m n) m f (dB args) bH).bind fun x=>(cq x.2 deep x.1).map fun r=>(r,h) else
     match bO h deep args with
     | some as=>(be P T.aU (eX P T m n) m f as bH).bind fun x=>(fM x.2 deep x.1).map fun r=>(r,h)
     | none=>be P T.aU (eX P T m n) m f (args.map ay) h
   | none=>be P T.aU (eX P T m n) m f (args.map ay) h
end Go.R
namespace Go.R
open Go
structure Steady (h h':AHeap):Prop where
 next:h.next≤h'.next
 gz:∀id,(h'.ver id=h.ver id∧h'.get id=h.get id)∨h.next≤h'.ver id
 wf:(∀id,h.ver id<h.next)→∀id,h'.ver id<h'.next
theorem Steady.refl (h:AHeap):Steady h h:=⟨Yn _,fun _=>.inl ⟨rfl,rfl⟩,fun h=>h⟩
theorem Steady.trans {h h' TN:AHeap}(a:Steady h h')(b:Steady h' TN):Steady h TN:=
 ⟨Y0 a.next b.next,fun id=>by
  rcases b.gz id with⟨h1,h2⟩| h1
  ·rcases a.gz id with⟨h3,h4⟩| h3
   ·exact .inl ⟨h1.trans h3,h2.trans h4⟩
   ·exact .inr (by rw [h1]; exact h3)
  ·exact .inr (Y0 a.next h1),fun h=>b.wf (a.wf h)⟩
theorem beq_nat (a b:Nat):Y5 a b=decide (a=b):=by
 by_cases h:a=b
 ·subst h; simp
 ·cases hb:Y5 a b with
  | true=>exact absurd (ZA hb) h
  | false=>simp [h]
theorem Steady.put (h:AHeap)(id:Nat)(o:AObj):Steady h (h.put id o):=by
 refine⟨Zr _,fun i=>?_,fun hw i=>?_⟩
 ·by_cases hi:i=id
  ·right; simp [AHeap.put,beq_nat,hi]
  ·left; simp [AHeap.put,beq_nat,hi]
 ·have:=hw i
  by_cases hi:i=id
  ·simp [AHeap.put,beq_nat,hi]
  ·simp only [AHeap.put,beq_nat,hi,decide_false,cond_false]; omega
theorem Steady.kill (h:AHeap)(id:Nat):Steady h (h.kill id):=by
 refine⟨Zr _,fun i=>?_,fun hw i=>?_⟩
 ·by_cases hi:i=id
  ·right; simp [AHeap.kill,beq_nat,hi]
  ·left; simp [AHeap.kill,beq_nat,hi]
 ·have:=hw i
  by_cases hi:i=id
  ·simp [AHeap.kill,beq_nat,hi]
  ·simp only [AHeap.kill,beq_nat,hi,decide_false,cond_false]; omega
structure Cx where
 β:Nat→Nat × Nat
 h:AHeap
 w:World
 base:Nat
def Live (h:AHeap)(id:Nat):Prop:=id<h.next∧(h.get id).isSome=true
def RO (c:Cx)(L:Nat→Prop)(b:Nat):Prop:=(∀id,Live c.h id→(c.β id).1≠b)∧¬L b
def Cx.len (c:Cx)(b:Nat):Nat:=((c.w.shape? b).map (·.2)).getD 0
mutual
def VR (c:Cx)(L:Nat→Prop):AV→Value→Prop
 | .any,_=>True
 | .bool b,v=>v = .bool b
 | .int k n,v=>v = .int k n
 | .str s,v=>v = .string s
 | .rO,v=>v = .pointer none
 | .ptr id off,v=>id<c.h.next∧∃a,v = .pointer (some a)∧(Live c.h id→a=⟨(c.β id).1,(c.β id).2+off,none⟩)
 | .lp _ _,_=>False
 | .fp cs off,v=>∃b o,v = .pointer (some ⟨b,o+off,none⟩)∧(cs=[]∨(RO c L b∧Cells c L cs b o))
 | .nils,v=>v = .slice none 0 0
 | .fz cs n ex,v=>∃a cap,v = .slice a n cap∧n≤cap∧(ex=true→cap=n)∧(a.isSome=true∨cs=[]∧cap=0)∧(cs=[]∨∃b o,a=some ⟨b,o,none⟩∧RO c L b∧(ex=true→c.base≤b)∧Cells c L cs b o)
 | .rs id off len jc,v=>(id=0∧off=0∧len=0∧∃a,v = .slice a 0 0)∨id≠0∧id<c.h.next∧∃a cap,v = .slice a len cap∧len≤cap∧a.isSome=true∧(Live c.h id→(a=some ⟨(c.β id).1,(c.β id).2+off,none⟩∧(c.β id).2+off+cap*jc=c.len (c.β id).1)∨cap=0)
 | .nT,v=>v = .map none
 | .mp id,v=>id<c.h.next∧∃r,v = .map (some r)∧(Live c.h id→r=(c.β id).1)
 | .fn f cap,v=>∃vs:Array Value,v = .func (.func f) #[] vs∧VRs c L cap vs.toList
 | .sP,v=>v = .nilFunc
 | .agg cs,v=>∃vs:Array Value,v = .agg vs∧VRs c L cs vs.toList
 | .tup cs,v=>∃vs:Array Value,v = .tuple vs∧VRs c L cs vs.toList
def VRs (c:Cx)(L:Nat→Prop):List AV→List Value→Prop
 | [],[]=>True
 | x::xs,v::vs=>VR c L x v∧VRs c L xs vs
 | _,_=>False
def Cells (c:Cx)(L:Nat→Prop):List AV→Nat→Nat→Prop
 | [],_,_=>True
 | x::xs,b,o=>(∃v,c.w.cell? ⟨b,o,none⟩=some v∧v.oneCell'=true∧VR c L x v)∧Cells c L xs b (o+1)
end
def iO (w w':World)(b:Nat):Prop:=
 w'.heap[b]? = w.heap[b]?∨∃(C:Array Value) (e lo hi Im lY:Nat),w.heap[b]? = some (.cells C e (lo,hi))∧w'.heap[b]? = some (.cells C e (Im,lY))∧((lo=hi∨C.size≤lo)→(Im=lY∨C.size≤Im))
theorem iO.trans {w w' w'':World}{b:Nat}(h:iO w w' b)(k:iO w' w'' b):iO w w'' b:=by
 rcases h with h | ⟨C,e,lo,hi,Im,lY,h1,h2,h3⟩<;>rcases k with k | ⟨C',e',l1,i1,l2,i2,k1,k2,k3⟩
 ·exact .inl (k.trans h)
 ·exact .inr ⟨C',e',l1,i1,l2,i2,h ▸ k1,k2,k3⟩
 ·exact .inr ⟨C,e,lo,hi,Im,lY,h1,k.trans h2,h3⟩
 ·rw [h2] at k1
  simp only [Ym,Obj.cells.injEq,Yr] at k1
  obtain⟨rfl,rfl,rfl,rfl⟩:=k1
  exact .inr ⟨C,e,lo,hi,l2,i2,h1,k2,fun x=>k3 (h3 x)⟩
theorem iO.cell {w w':World}{b:Nat}(h:iO w w' b)(o:Nat):w'.cell? ⟨b,o,none⟩=w.cell? ⟨b,o,none⟩:=by
 rcases h with h | ⟨C,e,lo,hi,Im,lY,h1,h2,_⟩
 ·simp only [World.cell?,h]
 ·simp only [World.cell?,h1,h2]
structure Ext (c:Cx)(Lo:Nat→Prop)(c':Cx)(jK:Nat→Prop):Prop where
 next:c.h.next≤c'.h.next
 live:∀id,id<c.h.next→Live c'.h id→Live c.h id∧c'.β id=c.β id∧c'.len (c.β id).1=c.len (c.β id).1
 size:c.w.heap.size≤c'.w.heap.size
 gz:∀b,b<c.w.heap.size→¬Lo b→(∀id,Live c.h id→(c.β id).1≠b)→iO c.w c'.w b
 exact:∀b,b<c.base→c'.w.heap[b]? = c.w.heap[b]?
 base:c'.base=c.base
 JX:∀id,Live c'.h id→c.w.heap.size≤(c'.β id).1∨∃rl,Live c.h rl∧(c.β rl).1=(c'.β id).1
 own:∀b,Lo b→jK b
 grow:∀b,jK b→Lo b∨c.w.heap.size≤b
 os:c'.w.os=c.w.os
 tape:c'.w.tape=c.w.tape
 output:c'.w.output=c.w.output
theorem Ext.refl (c:Cx)(Lo:Nat→Prop):Ext c Lo c Lo:=
 ⟨Yn _,fun _ _ h=>⟨h,rfl,rfl⟩,Yn _,fun _ _ _ _=>.inl rfl,fun _ _=>rfl,rfl,fun id h=>.inr ⟨id,h,rfl⟩,fun _ h=>h,fun _ h=>.inl h,rfl,rfl,rfl⟩
theorem Ext.trans {c c' TO:Cx}{L L' TP:Nat→Prop}(h:Ext c L c' L')(k:Ext c' L' TO TP):Ext c L TO TP where
 next:=Y0 h.next k.next
 live:=fun id hi hl=>by
  obtain⟨l1,b1,s1⟩:=k.live id (YN hi h.next) hl
  obtain⟨l0,b0,s0⟩:=h.live id hi l1
  refine⟨l0,b1.trans b0,?_⟩
  rw [b0] at s1
  exact s1.trans s0
 size:=Y0 h.size k.size
 gz:=fun b hb hL hi=>by
  have e1:=h.gz b hb hL hi
  refine e1.trans (k.gz b (YN hb h.size) (fun Vz=>?_) (fun id hl he=>?_))
  ·rcases h.grow b Vz with h1 | h1
   ·exact hL h1
   ·omega
  ·rcases h.JX id hl with h1 | ⟨rl,h1,h2⟩
   ·omega
   ·exact hi rl h1 (h2.trans he)
 exact:=fun b hb=>(k.exact b (h.base ▸ hb)).trans (h.exact b hb)
 base:=k.base.trans h.base
 JX:=fun id hl=>by
  rcases k.JX id hl with h1 | ⟨VA,h1,h2⟩
  ·exact .inl (Y0 h.size h1)
  ·rcases h.JX VA h1 with h3 | ⟨rl,h3,h4⟩
   ·exact .inl (h2 ▸ h3)
   ·exact .inr ⟨rl,h3,h4.trans h2⟩
 own:=fun b hb=>k.own b (h.own b hb)
 grow:=fun b hb=>by
  rcases k.grow b hb with h1 | h1
  ·exact h.grow b h1
  ·exact .inr (Y0 h.size h1)
 os:=k.os.trans h.os
 tape:=k.tape.trans h.tape
 output:=k.output.trans h.output
def un (L0 Lo:Nat→Prop):Nat→Prop:=fun b=>L0 b∨Lo b
theorem sW {w w':World}{b:Nat}(h:w'.heap[b]? = w.heap[b]?)(o:Nat):w'.cell? ⟨b,o,none⟩=w.cell? ⟨b,o,none⟩:=by
 simp only [World.cell?,h]
theorem RO.ext {c c':Cx}{L0 Lo jK:Nat→Prop}{b:Nat}(h:RO c (un L0 Lo) b)(e:Ext c Lo c' jK)(hb:b<c.w.heap.size):RO c' (un L0 jK) b:=by
 refine⟨fun id hl he=>?_,fun hL=>?_⟩
 ·rcases e.JX id hl with h1 | ⟨rl,h1,h2⟩
  ·omega
  ·exact h.1 rl h1 (h2.trans he)
 ·rcases hL with h1 | h1
  ·exact h.2 (.inl h1)
  ·rcases e.grow b h1 with h2 | h2
   ·exact h.2 (.inr h2)
   ·omega
theorem Ext.cell {c c':Cx}{L0 Lo jK:Nat→Prop}{b:Nat}(e:Ext c Lo c' jK)(h:RO c (un L0 Lo) b)(hb:b<c.w.heap.size)(o:Nat):c'.w.cell? ⟨b,o,none⟩=c.w.cell? ⟨b,o,none⟩:=
 (e.gz b hb (fun h1=>h.2 (.inr h1)) h.1).cell o
theorem sX {c c':Cx}{Lo jK:Nat→Prop}(e:Ext c Lo c' jK){id:Nat}(hi:id<c.h.next):id<c'.h.next:=YN hi e.next
theorem jW {c:Cx}{L:Nat→Prop}{x:AV}{cs:List AV}{b o:Nat}(h:Cells c L (x::cs) b o):b<c.w.heap.size:=by
 obtain⟨⟨v,hv,_⟩,_⟩:=h
 exact World.block_lt_of_cell? c.w ⟨b,o,none⟩ hv
mutual
theorem VR.ext {c c':Cx}{L0 Lo jK:Nat→Prop}(e:Ext c Lo c' jK):∀(x:AV) (v:Value),VR c (un L0 Lo) x v→VR c' (un L0 jK) x v
 | .any,_,_=>trivial
 | .bool _,_,h=>h
 | .int _ _,_,h=>h
 | .str _,_,h=>h
 | .rO,_,h=>h
 | .ptr id off,v,h=>by
  simp only [VR] at h ⊢
  obtain⟨hi,a,rfl,ha⟩:=h
  refine⟨sX e hi,a,rfl,fun hl=>?_⟩
  obtain⟨l0,b0,_⟩:=e.live id hi hl
  rw [b0]
  exact ha l0
 | .lp _ _,_,h=>h
 | .fp cs off,v,h=>by
  simp only [VR] at h ⊢
  obtain⟨b,o,rfl,hc⟩:=h
  refine⟨b,o,rfl,?_⟩
  rcases hc with hc | ⟨hr,hc⟩
  ·exact .inl hc
  ·cases cs with
   | nil=>exact .inl rfl
   | cons x xs=>exact .inr ⟨hr.ext e (jW hc),Cells.ext e (x::xs) b o hr (jW hc) hc⟩
 | .nils,_,h=>h
 | .fz cs n ex,v,h=>by
  simp only [VR] at h ⊢
  obtain⟨a,cap,rfl,h1,h2,hs,hc⟩:=h
  refine⟨a,cap,rfl,h1,h2,hs,?_⟩
  rcases hc with hc | ⟨b,o,ha,hr,hex,hc⟩
  ·exact .inl hc
  ·cases cs with
   | nil=>exact .inl rfl
   | cons x xs=>exact .inr ⟨b,o,ha,hr.ext e (jW hc),by rw [e.base]; exact hex,Cells.ext e (x::xs) b o hr (jW hc) hc⟩
 | .rs id off len jc,v,h=>by
  simp only [VR] at h ⊢
  rcases h with h | h
  ·exact .inl h
  obtain⟨hz,hi,a,cap,rfl,h1,h3,h2⟩:=h
  refine .inr ⟨hz,sX e hi,a,cap,rfl,h1,h3,fun hl=>?_⟩
  obtain⟨l0,b0,s0⟩:=e.live id hi hl
  rw [b0,s0]
  exact h2 l0
 | .nT,_,h=>h
 | .mp id,v,h=>by
  simp only [VR] at h ⊢
  obtain⟨hi,r,rfl,h2⟩:=h
  refine⟨sX e hi,r,rfl,fun hl=>?_⟩
  obtain⟨l0,b0,_⟩:=e.live id hi hl
  rw [b0]
  exact h2 l0
 | .fn f cap,v,h=>by
  simp only [VR] at h ⊢
  obtain⟨vs,rfl,h1⟩:=h
  exact⟨vs,rfl,VRs.ext e cap vs.toList h1⟩
 | .sP,_,h=>h
 | .agg cs,v,h=>by
  simp only [VR] at h ⊢
  obtain⟨vs,rfl,h1⟩:=h
  exact⟨vs,rfl,VRs.ext e cs vs.toList h1⟩
 | .tup cs,v,h=>by
  simp only [VR] at h ⊢
  obtain⟨vs,rfl,h1⟩:=h
  exact⟨vs,rfl,VRs.ext e cs vs.toList h1⟩
theorem VRs.ext {c c':Cx}{L0 Lo jK:Nat→Prop}(e:Ext c Lo c' jK):∀(xs:List AV) (vs:List Value),VRs c (un L0 Lo) xs vs→VRs c' (un L0 jK) xs vs
 | [],[],_=>trivial
 | x::xs,v::vs,h=>⟨VR.ext e x v h.1,VRs.ext e xs vs h.2⟩
 | [],_::_,h=>h
 | _::_,[],h=>h
theorem Cells.ext {c c':Cx}{L0 Lo jK:Nat→Prop}(e:Ext c Lo c' jK):∀(xs:List AV) (b o:Nat),RO c (un L0 Lo) b→b<c.w.heap.size→Cells c (un L0 Lo) xs b o→Cells c' (un L0 jK) xs b o
 | [],_,_,_,_,_=>trivial
 | x::xs,b,o,hr,hb,h=>by
  obtain⟨⟨v,hv,h1,hx⟩,hs⟩:=h
  exact⟨⟨v,(e.cell hr hb o).trans hv,h1,VR.ext e x v hx⟩,Cells.ext e xs b (o+1) hr hb hs⟩
end
theorem RO.kD {c:Cx}{L L':Nat→Prop}(hL:∀b,L' b→L b){b:Nat}(h:RO c L b):RO c L' b:=⟨h.1,fun h1=>h.2 (hL b h1)⟩
mutual
theorem VR.kD {c:Cx}{L L':Nat→Prop}(hL:∀b,L' b→L b):∀(x:AV) (v:Value),VR c L x v→VR c L' x v
 | .any,_,_=>trivial
 | .bool _,_,h=>h
 | .int _ _,_,h=>h
 | .str _,_,h=>h
 | .rO,_,h=>h
 | .ptr id off,v,h=>h
 | .lp _ _,_,h=>h
 | .fp cs off,v,h=>by
  simp only [VR] at h ⊢
  obtain⟨b,o,rfl,hc⟩:=h
  exact⟨b,o,rfl,hc.imp id fun ⟨hr,hc⟩=>⟨hr.kD hL,Cells.kD hL cs b o hc⟩⟩
 | .nils,_,h=>h
 | .fz cs n ex,v,h=>by
  simp only [VR] at h ⊢
  obtain⟨a,cap,rfl,h1,h2,hs,hc⟩:=h
  exact⟨a,cap,rfl,h1,h2,hs,hc.imp id fun ⟨b,o,ha,hr,hex,hc⟩=>⟨b,o,ha,hr.kD hL,hex,Cells.kD hL cs b o hc⟩⟩
 | .rs id off len jc,v,h=>h
 | .nT,_,h=>h
 | .mp id,v,h=>h
 | .fn f cap,v,h=>by
  simp only [VR] at h ⊢
  obtain⟨vs,rfl,h1⟩:=h
  exact⟨vs,rfl,VRs.kD hL cap vs.toList h1⟩
 | .sP,_,h=>h
 | .agg cs,v,h=>by
  simp only [VR] at h ⊢
  obtain⟨vs,rfl,h1⟩:=h
  exact⟨vs,rfl,VRs.kD hL cs vs.toList h1⟩
 | .tup cs,v,h=>by
  simp only [VR] at h ⊢
  obtain⟨vs,rfl,h1⟩:=h
  exact⟨vs,rfl,VRs.kD hL cs vs.toList h1⟩
theorem VRs.kD {c:Cx}{L L':Nat→Prop}(hL:∀b,L' b→L b):∀(xs:List AV) (vs:List Value),VRs c L xs vs→VRs c L' xs vs
 | [],[],_=>trivial
 | x::xs,v::vs,h=>⟨VR.kD hL x v h.1,VRs.kD hL xs vs h.2⟩
 | [],_::_,h=>h
 | _::_,[],h=>h
theorem Cells.kD {c:Cx}{L L':Nat→Prop}(hL:∀b,L' b→L b):∀(xs:List AV) (b o:Nat),Cells c L xs b o→Cells c L' xs b o
 | [],_,_,_=>trivial
 | x::xs,b,o,h=>by
  obtain⟨⟨v,hv,h1,hx⟩,hs⟩:=h
  exact⟨⟨v,hv,h1,VR.kD hL x v hx⟩,Cells.kD hL xs b (o+1) hs⟩
end
theorem DE {c:Cx}{L:Nat→Prop}{x:AV}{v:Value}(h:VR c L x v):VR c L (nV x) v:=by
 cases x<;>try exact h
 simp only [VR] at h
 simp only [nV,VR]
 exact⟨none,0,h,Yn _,fun _=>rfl,.inr ⟨trivial,rfl⟩,.inl trivial⟩
theorem sY {c:Cx}{L:Nat→Prop}:∀{xs:List AV} {vs:List Value},VRs c L xs vs→VRs c L (xs.map nV) vs
 | [],[],_=>trivial
 | _::_,_::_,h=>⟨DE h.1,sY h.2⟩
 | [],_::_,h=>h.elim
 | _::_,[],h=>h.elim
theorem Cells.move {c c':Cx}{L0 Lo jK:Nat→Prop}(e:Ext c Lo c' jK):∀(xs:List AV) (b o b' o':Nat),(∀i,i<xs.length→c'.w.cell? ⟨b',o'+i,none⟩=c.w.cell? ⟨b,o+i,none⟩)→Cells c (un L0 Lo) xs b o→Cells c' (un L0 jK) xs b' o'
 | [],_,_,_,_,_,_=>trivial
 | x::xs,b,o,b',o',hm,h=>by
  obtain⟨⟨v,hv,h1,hx⟩,hs⟩:=h
  refine⟨⟨v,(hm 0 (by simp)).trans hv,h1,VR.ext e x v hx⟩,Cells.move e xs b (o+1) b' (o'+1) (fun i hi=>?_) hs⟩
  have:=hm (i+1) (by simpa using hi)
  rwa [ZJ o' 1 i,ZJ o 1 i,Y7,Y7]
theorem VRs.length {c:Cx}{L:Nat→Prop}:∀{xs:List AV} {vs:List Value},VRs c L xs vs→xs.length=vs.length
 | [],[],_=>rfl
 | _::_,_::_,h=>by simp [VRs.length h.2]
 | [],_::_,h=>h.elim
 | _::_,[],h=>h.elim
theorem VRs.get {c:Cx}{L:Nat→Prop}:∀{xs:List AV} {vs:List Value},VRs c L xs vs→∀(i:Nat) (x:AV),xs[i]? = some x→∃v,vs[i]? = some v∧VR c L x v
 | [],[],_,i,x,hx=>by simp at hx
 | y::ys,u::us,h,i,x,hx=>by
  cases i with
  | zero=>simp at hx; subst hx; exact⟨u,rfl,h.1⟩
  | succ i=>simpa using VRs.get h.2 i x (by simpa using hx)
 | [],_::_,h,_,_,_=>h.elim
 | _::_,[],h,_,_,_=>h.elim
theorem VRs.append {c:Cx}{L:Nat→Prop}:∀{xs ys:List AV} {vs us:List Value},VRs c L xs vs→VRs c L ys us→VRs c L (xs++ys) (vs++us)
 | [],_,[],_,_,h=>h
 | _::_,_,_::_,_,h,k=>⟨h.1,VRs.append h.2 k⟩
 | [],_,_::_,_,h,_=>h.elim
 | _::_,_,[],_,h,_=>h.elim
theorem VRs.drop {c:Cx}{L:Nat→Prop}:∀(n:Nat) {xs:List AV} {vs:List Value},VRs c L xs vs→VRs c L (xs.drop n) (vs.drop n)
 | 0,_,_,h=>h
 | _+1,[],[],h=>h
 | n+1,_::_,_::_,h=>VRs.drop n h.2
 | _+1,[],_::_,h=>h.elim
 | _+1,_::_,[],h=>h.elim
theorem VRs.take {c:Cx}{L:Nat→Prop}:∀(n:Nat) {xs:List AV} {vs:List Value},VRs c L xs vs→VRs c L (xs.take n) (vs.take n)
 | 0,_,_,_=>by simp [VRs]
 | _+1,[],[],h=>h
 | n+1,_::_,_::_,h=>⟨h.1,VRs.take n h.2⟩
 | _+1,[],_::_,h=>h.elim
 | _+1,_::_,[],h=>h.elim
theorem VRs.set {c:Cx}{L:Nat→Prop}{x:AV}{v:Value}(hx:VR c L x v):∀(n:Nat) {xs:List AV} {vs:List Value},VRs c L xs vs→VRs c L (xs.set n x) (vs.set n v)
 | _,[],[],h=>h
 | 0,_::_,_::_,h=>⟨hx,h.2⟩
 | n+1,_::_,_::_,h=>⟨h.1,VRs.set hx n h.2⟩
 | _,[],_::_,h=>h.elim
 | _,_::_,[],h=>h.elim
theorem Cells.vals {c:Cx}{L:Nat→Prop}:∀{xs:List AV} {b o:Nat},Cells c L xs b o→∃vs:List Value,VRs c L xs vs∧(∀i,i<xs.length→c.w.cell? ⟨b,o+i,none⟩=vs[i]?)∧∀v∈vs,v.oneCell'=true
 | [],_,_,_=>⟨[],trivial,fun i hi=>by simp at hi,fun _ h=>by cases h⟩
 | x::xs,b,o,h=>by
  obtain⟨⟨v,hv,h0,hx⟩,hs⟩:=h
  obtain⟨vs,h1,h2,h3⟩:=Cells.vals hs
  refine⟨v::vs,⟨hx,h1⟩,fun i hi=>?_,fun u hu=>?_⟩
  ·cases i with
   | zero=>exact hv
   | succ i=>
    have:=h2 i (by simpa using hi)
    rw [ZJ,Y7] at this
    simpa using this
  ·rcases YW.1 hu with rfl | hu
   ·exact h0
   ·exact h3 u hu
theorem Cells.of_vals {c:Cx}{L:Nat→Prop}:∀{xs:List AV} {vs:List Value} {b o:Nat},VRs c L xs vs→(∀i,i<vs.length→c.w.cell? ⟨b,o+i,none⟩=vs[i]?)→(∀v∈vs,v.oneCell'=true)→Cells c L xs b o
 | [],[],_,_,_,_,_=>trivial
 | x::xs,v::vs,b,o,h,hc,h1=>by
  refine⟨⟨v,hc 0 (by simp),h1 v (by simp),h.1⟩,Cells.of_vals h.2 (fun i hi=>?_) (fun u hu=>h1 u (by simp [hu]))⟩
  have:=hc (i+1) (by simpa using hi)
  rw [ZJ,Y7]
  simpa using this
 | [],_::_,_,_,h,_,_=>h.elim
 | _::_,[],_,_,h,_,_=>h.elim
theorem Cells.get' {c:Cx}{L:Nat→Prop}{xs:List AV}{b o:Nat}(h:Cells c L xs b o)(i:Nat)(x:AV)(hx:xs[i]? = some x):∃v,c.w.cell? ⟨b,o+i,none⟩=some v∧v.oneCell'=true∧VR c L x v:=by
 obtain⟨vs,h1,h2,h3⟩:=h.vals
 obtain⟨v,hv,hr⟩:=VRs.get h1 i x hx
 exact⟨v,(h2 i (Yu.1 hx).1).trans hv,h3 v (Zm hv),hr⟩
theorem Cells.get {c:Cx}{L:Nat→Prop}{xs:List AV}{b o:Nat}(h:Cells c L xs b o)(i:Nat)(x:AV)(hx:xs[i]? = some x):∃v,c.w.cell? ⟨b,o+i,none⟩=some v∧VR c L x v:=by
 obtain⟨v,h1,_,h2⟩:=h.get' i x hx
 exact⟨v,h1,h2⟩
end Go.R
namespace Go.R
open Go
def kO (c:Cx)(L:Nat→Prop):List (AV × AV)→List MapEntry→Prop
 | [],[]=>True
 | (k,v)::es,m::ms=>(VR c L k m.key∧k.AF.isSome=true)∧VR c L v m.val∧kO c L es ms
 | _,_=>False
def Plain (c:Cx)(b:Nat)(n:Nat):Prop:=∃(C:Array Value) (e lo hi:Nat),c.w.heap[b]? = some (.cells C e (lo,hi))∧(lo=hi∨C.size≤lo)∧C.size=n
def iP (c:Cx)(b:Nat)(n:Nat):Prop:=∃(C:Array Value) (e:TypeId),c.w.heap[b]? = some (.cells C e (0,0))∧C.size=n
theorem iP.nb {c:Cx}{b n:Nat}(h:iP c b n):Plain c b n:=by
 obtain⟨C,e,h1,h2⟩:=h
 exact⟨C,e,0,0,h1,.inl rfl,h2⟩
theorem iP.of_heap {c c':Cx}{b n:Nat}(h:iP c b n)(he:c'.w.heap[b]? = c.w.heap[b]?):iP c' b n:=by
 obtain⟨C,e,h1,h2⟩:=h
 exact⟨C,e,he.trans h1,h2⟩
theorem iP.lt {c:Cx}{b n:Nat}(h:iP c b n):b<c.w.heap.size:=by
 obtain⟨C,e,h1,_⟩:=h
 exact (YT.1 h1).1
def rQ (c:Cx)(L:Nat→Prop)(b base:Nat):AObj→Prop
 | .cells cs=>∃n,iP c b n∧base+cs.length≤n∧Cells c L cs b base
 | .row e cs=>base=0∧∃C:Array Value,c.w.heap[b]? = some (.cells C e (0,0))∧cs.length≤C.size∧C.size≤maxLen∧Cells c L cs b 0
 | .map es=>∃kP clock,c.w.heap[b]? = some (.map kP clock)∧kO c L es kP.toList
structure HRel (c:Cx)(L:Nat→Prop):Prop where
 lt:∀id o,c.h.get id=some o→id<c.h.next
 obj:∀id o,c.h.get id=some o→rQ c L (c.β id).1 (c.β id).2 o
 inj:∀id oM,Live c.h id→Live c.h oM→(c.β id).1=(c.β oM).1→id=oM
 out:∀id,Live c.h id→¬L (c.β id).1
 bd:∀b,L b→b<c.w.heap.size
 low:∀id,Live c.h id→c.base≤(c.β id).1
 ver:∀id,c.h.ver id<c.h.next
structure PG (c:Cx)(L0 Lo:Nat→Prop)(lam:Nat→Nat)(k:Nat)(cs:List AV):Prop where
 own:Lo (lam k)
 plain:Plain c (lam k) cs.length
 cells:Cells c (un L0 Lo) cs (lam k) 0
def SR (c:Cx)(L0 Lo:Nat→Prop)(lam:Nat→Nat)(bx:Nat→Option (List AV))(x:AV)(v:Value):Prop:=
 match x with
 | .lp k off=>v = .pointer (some ⟨lam k,off,none⟩)∧(bx k).isSome=true
 | x=>VR c (un L0 Lo) x v
structure Fr (L0:Nat→Prop)(c:Cx)(Lo:Nat→Prop)(lam:Nat→Nat)(ds:List Nat)(s:RS)(a:Act):Prop where
 h:c.h=s.h
 rel:HRel c (un L0 Lo)
 slot:∀t,SR c L0 Lo lam s.bx (s.ρ t) (a.tmps.getD t undef)
 box:∀k cs,s.bx k=some cs→PG c L0 Lo lam k cs
 inj:∀k k',(s.bx k).isSome=true→(s.bx k').isSome=true→lam k=lam k'→k=k'
 tidy:∀t k off,t∉ds→s.ρ t = .lp k off→k=t
 defers:a.defers=[]
 Fc:∀b,Lo b→c.base≤b
def none0:Nat→Prop:=fun _=>False
def Inv (L0:Nat→Prop)(c0:Cx)(n:Nat)(ds:List Nat)(s:RS)(a:Act)(w:World):Prop:=
 a.tmps.size=n∧∃c Lo lam,c.w=w∧Fr L0 c Lo lam ds s a∧Ext c0 none0 c Lo
theorem SR.vr {c:Cx}{L0 Lo:Nat→Prop}{lam:Nat→Nat}{bx:Nat→Option (List AV)}{x:AV}{v:Value}(h:SR c L0 Lo lam bx x v)(hx:∀k off,x≠.lp k off):VR c (un L0 Lo) x v:=by
 unfold SR at h
 split at h
 ·exact absurd rfl (hx _ _)
 ·exact h
theorem SR.of {c:Cx}{L0 Lo:Nat→Prop}{lam:Nat→Nat}{bx:Nat→Option (List AV)}{x:AV}{v:Value}(h:VR c (un L0 Lo) x v):SR c L0 Lo lam bx x v:=by
 unfold SR
 split
 ·exact h.elim
 ·exact h
theorem nc {c:Cx}{L:Nat→Prop}{v:Value}{x:AV}(h:oI v=some x):VR c L x v:=by
 unfold oI at h
 split at h<;>first | (cases h; done) | (cases h; simp [VR])
theorem yD {c:Cx}{L:Nat→Prop}:∀{vs:List Value} {xs:List AV},ri vs=some xs→VRs c L xs vs
 | [],xs,h=>by simp [ri] at h; subst h; trivial
 | v::vs,xs,h=>by
  simp only [ri,Yk] at h
  obtain⟨x,hx,ys,hy,he⟩:=h
  cases he
  exact⟨nc hx,yD hy⟩
theorem mz {c:Cx}{L:Nat→Prop}{v:Value}{x:AV}(h:Fa v=some x):VR c L x v:=by
 unfold Fa at h
 split at h
 ·rename_i cs
  rw [Yl] at h
  obtain⟨xs,hx,rfl⟩:=h
  simp only [VR]
  exact⟨cs,rfl,yD hx⟩
 ·exact nc h
theorem kQ {c:Cx}{L:Nat→Prop}{x:AV}{u v:Value}(h:x.fA=some u)(hx:VR c L x v):v=u:=by
 unfold AV.fA at h
 split at h<;>first | (cases h; done) | (cases h; simpa [VR] using hx)
theorem kR {x:AV}{u:Value}(h:x.fA=some u):∀k off,x≠.lp k off:=by
 rintro k off rfl
 simp [AV.fA] at h
theorem qo {c:Cx}{L:Nat→Prop}:∀{xs:List AV} {us vs:List Value},jg xs=some us→VRs c L xs vs→vs=us
 | [],us,[],h,_=>by simp [jg] at h; exact h.symm
 | x::xs,us,v::vs,h,hx=>by
  simp only [jg,Yk] at h
  obtain⟨u,h1,ws,h2,he⟩:=h
  cases he
  rw [kQ h1 hx.1,qo h2 hx.2]
 | [],_,_::_,_,h=>h.elim
 | _::_,_,[],_,h=>h.elim
theorem wX {c:Cx}{L:Nat→Prop}{x:AV}{u v:Value}(h:x.AF=some u)(hx:VR c L x v):v=u:=by
 unfold AV.AF at h
 split at h
 ·rw [Yl] at h
  obtain⟨vs,h1,rfl⟩:=h
  simp only [VR] at hx
  obtain⟨ws,rfl,h2⟩:=hx
  rw [←qo h1 h2]
 ·exact kQ h hx
theorem kn {α:Type}{P:Program}{e:Sem α}{r:α}(w:World):iK P e=some r→e.run P w = .ok r w:=by
 induction e with
 | pure a=>intro h; simp [iK] at h; subst h; rfl
 | program k ih=>intro h; exact ih P (by simpa [iK] using h)
 | _=>intro h; simp [iK] at h
theorem bB {L0:Nat→Prop}{c:Cx}{Lo:Nat→Prop}{lam:Nat→Nat}{ds:List Nat}{s:RS}{a:Act}(f:Fr L0 c Lo lam ds s a)(x:Operand):SR c L0 Lo lam s.bx (bS s.ρ x) (a.eval x):=by
 cases x with
 | tmp t=>exact f.slot t
 | const v=>
  refine SR.of ?_
  simp only [bS,Act.eval]
  cases h:Fa v with
  | none=>simp [VR]
  | some x=>simpa using mz h
 | global g=>exact SR.of (by simp [bS,VR])
 | func f=>exact SR.of (by simp only [bS,VR,Act.eval]; exact⟨#[],rfl,by simp [VRs]⟩)
def jv (P:Program)(L0:Nat→Prop)(c0:Cx)(n:Nat)(ds:List Nat)(o:Oper)(s s':RS):Prop:=
 ∀a w (K:Act→World→Prop) (Q:Exit→Act→World→Prop),Inv L0 c0 n ds s a w→(∀a' w',Inv L0 c0 n ds s' a' w'→K a' w')→o.wp P a w K Q
theorem gG (a:Act)(d:Option Nat)(v:Value):(a.put d v).tmps.size=a.tmps.size:=by cases d<;>simp [Act.put]
theorem Fe (a:Act)(d t:Nat)(v:Value)(hd:d<a.tmps.size):(a.put (some d) v).tmps.getD t undef=if t=d then v else a.tmps.getD t undef:=by
 simp only [Act.put,Array.getD_eq_getD_getElem?,Zj]
 by_cases h:d=t
 ·subst h; simp [hd]
 ·simp [h,ZB h]
theorem vG (s:RS)(d t:Nat)(x:AV):(s.set (some d) x).ρ t=if t=d then x else s.ρ t:=by
 simp only [RS.set,beq_nat]
 by_cases h:t=d<;>simp [h]
theorem Fr.set {L0:Nat→Prop}{c:Cx}{Lo:Nat→Prop}{lam:Nat→Nat}{ds:List Nat}{s:RS}{a:Act}(f:Fr L0 c Lo lam ds s a){d:Option Nat}{x:AV}{v:Value}(hx:SR c L0 Lo lam s.bx x v)
  (hd:∀t,d=some t→t<a.tmps.size∧t∈ds):Fr L0 c Lo lam ds (s.set d x) (a.put d v):=by
 cases d with
 | none=>exact f
 | some d=>
  obtain⟨h1,h2⟩:=hd d rfl
  refine⟨f.h,f.rel,fun t=>?_,f.box,f.inj,fun t k off ht he=>?_,f.defers,f.Fc⟩
  ·rw [Fe _ _ _ _ h1,vG]
   by_cases h:t=d
   ·simp only [h,if_true]; exact hx
   ·simp only [h,if_false]; exact f.slot t
  ·rw [vG] at he
   by_cases h:t=d
   ·subst h; exact absurd h2 ht
   ·rw [if_neg h] at he; exact f.tidy t k off ht he
section
variable {P:Program}{L0:Nat→Prop}{c0:Cx}{n:Nat}{ds:List Nat}{o:Oper}{s:RS}
def gg (n:Nat)(ds:List Nat)(o:Oper):Prop:=∀t,o.dst=some t→t<n∧t∈ds
theorem fB (hd:gg n ds o){x:AV}
  (h:∀a c Lo lam,Fr L0 c Lo lam ds s a→a.tmps.size=n→∃v,(execOp a.eval o).run P c.w = .ok (.value v) c.w∧SR c L0 Lo lam s.bx x v):jv P L0 c0 n ds o s (s.set o.dst x):=by
 rintro a w K Q ⟨hn,c,Lo,lam,rfl,f,e⟩ hK
 obtain⟨v,hr,hv⟩:=h a c Lo lam f hn
 unfold Oper.wp
 rw [hr,Oper.upon_value]
 exact hK _ _ ⟨(gG _ _ _).trans hn,c,Lo,lam,rfl,f.set hv (fun t ht=>hn ▸ hd t ht),e⟩
end
theorem SR.ext {c c':Cx}{L0 Lo jK:Nat→Prop}{lam rR:Nat→Nat}{bx TQ:Nat→Option (List AV)}{x:AV}{v:Value}(h:SR c L0 Lo lam bx x v)(e:Ext c Lo c' jK)
  (hl:∀k off,x = .lp k off→rR k=lam k∧((bx k).isSome=true→(TQ k).isSome=true)):SR c' L0 jK rR TQ x v:=by
 unfold SR at h ⊢
 split
 ·rename_i k off
  obtain⟨h1,h2⟩:=h
  obtain⟨h3,h4⟩:=hl k off rfl
  rw [h3]
  exact⟨h1,h4 h2⟩
 ·rename_i hne
  split at h
  ·exact absurd rfl (hne _ _)
  ·exact VR.ext e _ _ h
theorem Plain.of_heap {c c':Cx}{b n:Nat}(h:Plain c b n)(he:iO c.w c'.w b):Plain c' b n:=by
 obtain⟨C,e,lo,hi,h1,h2,h3⟩:=h
 rcases he with he | ⟨C',e',l1,i1,l2,i2,k1,k2,k3⟩
 ·exact⟨C,e,lo,hi,he.trans h1,h2,h3⟩
 ·rw [h1] at k1
  simp only [Ym,Obj.cells.injEq,Yr] at k1
  obtain⟨rfl,rfl,rfl,rfl⟩:=k1
  exact⟨C,e,l2,i2,k2,k3 h2,h3⟩
theorem Plain.lt {c:Cx}{b n:Nat}(h:Plain c b n):b<c.w.heap.size:=by
 obtain⟨C,e,lo,hi,h1,_⟩:=h
 exact (YT.1 h1).1
theorem kO.ext {c c':Cx}{L0 Lo jK:Nat→Prop}(e:Ext c Lo c' jK):∀{es:List (AV × AV)} {ms:List MapEntry},kO c (un L0 Lo) es ms→kO c' (un L0 jK) es ms
 | [],[],_=>trivial
 | (k,v)::es,m::ms,h=>⟨⟨VR.ext e _ _ h.1.1,h.1.2⟩,VR.ext e _ _ h.2.1,kO.ext e h.2.2⟩
 | [],_::_,h=>h.elim
 | _::_,[],h=>h.elim
theorem rQ.ext {c c':Cx}{L0 Lo jK:Nat→Prop}(e:Ext c Lo c' jK){b base:Nat}{o:AObj}(h:rQ c (un L0 Lo) b base o)(he:c'.w.heap[b]? = c.w.heap[b]?):rQ c' (un L0 jK) b base o:=by
 cases o with
 | cells cs=>
  obtain⟨n,h1,h2,h3⟩:=h
  exact⟨n,h1.of_heap he,h2,Cells.move e cs b base b base (fun i _=>sW he _) h3⟩
 | row t cs=>
  obtain⟨h0,C,h1,h2,h4,h3⟩:=h
  exact⟨h0,C,he.trans h1,h2,h4,Cells.move e cs b 0 b 0 (fun i _=>sW he _) h3⟩
 | map es=>
  obtain⟨kP,clock,h1,h2⟩:=h
  exact⟨kP,clock,he.trans h1,h2.ext e⟩
theorem PG.ext {c c':Cx}{L0 Lo jK:Nat→Prop}{lam:Nat→Nat}(e:Ext c Lo c' jK){k:Nat}{cs:List AV}(h:PG c L0 Lo lam k cs)(he:iO c.w c'.w (lam k)):PG c' L0 jK lam k cs:=
 ⟨e.own _ h.own,h.plain.of_heap he,Cells.move e cs (lam k) 0 (lam k) 0 (fun i _=>he.cell _) h.cells⟩
end Go.R
namespace Go.R
open Go
theorem addr_add (b o i:Nat):(⟨b,o,none⟩:Addr).add i=⟨b,o+i,none⟩:=by
 unfold Addr.add
 split<;>simp_all
section
variable {P:Program}{L0:Nat→Prop}{c0:Cx}{n:Nat}{ds:List Nat}{o:Oper}{s:RS}
theorem bz {t:TypeId}{d:TypeDesc}(h:P.underlying t=some d)(w:World):(underlying t).run P w = .ok d w:=run_underlying h w
theorem du {t:TypeId}{m:Nat}(h:ez P t=some m)(w:World):(sizeOf t).run P w = .ok m w:=by
 unfold ez at h
 rw [Yl] at h
 obtain⟨i,hi,rfl⟩:=h
 simp [sizeOf,typeInfo,hi]
theorem Ca {t:TypeId}{b:Bool}(h:eB P t=some b)(w:World):(isAgg t).run P w = .ok b w:=by
 unfold eB at h
 rw [Yl] at h
 obtain⟨d,hd,rfl⟩:=h
 simp only [isAgg,Sem.run_bind,bz hd,Result.andThen_ok]
 cases d<;>rfl
theorem AM {c:Cx}{L:Nat→Prop}{xs:List AV}{b off:Nat}(h:Cells c L xs b off):∃vs:List Value,(loadCells ⟨b,off,none⟩ xs.length).run P c.w = .ok vs.toArray c.w∧VRs c L xs vs:=by
 obtain⟨vs,h1,h2,_⟩:=h.vals
 refine⟨vs,?_,h1⟩
 have:=run_loadCells_list (P:=P) (w:=c.w) ⟨b,off,none⟩ vs (fun j v hj=>by
  rw [addr_add,h2 j (by rw [h1.length]; exact (Yu.1 hj).1)]; exact hj)
 rwa [←h1.length] at this
theorem Cells.drop {c:Cx}{L:Nat→Prop}:∀(m:Nat) {xs:List AV} {b off:Nat},Cells c L xs b off→Cells c L (xs.drop m) b (off+m)
 | 0,_,_,_,h=>h
 | m+1,[],_,_,_=>by simp [Cells]
 | m+1,x::xs,b,off,h=>by
  have:=Cells.drop m h.2
  rw [ZJ,Y7] at this
  simpa using this
theorem Cells.take {c:Cx}{L:Nat→Prop}:∀(m:Nat) {xs:List AV} {b off:Nat},Cells c L xs b off→Cells c L (xs.take m) b off
 | 0,_,_,_,_=>by simp [Cells]
 | m+1,[],_,_,h=>by simpa using h
 | m+1,x::xs,b,off,h=>⟨h.1,Cells.take m h.2⟩
theorem nX {c:Cx}{L:Nat→Prop}{t:TypeId}{cs:List AV}{b base off:Nat}{x:AV}(h:jh P t cs off=some x)(hc:Cells c L cs b base) :
  ∃v,(loadVar t ⟨b,base+off,none⟩).run P c.w = .ok v c.w∧VR c L x v:=by
 unfold jh at h
 rw [Yk] at h
 obtain⟨ag,Ql,h⟩:=h
 simp only [loadVar,Sem.run_bind,Ca Ql,Result.andThen_ok]
 cases ag with
 | true=>
  simp only [if_true,Yk] at h
  obtain⟨m,hm,h⟩:=h
  split at h
  ·rename_i hle
   cases h
   have hc2:=(hc.drop off).take m
   obtain⟨vs,hr,hv⟩:=AM (P:=P) hc2
   rw [show ((cs.drop off).take m).length=m by simp; omega] at hr
   refine⟨.agg vs.toArray,by simp [du hm,hr],?_⟩
   simp only [VR]
   exact⟨vs.toArray,rfl,by simpa using hv⟩
  ·cases h
 | false=>
  simp only [YA,if_false] at h
  obtain⟨v,hv,hx⟩:=hc.get off x h
  exact⟨v,by simp [hv],hx⟩
theorem yE {c:Cx}{Lo:Nat→Prop}{lam:Nat→Nat}{bx:Nat→Option (List AV)}{x y:AV}{m:Nat}{v:Value}(h:x.shift m=some y)(hx:SR c L0 Lo lam bx x v) :
  ∃ad,v = .pointer (some ad)∧SR c L0 Lo lam bx y (.pointer (some (ad.add m))):=by
 cases x<;>simp only [AV.shift] at h<;>cases h
 ·rename_i id off
  simp only [SR,VR] at hx ⊢
  obtain⟨hi,ad,rfl,ha⟩:=hx
  exact⟨ad,rfl,hi,_,rfl,fun hl=>by rw [ha hl,addr_add,Y7]⟩
 ·rename_i k off
  simp only [SR] at hx ⊢
  obtain⟨rfl,hb⟩:=hx
  exact⟨_,rfl,by rw [addr_add],hb⟩
 ·rename_i cs off
  simp only [SR,VR] at hx ⊢
  obtain⟨b,o',rfl,hc⟩:=hx
  exact⟨_,rfl,b,o',by rw [addr_add,Y7],hc⟩
theorem sZ {c:Cx}{Lo:Nat→Prop}{lam:Nat→Nat}{a:Act}(f:Fr L0 c Lo lam ds s a){t:TypeId}{x y:AV}{v:Value}(hx:SR c L0 Lo lam s.bx x v)
  (h:ju P s.bx s.h t x=some y):∃u,(Instr.loadAt t v).run P c.w = .ok u c.w∧VR c (un L0 Lo) y u:=by
 unfold ju at h
 cases x<;>simp only at h<;>try (cases h; done)
 ·rename_i id off
  rw [Yk] at h
  obtain⟨ob,ho,h⟩:=h
  cases ob with
  | map es=>cases h
  | row t cs=>cases h
  | cells cs=>
   simp only [SR,VR] at hx
   obtain⟨hi,ad,rfl,ha⟩:=hx
   rw [←f.h] at ho
   have hl:Live c.h id:=⟨f.rel.lt _ _ ho,by simp [ho]⟩
   obtain⟨m,h1,h2,h3⟩:=f.rel.obj _ _ ho
   obtain⟨u,hr,hu⟩:=nX (P:=P) h h3
   exact⟨u,by simp [Instr.loadAt,Instr.sureAddr,ha hl,hr],hu⟩
 ·rename_i k off
  rw [Yk] at h
  obtain⟨cs,hb,h⟩:=h
  simp only [SR] at hx
  obtain⟨rfl,_⟩:=hx
  have hw:=f.box k cs hb
  obtain⟨u,hr,hu⟩:=nX (P:=P) h hw.cells
  rw [YG] at hr
  exact⟨u,by simp [Instr.loadAt,Instr.sureAddr,hr],hu⟩
 ·rename_i cs off
  split at h
  ·cases h
  ·rename_i hne
   simp only [SR,VR] at hx
   obtain⟨b,o',rfl,hc⟩:=hx
   rcases hc with hc | ⟨_,hc⟩
   ·subst hc; simp at hne
   ·obtain⟨u,hr,hu⟩:=nX (P:=P) h hc
    exact⟨u,by simp [Instr.loadAt,Instr.sureAddr,hr],hu⟩
theorem yF {c:Cx}{Lo:Nat→Prop}{lam:Nat→Nat}{bx:Nat→Option (List AV)}{t:TypeId}{x i y:AV}{v u:Value}(hx:SR c L0 Lo lam bx x v)(hi:SR c L0 Lo lam bx i u)
  (h:eC P t x i=some y):∃r,(Instr.indexAt t v u).run P c.w = .ok r c.w∧SR c L0 Lo lam bx y r:=by
 unfold eC at h
 split at h<;>try (cases h; done)
 rename_i k i
 simp only [SR,VR] at hi
 subst hi
 rw [Yk] at h
 obtain⟨d,hd,h⟩:=h
 split at h<;>try (cases h; done)
 ·rename_i len e
  rw [Yk] at h
  obtain⟨m,hm,h⟩:=h
  split at h
  ·rename_i hin
   obtain⟨ad,rfl,hy⟩:=yE h hx
   exact⟨_,by simp [Instr.indexAt,asIntOf,bz hd,Instr.sureAddr,hin,du hm],hy⟩
  ·cases h
 ·rename_i e
  rw [Yk] at h
  obtain⟨m,hm,h⟩:=h
  split at h<;>try (cases h; done)
  ·rename_i cs len ex
   split at h
   ·rename_i hin
    obtain⟨h1,h2,h3⟩:=hin
    cases h
    simp only [SR,VR] at hx ⊢
    obtain⟨a,cap,rfl,h4,h5,_,hc⟩:=hx
    rcases hc with hc | ⟨b,o',rfl,hr,hex,hc⟩
    ·subst hc; simp at h3
    ·refine⟨.pointer (some ((⟨b,o',none⟩:Addr).add (i.toNat*m))),by simp [Instr.indexAt,asIntOf,bz hd,h1,h2,du hm],b,o',?_,.inr ⟨hr,hc⟩⟩
     rw [addr_add]
   ·cases h
  ·rename_i id off len jc
   split at h
   ·rename_i hin
    obtain⟨h0,h1,h2⟩:=hin
    cases h
    simp only [SR,VR] at hx ⊢
    rcases hx with⟨_,_,hz,_⟩| hx
    ·subst hz; omega
    obtain⟨_,hid,a,cap,rfl,h4,hs,h5⟩:=hx
    cases a with
    | none=>simp at hs
    | some a=>
     refine⟨.pointer (some (a.add (i.toNat*m))),by simp [Instr.indexAt,asIntOf,bz hd,h1,h2,du hm],hid,_,rfl,fun hl=>?_⟩
     rcases h5 hl with h6 | h6
     ·obtain⟨h6,_⟩:=h6
      cases h6
      rw [addr_add,Y7]
     ·subst h6; omega
   ·cases h
end
end Go.R
namespace Go.R
open Go
section
variable {P:Program}{L0:Nat→Prop}{c0:Cx}{n:Nat}{ds:List Nat}{o:Oper}{s:RS}
theorem vH {c:Cx}{L:Nat→Prop}{t:TypeId}{cs:List AV}{vs:Array Value}{off:Nat}{x:AV}(hv:VRs c L cs vs.toList)(h:B9 P t cs off=some x) :
  ∃v,(part t vs off).run P c.w = .ok v c.w∧VR c L x v:=by
 unfold B9 jh at h
 rw [Yk] at h
 obtain⟨ag,Ql,h⟩:=h
 simp only [part,Sem.run_bind,Ca Ql,Result.andThen_ok]
 cases ag with
 | true=>
  simp only [if_true,Yk] at h
  obtain⟨m,hm,h⟩:=h
  split at h
  ·rename_i hle
   cases h
   refine⟨.agg (vs.extract off (off+m)),by simp [du hm],?_⟩
   simp only [VR]
   refine⟨_,rfl,?_⟩
   rw [Array.toList_extract,List.extract_eq_take_drop,Zt]
   exact (hv.drop off).take m
  ·cases h
 | false=>
  simp only [YA,if_false] at h
  obtain⟨v,Nr,hx⟩:=hv.get off x h
  have VB:vs[off]? = some v:=by rw [←ZC]; exact Nr
  exact⟨v,by simp [VB],hx⟩
theorem AN {c:Cx}{Lo:Nat→Prop}{lam:Nat→Nat}{bx:Nat→Option (List AV)}{t:TypeId}{x y:AV}{v:Value}{i:Nat}(hx:SR c L0 Lo lam bx x v)(h:AH P t x i=some y) :
  ∃r,(Instr.field t v i).run P c.w = .ok r c.w∧VR c (un L0 Lo) y r:=by
 unfold AH at h
 split at h<;>try (cases h; done)
 rename_i cs
 simp only [SR,VR] at hx
 obtain⟨vs,rfl,hv⟩:=hx
 rw [Yk] at h
 obtain⟨d,hd,h⟩:=h
 split at h<;>try (cases h; done)
 rename_i fs
 rw [Yk] at h
 obtain⟨fd,hf,h⟩:=h
 obtain⟨r,hr,hy⟩:=vH hv h
 exact⟨r,by simp [Instr.field,bz hd,hf,asAgg,hr],hy⟩
theorem yG {c:Cx}{Lo:Nat→Prop}{lam:Nat→Nat}{bx:Nat→Option (List AV)}{t:TypeId}{x y:AV}{v:Value}{i:Nat}(hx:SR c L0 Lo lam bx x v)(h:nU P t x i=some y) :
  ∃r,(Instr.fieldAt t v i).run P c.w = .ok r c.w∧SR c L0 Lo lam bx y r:=by
 unfold nU at h
 rw [Yk] at h
 obtain⟨d,hd,h⟩:=h
 split at h<;>try (cases h; done)
 rename_i fs
 simp only [Yk] at h
 obtain⟨fd,hf,m,hm,h⟩:=h
 split at h
 ·cases h
 ·rename_i s4
  obtain⟨ad,rfl,hy⟩:=yE h hx
  exact⟨_,by simp [Instr.fieldAt,bz hd,hf,Instr.sureAddr,fieldPlace,du hm,s4],hy⟩
theorem AO {c:Cx}{Lo:Nat→Prop}{lam:Nat→Nat}{bx:Nat→Option (List AV)}{t:TypeId}{x i y:AV}{v u:Value}(hx:SR c L0 Lo lam bx x v)(hi:SR c L0 Lo lam bx i u)(h:qf P t x i=some y) :
  ∃r,(Instr.index t v u).run P c.w = .ok r c.w∧VR c (un L0 Lo) y r:=by
 unfold qf at h
 split at h<;>try (cases h; done)
 rename_i k i
 simp only [SR,VR] at hi
 subst hi
 rw [Yk] at h
 obtain⟨d,hd,h⟩:=h
 split at h<;>try (cases h; done)
 ·rename_i len e
  split at h<;>try (cases h; done)
  rename_i cs
  simp only [SR,VR] at hx
  obtain⟨vs,rfl,hv⟩:=hx
  rw [Yk] at h
  obtain⟨m,hm,h⟩:=h
  split at h
  ·rename_i hin
   obtain⟨r,hr,hy⟩:=vH hv h
   exact⟨r,by simp [Instr.index,asIntOf,bz hd,hin,du hm,hr],hy⟩
  ·cases h
 ·split at h<;>try (cases h; done)
  rename_i st
  simp only [SR,VR] at hx
  subst hx
  split at h
  ·rename_i h0
   rw [Yl] at h
   obtain⟨b,hb,rfl⟩:=h
   have hb2:st[i.toNat]? = some b:=by
    have hl:i.toNat<st.data.toList.length:=(Yu.1 hb).1
    have Ff:i.toNat<st.size:=by simpa using hl
    rw [getElem?_pos st i.toNat Ff]
    have:=(Yu.1 hb).2
    rw [←this]
    rfl
   exact⟨.int .u8 b.toNat,by simp [Instr.index,asIntOf,bz hd,h0,hb2],by simp [VR]⟩
  ·cases h
theorem jX {c:Cx}{Lo:Nat→Prop}{lam:Nat→Nat}{bx:Nat→Option (List AV)}{MV:Bool}{len Ns cap:Nat}{lo hi:Option AV}{DF Fg:Option Value}{l h:Nat}(hl:Ns≤cap)
  (Av:∀x,lo=some x→∃v,DF=some v∧SR c L0 Lo lam bx x v) (wY:lo=none→DF=none) (IA:∀x,hi=some x→∃v,Fg=some v∧SR c L0 Lo lam bx x v) (yH:hi=none→Fg=none)
  (hb:iL len Ns lo hi=some (l,h)):(Instr.sliceBounds MV len cap DF Fg none).run P c.w = .ok (l,h,cap) c.w∧l≤h∧(h≤Ns∨h=len):=by
 unfold iL at hb
 simp only [Yk] at hb
 obtain⟨h',hh,l',vI,he⟩:=hb
 cases he
 have e1:(Fg=none∧h=len)∨∃k i,Fg=some (.int k i)∧(0≤i∧i≤(cap:Int))∧h=i.toNat∧h≤Ns:=by
  cases hi with
  | none=>
   simp only [Ym] at hh
   exact .inl ⟨yH rfl,hh.symm⟩
  | some x=>
   obtain⟨v,rfl,hv⟩:=IA x rfl
   cases x<;>simp only at hh<;>try (cases hh; done)
   rename_i k i
   simp only [SR,VR] at hv
   subst hv
   split at hh
   ·rename_i hin
    cases hh
    exact .inr ⟨k,i,rfl,⟨hin.1,by omega⟩,rfl,by omega⟩
   ·cases hh
 have e2:(DF=none∧l=0)∨∃k i,DF=some (.int k i)∧(0≤i∧i≤(h:Int))∧l=i.toNat:=by
  cases lo with
  | none=>
   simp only [Ym] at vI
   exact .inl ⟨wY rfl,vI.symm⟩
  | some x=>
   obtain⟨v,rfl,hv⟩:=Av x rfl
   cases x<;>simp only at vI<;>try (cases vI; done)
   rename_i k i
   simp only [SR,VR] at hv
   subst hv
   split at vI
   ·rename_i hin
    cases vI
    exact .inr ⟨k,i,rfl,hin,rfl⟩
   ·cases vI
 clear Av wY IA yH hh vI
 have e3:l≤h:=by rcases e2 with⟨_,h2⟩| ⟨k,i,_,h2,h3⟩<;>omega
 have e4:h≤Ns∨h=len:=by rcases e1 with⟨_,h2⟩| ⟨k,i,_,h2,h3,h4⟩<;>omega
 refine⟨?_,e3,e4⟩
 rcases e1 with⟨rfl,rfl⟩| ⟨k,i,rfl,PH,rfl,_⟩<;>rcases e2 with⟨rfl,rfl⟩| ⟨k2,i2,rfl,Aw,rfl⟩<;>simp_all [Instr.sliceBounds,Instr.sliceBound,asIntOf]
theorem nY {c:Cx}{Lo:Nat→Prop}{lam:Nat→Nat}{bx:Nat→Option (List AV)}{x:AV}{v:Value}(h:isZero (some x)=true)(hv:SR c L0 Lo lam bx x v):∃k,v = .int k 0:=by
 cases x<;>simp [isZero] at h
 subst h
 simp only [SR,VR] at hv
 exact⟨_,hv⟩
theorem AP {c:Cx}{Lo:Nat→Prop}{lam:Nat→Nat}{bx:Nat→Option (List AV)}{t:TypeId}{x y:AV}{v:Value}{lo hi mx:Option AV}{DF Fg Nt:Option Value}(hx:SR c L0 Lo lam bx x v)
  (Av:∀x,lo=some x→∃v,DF=some v∧SR c L0 Lo lam bx x v) (wY:lo=none→DF=none) (IA:∀x,hi=some x→∃v,Fg=some v∧SR c L0 Lo lam bx x v) (yH:hi=none→Fg=none)
  (VC:∀x,mx=some x→∃v,Nt=some v∧SR c L0 Lo lam bx x v) (Nu:mx=none→Nt=none)
  (h:eR P t x lo hi mx=some y):∃r,(Instr.sliceAt t v DF Fg Nt).run P c.w = .ok r c.w∧VR c (un L0 Lo) y r:=by
 unfold eR at h
 rw [Yk] at h
 obtain⟨d,hd,h⟩:=h
 have KK:(match d with | .array _ _=>false | _=>true)=true→(Instr.sliceAt t v DF Fg Nt).run P c.w=(Instr.slice t v DF Fg Nt).run P c.w:=by
  intro VD
  unfold Instr.sliceAt
  simp only [Sem.run_bind,bz hd,Result.andThen_ok]
  cases d<;>simp at VD<;>rfl
 split at h<;>try (cases h; done)
 ·rw [KK rfl]
  cases mx with
  | some mm=>cases x<;>cases h
  | none=>
  cases x<;>simp only at h<;>try (cases h; done)
  rename_i st
  rw [Nu rfl]
  simp only [SR,VR] at hx
  subst hx
  rw [Yl] at h
  obtain⟨⟨l,hh⟩,hb,rfl⟩:=h
  obtain⟨hr,_,_⟩:=jX (P:=P) (MV:=false) (Yn _) Av wY IA yH hb
  exact⟨.string (st.extract l hh),by simp [Instr.slice,bz hd,hr],by simp [VR]⟩
 ·rename_i e
  rw [KK rfl]
  rw [Yk] at h
  obtain⟨m,hm,h⟩:=h
  cases mx with
  | some mm=>
   cases hi with
   | none=>cases h
   | some hh=>
   simp only at h
   split at h
   ·rename_i hz
    simp only [Yo] at hz
    obtain⟨⟨z1,z2⟩,z3⟩:=hz
    obtain⟨mv,rfl,Qm⟩:=VC mm rfl
    obtain⟨hv,rfl,VE⟩:=IA hh rfl
    obtain⟨k3,rfl⟩:=nY z3 Qm
    obtain⟨k2,rfl⟩:=nY z2 VE
    have hsl:∃a len cap,v = .slice a len cap∧VR c (un L0 Lo) y (.slice a 0 0):=by
     split at h<;>try (cases h; done)
     all_goals (cases h; simp only [SR,VR] at hx)
     ·obtain⟨a,cap,rfl,_,_,hs,_⟩:=hx; exact⟨_,_,_,rfl,by simp only [VR]; exact⟨_,_,rfl,Yn _,fun _=>rfl,hs.imp id fun _=>⟨trivial,rfl⟩,.inl (by simp)⟩⟩
     ·rcases hx with⟨_,_,_,a,rfl⟩| ⟨_,_,a,cap,rfl,_,hs,_⟩
      ·exact⟨_,_,_,rfl,by simp only [VR]; exact⟨_,_,rfl,Yn _,fun _=>rfl,.inr ⟨trivial,rfl⟩,.inl (by simp)⟩⟩
      ·exact⟨_,_,_,rfl,by simp only [VR]; exact⟨_,_,rfl,Yn _,fun _=>rfl,.inl hs,.inl (by simp)⟩⟩
     ·subst hx; exact⟨_,_,_,rfl,by simp [VR]⟩
    obtain⟨a,len,cap,rfl,VF⟩:=hsl
    have VG:DF=none∨∃k,DF=some (.int k 0):=by
     cases lo with
     | none=>exact .inl (wY rfl)
     | some x=>
      obtain⟨lv,rfl,nE⟩:=Av x rfl
      obtain⟨k,rfl⟩:=nY z1 nE
      exact .inr ⟨k,rfl⟩
    refine⟨.slice a 0 0,?_,VF⟩
    rcases VG with rfl | ⟨k,rfl⟩<;>simp [Instr.slice,bz hd,Instr.sliceBounds,Instr.sliceBound,asIntOf,du hm]
   ·cases h
  | none=>
   rw [Nu rfl]
   simp only at h
   cases x with
   | nils=>
    simp only [SR,VR] at hx
    subst hx
    rw [Yl] at h
    obtain⟨⟨l,hh⟩,hb,rfl⟩:=h
    obtain⟨hr,h1,h2⟩:=jX (P:=P) (MV:=true) (Yn _) Av wY IA yH hb
    have:hh=0:=by omega
    subst this
    have:l=0:=by omega
    subst this
    exact⟨.slice none 0 0,by simp [Instr.slice,bz hd,hr,du hm],by simp [VR]⟩
   | fz cs len ex=>
    simp only [SR,VR] at hx
    obtain⟨a,cap,rfl,Qn,hc2,hs,hc⟩:=hx
    rw [Yl] at h
    obtain⟨⟨l,hh⟩,hb,rfl⟩:=h
    obtain⟨hr,h1,h2⟩:=jX (P:=P) (MV:=true) Qn Av wY IA yH hb
    have VH:hh≤len:=by omega
    refine⟨.slice (if cap=l then a else a.map (·.add (l*m))) (hh - l) (cap - l),by simp [Instr.slice,bz hd,hr,du hm],?_⟩
    simp only [VR]
    refine⟨_,_,rfl,by omega,fun he=>?_,?_,?_⟩
    rotate_left
    ·rcases hs with hs | ⟨hs,JY⟩
     ·left; split<;>simp [hs]
     ·right; subst hs; subst JY; simp
    rotate_left
    ·simp only [Yo,beq_iff_eq] at he
     have:=hc2 he.1
     omega
    ·rcases hc with hc | ⟨b,o',ha,JZ,hex,hc⟩
     ·subst hc; exact .inl (by simp)
     ·by_cases hcl:cap=l
      ·left
       have:hh - l=0:=by omega
       simp [this]
      ·right
       rw [if_neg hcl,ha]
       exact⟨b,o'+l*m,by simp [addr_add],JZ,fun he=>hex (by simp only [Yo] at he; exact he.1),(hc.drop _).take _⟩
   | rs id off len jc=>
    simp only at h
    split at h
    ·rename_i u5
     subst u5
     simp only [SR,VR] at hx
     rcases hx with⟨rfl,rfl,rfl,a,rfl⟩| hx
     ·rw [Yl] at h
      obtain⟨⟨l,hh⟩,hb,rfl⟩:=h
      obtain⟨hr,h1,h2⟩:=jX (P:=P) (MV:=true) (Yn _) Av wY IA yH hb
      have:hh=0:=by omega
      subst this
      have:l=0:=by omega
      subst this
      exact⟨.slice a 0 0,by simp [Instr.slice,bz hd,hr,du hm],by simp only [VR]; exact .inl ⟨trivial,by simp,trivial,a,rfl⟩⟩
     obtain⟨kS,hid,a,cap,rfl,Qn,hc2,hc⟩:=hx
     rw [Yl] at h
     obtain⟨⟨l,hh⟩,hb,rfl⟩:=h
     obtain⟨hr,h1,h2⟩:=jX (P:=P) (MV:=true) Qn Av wY IA yH hb
     have VH:hh≤len:=by omega
     refine⟨.slice (if cap=l then a else a.map (·.add (l*jc))) (hh - l) (cap - l),by simp [Instr.slice,bz hd,hr,du hm],?_⟩
     simp only [VR]
     refine .inr ⟨kS,hid,_,_,rfl,by omega,by split<;>simp [hc2],fun hl=>?_⟩
     ·rcases hc hl with⟨h3,h4⟩| h3
      ·by_cases hcl:cap=l
       ·right; omega
       ·left
        rw [if_neg hcl,h3]
        refine⟨by simp [addr_add,Y7],?_⟩
        rw [←h4]
        have:cap*jc=l*jc+(cap - l)*jc:=by rw [←Zs]; congr 1; omega
        omega
      ·right; omega
    ·cases h
   | _=>cases h
end
end Go.R
namespace Go.R
open Go
section
variable {P:Program}
def ints (ns:List Int):List Value:=ns.map fun n=>.int .i64 n
theorem ic:∀{cs:List AV},cs.all km=true→∃ns:List Int,cs=ns.map fun n=>AV.int .i64 n
 | [],_=>⟨[],rfl⟩
 | x::xs,h=>by
  simp only [Zg,Yo] at h
  obtain⟨ns,rfl⟩:=ic h.2
  cases x<;>simp [km] at h
  rename_i k m
  cases k<;>simp at h
  exact⟨m::ns,rfl⟩
theorem jY {c:Cx}{L:Nat→Prop}:∀{ns:List Int} {vs:List Value},VRs c L (ns.map fun n=>AV.int .i64 n) vs→vs=ints ns
 | [],[],_=>rfl
 | m::ns,v::vs,h=>by
  have h1:v = .int .i64 m:=by simpa [VR] using h.1
  rw [h1,jY h.2]; rfl
 | [],_::_,h=>h.elim
 | _::_,[],h=>h.elim
theorem ko:∀ns ms:List Int,mr (ns.map fun n=>AV.int .i64 n) (ms.map fun n=>AV.int .i64 n)=decide (ns=ms)
 | [],[]=>rfl
 | [],_::_=>rfl
 | _::_,[]=>rfl
 | n::ns,m::ms=>by
  simp only [YJ,mr,ji,ko ns ms]
  by_cases h1:n=m<;>by_cases h2:ns=ms<;>simp [h1,h2]
theorem gT {t:TypeId}(w:World)(ht:P.underlying t=some (.int .i64)){ns:List Int}{vs:Array Value}(hv:vs.toList=ints ns){i:Nat}{m:Int}(hi:ns[i]? = some m):(part t vs i).run P w = .ok (.int .i64 m) w:=by
 have h2:vs[i]? = some (.int .i64 m):=by rw [←ZC,hv]; simp [ints,hi]
 simp [part,isAgg,bz ht,h2]
theorem kT {e:TypeId}(d:Nat)(w:World)(he:P.underlying e=some (.int .i64)){xs ys:Array Value}{ns ms:List Int}(hx:xs.toList=ints ns)(hy:ys.toList=ints ms)(hl:ns.length=ms.length) :
  ∀m i,i+m=ns.length→(Op.eqItems (d+1) e 1 xs ys (List.range' i m)).run P w = .ok (decide (ns.drop i=ms.drop i)) w
 | 0,i,h=>by
  have h1:ns.drop i=[]:=by simp; omega
  have h2:ms.drop i=[]:=by simp; omega
  simp [Op.eqItems,h1,h2]
 | m+1,i,h=>by
  have ih:=kT d w he hx hy hl m (i+1) (by omega)
  rw [List.range'_succ]
  simp only [Op.eqItems,ZQ,Sem.run_bind,gT w he hx (Yv (show i<ns.length by omega)),gT w he hy (Yv (show i<ms.length by omega)),Result.andThen_ok,run_equalIn_int w d e .i64 .i64 _ _ he]
  have e1:ns.drop i=ns[i]::ns.drop (i+1):=Yz (by omega)
  have e2:ms.drop i=ms[i]::ms.drop (i+1):=Yz (by omega)
  rw [e1,e2]
  clear e1 e2
  generalize ns[i]=a
  generalize ms[i]=b
  by_cases h3:a=b
  ·simp [h3,ih]
  ·simp [h3]
def yI (P : Program) (f : Field) (i : Nat) : Bool := f.name != "_" && f.offset == i && (P.underlying f.type matches some (.int .i64)) && ez P f.type == some 1
theorem kp (d:Nat)(w:World){xs ys:Array Value}{ns ms:List Int}(hx:xs.toList=ints ns)(hy:ys.toList=ints ms)(hl:ns.length=ms.length) :
  ∀(fs:List Field) (i:Nat),i+fs.length=ns.length→(fs.zipIdx i).all (fun (f,j)=>yI P f j)=true→(Op.eqFields (d+1) xs ys fs).run P w = .ok (decide (ns.drop i=ms.drop i)) w
 | [],i,h,_=>by
  have h1:ns.drop i=[]:=by simp at h ⊢; omega
  have h2:ms.drop i=[]:=by simp at h ⊢; omega
  simp [Op.eqFields,h1,h2]
 | f::fs,i,h,ha=>by
  simp only [List.zipIdx_cons,Zg,Yo] at ha
  obtain⟨hf,ha⟩:=ha
  simp only [YD] at h
  have ih:=kp d w hx hy hl fs (i+1) (by omega) ha
  simp only [yI,Yo,bne_iff_ne,ne_eq,beq_iff_eq] at hf
  obtain⟨⟨⟨f1,f2⟩,f3⟩,f4⟩:=hf
  have Qo:P.underlying f.type=some (.int .i64):=by
   revert f3
   split<;>simp_all
  simp only [Op.eqFields,f1,ne_eq,not_false_eq_true,if_true,Sem.run_bind,f2,gT w Qo hx (Yv (show i<ns.length by omega)),gT w Qo hy (Yv (show i<ms.length by omega)),Result.andThen_ok,run_equalIn_int w d f.type .i64 .i64 _ _ Qo]
  have e1:ns.drop i=ns[i]::ns.drop (i+1):=Yz (by omega)
  have e2:ms.drop i=ms[i]::ms.drop (i+1):=Yz (by omega)
  rw [e1,e2]
  clear e1 e2
  generalize ns[i]=a
  generalize ms[i]=b
  by_cases h3:a=b
  ·simp [h3,ih]
  ·simp [h3]
theorem kU {t:TypeId}(h:(P.underlying t matches some (.int .i64))=true):P.underlying t=some (.int .i64):=by
 revert h
 split<;>simp_all
theorem DG {t:TypeId}{m:Nat}(h:ez P t=some m):∃i,P.info? t=some i∧P.cellsOf t=m:=by
 unfold ez at h
 rw [Yl] at h
 obtain⟨i,hi,rfl⟩:=h
 exact⟨i,hi,by simp [Program.cellsOf,hi]⟩
theorem bytes_beq (a b:ByteArray):(a.toList==b.toList)=(a.data.toList==b.data.toList):=by
 rw [ByteArray.toList_eq,ByteArray.toList_eq]
theorem vJ {c:Cx}{L:Nat→Prop}{t:TypeId}{x y:AV}{v u:Value}(d:Nat)(hx:gf P t x=true)(hs:sameShape x y=true)(hv:VR c L x v)(hu:VR c L y u)(w:World) :
  (Op.equalIn (d+2) t v u).run P w = .ok (gd x y) w:=by
 cases hd:P.underlying t with
 | none=>simp [gf,hd] at hx
 | some td=>
 cases td<;>simp only [gf,hd] at hx<;>try (cases hx; done)
 ·rename_i q
  cases x<;>simp only at hx<;>try (cases hx; done)
  rename_i k a
  cases y<;>simp only [sameShape] at hs<;>try (cases hs; done)
  rename_i l b
  simp only [VR] at hv hu
  subst hv; subst hu
  simp only [beq_iff_eq] at hs hx
  subst hs; subst hx
  rw [run_equalIn_int w (d+1) t _ _ a b hd]
  simp [gd,ji]
 ·cases x<;>simp only at hx<;>try (cases hx; done)
  rename_i a
  cases y<;>simp only [sameShape] at hs<;>try (cases hs; done)
  rename_i b
  simp only [VR] at hv hu
  subst hv; subst hu
  rw [run_equalIn_string w (d+1) t a b hd,bytes_beq]
  simp [gd,ji]
 ·rename_i n e
  cases x<;>simp only at hx<;>try (cases hx; done)
  rename_i cs
  cases y<;>simp only [sameShape] at hs<;>try (cases hs; done)
  rename_i fF
  simp only [Yo,beq_iff_eq] at hx hs
  obtain⟨⟨⟨h1,h2⟩,h3⟩,h4⟩:=hx
  obtain⟨ns,rfl⟩:=ic hs.1.2
  obtain⟨ms,rfl⟩:=ic hs.2
  simp only [VR] at hv hu
  obtain⟨xs,rfl,hxs⟩:=hv
  obtain⟨ys,rfl,Qp⟩:=hu
  obtain⟨i,hi,Qq⟩:=DG h4
  have hl:ns.length=ms.length:=by simpa using hs.1.1
  rw [run_equalIn_array w (d+1) xs ys hd hi,Qq]
  have:=kT (P:=P) d w (kU h3) (jY hxs) (jY Qp) hl n 0 (by simpa using h1.symm)
  rw [List.range_eq_range',this,gd,ko]
  simp
 ·rename_i fs
  cases x<;>simp only at hx<;>try (cases hx; done)
  rename_i cs
  cases y<;>simp only [sameShape] at hs<;>try (cases hs; done)
  rename_i fF
  simp only [Yo,beq_iff_eq,ZF] at hx hs
  obtain⟨⟨⟨h1,h2⟩,h3⟩,h4⟩:=hx
  obtain⟨ns,rfl⟩:=ic hs.1.2
  obtain⟨ms,rfl⟩:=ic hs.2
  simp only [VR] at hv hu
  obtain⟨xs,rfl,hxs⟩:=hv
  obtain⟨ys,rfl,Qp⟩:=hu
  have hl:ns.length=ms.length:=by simpa using hs.1.1
  have hf:P.fieldsOf t=fs:=by simp [Program.fieldsOf,hd]
  rw [run_equalIn_struct w (d+1) t xs ys (by rw [hf]; exact hd) h4,hf]
  have:=kp (P:=P) d w (jY hxs) (jY Qp) hl fs.toList 0 (by simpa using h1.symm) h3
  rw [this,gd,ko]
  simp
theorem mA {α:Type}(w:World)(f:α→PUnit→Sem (ForInStep PUnit)):∀l:List α,(∀x∈l,(f x PUnit.unit).run P w = .ok (.yield PUnit.unit) w)→(forIn l PUnit.unit f).run P w = .ok PUnit.unit w
 | [],_=>by simp
 | x::xs,h=>by
  have ih:=mA w f xs (fun y hy=>h y (by simp [hy]))
  simp only [List.forIn_cons,Sem.run_bind,h x (by simp),Result.andThen_ok]
  exact ih
theorem nF {c:Cx}{L:Nat→Prop}{t:TypeId}{x:AV}{v:Value}(em:Bool)(d:Nat)(hx:gf P t x=true)(hv:VR c L x v)(w:World) :
  (Instr.checkKey em (d+2) t v).run P w = .ok () w:=by
 have one:∀(e:TypeId) (m:Int),P.underlying e=some (.int .i64)→(Instr.checkKey em (d+1) e (.int .i64 m)).run P w = .ok () w:=by
  intro e m he
  simp [Instr.checkKey,bz he]
 cases hd:P.underlying t with
 | none=>simp [gf,hd] at hx
 | some td=>
 cases td<;>simp only [gf,hd] at hx<;>try (cases hx; done)
 ·cases x<;>simp only at hx<;>try (cases hx; done)
  simp only [VR] at hv
  subst hv
  simp [Instr.checkKey,bz hd]
 ·cases x<;>simp only at hx<;>try (cases hx; done)
  simp only [VR] at hv
  subst hv
  simp [Instr.checkKey,bz hd]
 ·rename_i n e
  cases x<;>simp only at hx<;>try (cases hx; done)
  rename_i cs
  simp only [Yo,beq_iff_eq] at hx
  obtain⟨⟨⟨h1,h2⟩,h3⟩,h4⟩:=hx
  obtain⟨ns,rfl⟩:=ic h2
  simp only [VR] at hv
  obtain⟨xs,rfl,hxs⟩:=hv
  rw [Instr.checkKey]
  simp only [Sem.run_bind,bz hd,Result.andThen_ok]
  simp only [Std.Legacy.Range.forIn_eq_forIn_range',Std.Legacy.Range.size,Nat.sub_zero,Nat.add_one_sub_one,Nat.div_one]
  rw [mA w _ (List.range' 0 n) (fun i hi=>?_)]
  ·rfl
  ·have Aw:i<ns.length:=by simp at hi h1; omega
   simp only [Sem.run_bind,du h4,Result.andThen_ok,ZQ]
   rw [gT w (kU h3) (jY hxs) (Yv Aw)]
   simp only [Result.andThen_ok,one e _ (kU h3)]
   rfl
 ·rename_i fs
  cases x<;>simp only at hx<;>try (cases hx; done)
  rename_i cs
  simp only [Yo,beq_iff_eq,ZF] at hx
  obtain⟨⟨⟨h1,h2⟩,h3⟩,h4⟩:=hx
  obtain⟨ns,rfl⟩:=ic h2
  simp only [VR] at hv
  obtain⟨xs,rfl,hxs⟩:=hv
  rw [Instr.checkKey]
  simp only [Sem.run_bind,bz hd,Result.andThen_ok]
  rw [←Array.forIn_toList]
  rw [mA w _ fs.toList (fun f hf=>?_)]
  ·rfl
  ·obtain⟨i,hi,rfl⟩:=List.mem_iff_getElem.1 hf
   have hm:(fs.toList[i],i)∈fs.toList.zipIdx:=by rw [List.mem_zipIdx_iff_getElem?]; simp [hi]
   have hh:=YK.1 h3 _ hm
   generalize fs.toList[i]=f at hh
   simp only [Yo,bne_iff_ne,ne_eq,beq_iff_eq] at hh
   obtain⟨⟨⟨f1,f2⟩,f3⟩,f4⟩:=hh
   have Aw:i<ns.length:=by simp at hi h1; omega
   rw [if_pos f1,f2]
   simp only [Sem.run_bind]
   rw [gT w (kU f3) (jY hxs) (Yv Aw)]
   simp only [Result.andThen_ok,one _ _ (kU f3)]
   rfl
end
end Go.R
