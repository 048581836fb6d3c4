/- Part of the proof: RCore, RRel, RFrame, ROps1, ROps2, RKeys. -/
import GoSem.Dispatch
import GoSem.Machine.Return
import Derived.Orders
import Derived.Below
import Derived.Laws.World
import Derived.Laws.Sem
import Derived.Tactics
import Derived.Laws.Cells
import Derived.Laws.Entries
import Derived.ChangeKeysEq
import Derived.WideKeyRuns
set_option linter.unusedVariables false
set_option linter.unusedSimpArgs false
set_option maxRecDepth 100000
open Array renaming getElem?_eq_some_iff → UH, getElem?_setIfInBounds → U7
open Bool renaming and_eq_true → Ud, false_eq_true → Um, not_eq_true' → Vf
open List renaming getElem?_eq_some_iff → Uh, getElem?_eq_getElem → Uj, drop_eq_getElem_cons → Uo, length_cons → Up, mem_of_getElem? → Ut, all_eq_true → Uv, mem_cons → UA, map_cons → UC, all_cons → UZ
open Nat renaming le_refl → Ue, zero_add → Uy, lt_of_lt_of_le → Uz, beq → UL, le_trans → UT, add_assoc → U6, eq_of_beq_eq_true → Vb, le_succ → Vi, add_mul → Vj, add_sub_cancel_left → Vp, add_right_comm → Vr, ble → Vv
open Option renaming bind_eq_some_iff → T9, map_eq_some_iff → Ub
open Option.some renaming injEq → Uc
open Prod.mk renaming injEq → Ui
namespace Go.R
open Go
inductive AV where
 | any
 | bool (b:Bool)
 | int (k:IntKind) (n:Int)
 | str (s:ByteArray)
 | nn
 | ptr (id off:Nat)
 | lp (k off:Nat)
 | fp (cs:List AV) (off:Nat)
 | nils
 | fz (cs:List AV) (n:Nat) (ex:Bool)
 | rs (id off len gZ:Nat)
 | lC
 | mp (id:Nat)
 | fn (f:FuncId) (cap:List AV)
 | nL
 | agg (cs:List AV)
 | tup (vs:List AV)
 deriving Inhabited
inductive AObj where
 | cells (cs:List AV)
 | map (es:List (AV × AV))
 | row (e:TypeId) (cs:List AV)
 deriving Inhabited
structure AHeap where
 get:Nat→Option AObj
 ver:Nat→Nat
 next:Nat
def AHeap.put (h:AHeap)(id:Nat)(o:AObj):AHeap:={get:=fun i=>bif UL i id then some o else h.get i,ver:=fun i=>bif UL i id then h.next else h.ver i,next:=h.next+1}
def AHeap.kill (h:AHeap)(id:Nat):AHeap:={get:=fun i=>bif UL i id then none else h.get i,ver:=fun i=>bif UL i id then h.next else h.ver i,next:=h.next+1}
def AHeap.alloc (h:AHeap)(o:AObj):AHeap:=h.put h.next o
def AV.cells:AV→List AV
 | .agg cs=>cs
 | v=>[v]
def AV.bP:AV→Bool
 | .any | .lp .. | .agg _ | .tup _=>false
 | _=>true
def AV.kh:AV→Bool
 | .lp .. | .any=>false
 | .agg cs=>cs.all AV.bP
 | _=>true
mutual
def AV.dM:AV→Bool
 | .any | .lp .. | .ptr .. | .rs .. | .mp _=>false
 | .fp cs _ | .fz cs _ _ | .agg cs | .tup cs | .fn _ cs=>cw cs
 | _=>true
def cw:List AV→Bool
 | []=>true
 | x::xs=>x.dM&&cw xs
end
mutual
def AV.iS:AV→AV
 | .nils=>.fz [] 0 false
 | .fz cs n _=>.fz (dh cs) n false
 | .fp cs off=>.fp (dh cs) off
 | .agg cs=>.agg (dh cs)
 | .tup cs=>.tup (dh cs)
 | .fn f cs=>.fn f (dh cs)
 | x=>x
def dh:List AV→List AV
 | []=>[]
 | x::xs=>x.iS::dh xs
end
def AV.fN:AV→Option Value
 | .bool b=>some (.bool b)
 | .int k n=>some (.int k n)
 | .str s=>some (.string s)
 | .nn=>some (.pointer none)
 | .nL=>some .nilFunc
 | .lC=>some (.map none)
 | .nils=>some (.slice none 0 0)
 | _=>none
def iB:List AV→Option (List Value)
 | []=>some []
 | x::xs=>(x.fN).bind fun v=>(iB xs).bind fun vs=>some (v::vs)
def AV.xO:AV→Option Value
 | .agg cs=>(iB cs).map fun vs=>.agg vs.toArray
 | v=>v.fN
def nM:Value→Option AV
 | .bool b=>some (.bool b)
 | .int k n=>some (.int k n)
 | .string s=>some (.str s)
 | .pointer none=>some .nn
 | .slice none 0 0=>some .nils
 | .map none=>some .lC
 | .nilFunc=>some .nL
 | _=>none
def pG:List Value→Option (List AV)
 | []=>some []
 | x::xs=>(nM x).bind fun v=>(pG xs).bind fun vs=>some (v::vs)
def CA:Value→Option AV
 | .agg cs=>(pG cs.toList).map .agg
 | v=>nM v
def ib {α:Type}(P:Program):Sem α→Option α
 | .pure a=>some a
 | .program k=>ib P (k P)
 | _=>none
def bG (ρ:Nat→AV):Operand→AV
 | .tmp t=>ρ t
 | .const v=>(CA v).getD .any
 | .func f=>.fn f []
 | .global _=>.any
section
variable (P:Program)
def eL (t:TypeId):Option Nat:=(P.info? t).map (·.size)
def ic (t:TypeId):Option AV:=(P.info? t).bind fun i=>i.zero.bind CA
def fC (t:TypeId):Option Bool:=(P.underlying t).map fun | .struct _ | .array _ _=>true | _=>false
def iC (t:TypeId)(cs:List AV)(off:Nat):Option AV:=
 (fC P t).bind fun ag=>if ag then (eL P t).bind fun n=>if off+n≤cs.length then some (.agg ((cs.drop off).take n)) else none else cs[off]?
def cX:List AV→Nat→List AV→List AV
 | cs,_,[]=>cs
 | cs,i,v::vs=>cX (cs.set i v) (i+1) vs
def gD (t:TypeId)(cs:List AV)(off:Nat)(v:AV):Option (List AV):=
 (eL P t).bind fun n=>if v.cells.length=n∧v.cells.all AV.bP∧off+n≤cs.length then some (cX cs off v.cells) else none
def qX (place:Nat→Option (Nat × Nat))(cells:List AV):List (Nat × AV)→Option (List AV)
 | []=>some cells
 | (i,v)::rest=>
  (place i).bind fun (off,size)=>
   if v.cells.length=size∧v.cells.all AV.bP∧off+size≤cells.length then qX place (cX cells off v.cells) rest else none
def xP (fs:List Field)(i:Nat):Option (Nat × Nat):=(fs[i]?).bind fun f=>(eL P f.type).map fun n=>(f.offset,n)
def xQ (t:TypeId)(parts:List (Nat × AV)):Option AV:=
 (ic P t).bind fun z=>(P.underlying t).bind fun
  | .struct fs=>if fs.toList.all (fun f=>(eL P f.type).isSome) then (qX (xP P fs.toList) z.cells parts).map .agg else none
  | .array _ e=>(eL P e).bind fun n=>(qX (fun i=>some (i*n,n)) z.cells parts).map .agg
  | _=>none
def hH (z:List AV):Nat→List AV
 | 0=>[]
 | n+1=>z++hH z n
def gp (t:TypeId)(len:Nat)(parts:List (Nat × AV)):Option AV:=
 (P.underlying t).bind fun
  | .slice e=>(eL P e).bind fun n=>if n=0∨len*n > 16777216 then none else if len=0 then (if parts.isEmpty then some (.fz [] 0 true) else none) else
    (ic P e).bind fun z=>if z.cells.length=n then (qX (fun i=>some (i*n,n)) (hH z.cells len) parts).map fun cs=>.fz cs len true else none
  | _=>none
def AV.shift:AV→Nat→Option AV
 | .ptr id off,n=>some (.ptr id (off+n))
 | .lp k off,n=>some (.lp k (off+n))
 | .fp cs off,n=>some (.fp cs (off+n))
 | _,_=>none
def np (s:TypeId)(x:AV)(f:Nat):Option AV:=
 (P.underlying s).bind fun
  | .struct fs=>(fs[f]?).bind fun fd=>(eL P fd.type).bind fun n=>if n=0 then none else x.shift fd.offset
  | _=>none
def eD (t:TypeId)(x i:AV):Option AV:=
 match i with
 | .int _ i=>
  (P.underlying t).bind fun
   | .array len e=>(eL P e).bind fun n=>if 0≤i∧i<len then x.shift (i.toNat*n) else none
   | .slice e=>(eL P e).bind fun n=>
    match x with
    | .fz cs len _=>if 0≤i∧i<len∧i.toNat*n<cs.length then some (.fp cs (i.toNat*n)) else none
    | .rs id off len gZ=>if gZ=n∧0≤i∧i<len then some (.ptr id (off+i.toNat*n)) else none
    | _=>none
   | _=>none
 | _=>none
def zc (t:TypeId)(cs:List AV)(off:Nat):Option AV:=iC P t cs off
def xR (s:TypeId)(x:AV)(f:Nat):Option AV:=
 match x with
 | .agg cs=>(P.underlying s).bind fun
  | .struct fs=>(fs[f]?).bind fun fd=>zc P fd.type cs fd.offset
  | _=>none
 | _=>none
def oS (t:TypeId)(x i:AV):Option AV:=
 match i with
 | .int _ i=>
  (P.underlying t).bind fun
   | .array len e=>match x with
    | .agg cs=>(eL P e).bind fun n=>if 0≤i∧i<len then zc P e cs (i.toNat*n) else none
    | _=>none
   | .string=>match x with
    | .str s=>if 0≤i then (s.data.toList[i.toNat]?).map fun b=>.int .u8 b.toNat else none
    | _=>none
   | _=>none
 | _=>none
def jK (len cap:Nat)(lo hi:Option AV):Option (Nat × Nat):=
 (match hi with | none=>some len | some (.int _ i)=>if 0≤i∧i≤cap then some i.toNat else none | _=>none).bind fun h=>
 (match lo with | none=>some 0 | some (.int _ i)=>if 0≤i∧i≤h then some i.toNat else none | _=>none).bind fun l=>some (l,h)
def isZero:Option AV→Bool
 | none=>true
 | some (.int _ i)=>i==0
 | _=>false
def kO (t:TypeId)(x:AV)(lo hi mx:Option AV):Option AV:=
 (P.underlying t).bind fun
  | .string=>match x,mx with
   | .str s,none=>(jK s.size s.size lo hi).map fun (l,h)=>.str (s.extract l h)
   | _,_=>none
  | .slice e=>(eL P e).bind fun n=>
   match mx with
   | some m=>match hi with
    | some _=>if isZero lo&&isZero hi&&isZero (some m) then (match x with | .fz .. | .rs ..=>some (.fz [] 0 true) | .nils=>some .nils | _=>none) else none
    | none=>none
   | none=>
    match x with
    | .nils=>(jK 0 0 lo hi).map fun _=>.nils
    | .fz cs len ex=>(jK len len lo hi).map fun (l,h)=>.fz ((cs.drop (l*n)).take ((h - l)*n)) (h - l) (ex&&h==len)
    | .rs id off len gZ=>if gZ=n then (jK len len lo hi).map fun (l,h)=>.rs id (off+l*n) (h - l) gZ else none
    | _=>none
  | _=>none
def dS (h:AHeap)(size:Nat)(x:AV):Option (List AV × Nat):=
 match x with
 | .nils=>some ([],0)
 | .fz cs n _=>if cs.length=n*size then some (cs,n) else none
 | .rs id off len gZ=>if id=0∨(len=0∧(h.get id).isNone=true) then (if len=0 then some ([],0) else none) else (h.get id).bind fun
  | .cells cs=>if gZ=size∧off+len*size≤cs.length then some ((cs.drop off).take (len*size),len) else none
  | _=>none
 | .str s=>if size=1 then some (s.data.toList.map fun b=>.int .u8 b.toNat,s.size) else none
 | _=>none
def gg:Nat:=1099511627776
def ie (t2:TypeId)(x:AV):Bool:=
 match x with
 | .str _=>(P.underlying t2 matches some .string)
 | _=>(P.underlying t2 matches some (.slice _))
def GK (i:TypeInfo):Bool:=match i.zero.bind CA with | some z=>z.cells.length==i.size | none=>false
def ji:AV→AV
 | .nils=>.fz [] 0 false
 | x=>x
def fc (h:AHeap)(size:Nat)(x:AV):Option (List AV × Nat):=(dS h size x).map fun p=>(p.1.map ji,p.2)
def dq (h:AHeap)(t t2:TypeId)(s x:AV):Option (AV × AHeap):=
 (P.underlying t).bind fun
  | .slice e=>(P.info? e).bind fun i=>
   (fc h i.size x).bind fun (new,n)=>
    if i.size=0∨ie P t2 x=false∨GK i=false then none else
    match s with
    | .nils=>if n*i.bytes > gg∨n > gg then none else if n=0 then some (.rs 0 0 0 i.size,h) else some (.rs h.next 0 n i.size,h.alloc (.cells new))
    | .fz cs len true=>if (len+n)*i.bytes > gg∨len+n > gg∨cs.length≠len*i.size then none else if n=0 then (if len=0 then some (.rs 0 0 0 i.size,h) else some (s,h)) else some (.rs h.next 0 (len+n) i.size,h.alloc (.cells (cs++new)))
    | .rs id off len gZ=>if id=0 then (if n*i.bytes > gg∨n > gg∨gZ≠i.size then none else if n=0 then some (s,h) else some (.rs h.next 0 n i.size,h.alloc (.cells new))) else (h.get id).bind fun
     | .cells cs=>if gZ≠i.size∨off+len*gZ > cs.length∨(len+n)*i.bytes > gg∨len+n > gg then none else
       if n=0 then some (s,h) else some (.rs h.next 0 (len+n) gZ,(h.kill id).put h.next (.cells ((cs.drop off).take (len*gZ)++new)))
     | _=>none
    | _=>none
  | _=>none
def iD:AV→AV→Bool
 | .int k a,.int l b=>k==l&&a==b
 | .str a,.str b=>a.data.toList==b.data.toList
 | .bool a,.bool b=>a==b
 | _,_=>false
def kP:List AV→List AV→Bool
 | [],[]=>true
 | x::xs,y::ys=>iD x y&&kP xs ys
 | _,_=>false
def eY:AV→AV→Bool
 | .agg xs,.agg ys=>kP xs ys
 | x,y=>iD x y
def jL:AV→Bool
 | .int .i64 _=>true
 | _=>false
def fO (t:TypeId)(k:AV):Bool:=
 match P.underlying t,k with
 | some (.int q),.int k _=>q==k
 | some .string,.str _=>true
 | some (.array n e),.agg cs=>cs.length==n&&cs.all jL&&(P.underlying e matches some (.int .i64))&&eL P e==some 1
 | some (.struct fs), .agg cs => cs.length == fs.size && cs.all jL && fs.toList.zipIdx.all (fun (f, i) => f.name != "_" && f.offset == i && (P.underlying f.type matches some (.int .i64)) && eL P f.type == some 1) && !P.stoodInHeld t
 | _,_=>false
def sameShape:AV→AV→Bool
 | .int k _,.int l _=>k==l
 | .str _,.str _=>true
 | .agg xs,.agg ys=>xs.length==ys.length&&xs.all jL&&ys.all jL
 | _,_=>false
def ig (k:AV):List (AV × AV)→Option (Option AV)
 | []=>some none
 | (k',v)::es=>if sameShape k k' then (if eY k k' then some (some v) else ig k es) else none
def uc (k v:AV):List (AV × AV)→Option (List (AV × AV))
 | []=>some [(k,v)]
 | (k',v')::es=>if sameShape k k' then (if eY k k' then some ((k,v)::es) else (uc k v es).map ((k',v') :: ·)) else none
def fD (h:AHeap)(t:TypeId)(m k:AV)(ok:Bool):Option AV:=
 (P.underlying t).bind fun
  | .map kt et=>if fO P kt k=false then none else
   (match m with
    | .lC=>some []
    | .mp id=>(h.get id).bind fun | .map es=>some es | _=>none
    | _=>none).bind fun es=>
   (ig k es).bind fun
   | some v=>some (if ok then .tup [v,.bool true] else v)
   | none=>(ic P et).map fun z=>if ok then .tup [z,.bool false] else z
  | _=>none
def ij (h:AHeap)(t:TypeId)(m k v:AV):Option AHeap:=
 (P.underlying t).bind fun
  | .map kt _=>if fO P kt k=false∨v.kh=false then none else
   match m with
   | .mp id=>(h.get id).bind fun | .map es=>(uc k v es).map fun pH=>h.put id (.map pH) | _=>none
   | _=>none
  | _=>none
def qY (h:AHeap)(t:TypeId)(x:AV):Option AV:=
 (P.underlying t).bind fun
  | .slice _=>match x with
   | .nils=>some (.int .i64 0)
   | .fz _ n _=>some (.int .i64 n)
   | .rs _ _ n _=>some (.int .i64 n)
   | _=>none
  | .string=>match x with
   | .str s=>some (.int .i64 s.size)
   | _=>none
  | .map _ _=>match x with
   | .lC=>some (.int .i64 0)
   | .mp id=>(h.get id).bind fun | .map es=>some (.int .i64 es.length) | _=>none
   | _=>none
  | _=>none
def pI (h:AHeap)(t t2:TypeId)(d x:AV):Option (AV × AHeap):=
 (P.underlying t).bind fun
  | .slice e=>(P.info? e).bind fun i=>(dS h i.size x).bind fun (new,m)=>
   if ie P t2 x=false then none else
   match d with
   | .rs id off len gZ=>if id=0 then (if m=0 then some (.int .i64 0,h) else none) else (h.get id).bind fun
    | .cells cs=>if gZ=i.size∧m≤len∧off+m*i.size≤cs.length then some (.int .i64 m,h.put id (.cells (cX cs off new))) else none
    | _=>none
   | .nils=>if m=0 then some (.int .i64 0,h) else none
   | _=>none
  | _=>none
def kQ (h:AHeap)(t:TypeId)(x:AV):Option AHeap:=
 (P.underlying t).bind fun ty=>match x with
 | .lC=>some h
 | .mp id=>(h.get id).bind fun | .map _=>some (h.put id (.map [])) | _=>none
 | .rs id off len gZ=>if len=0 then some h else if id=0 then none else match ty with
  | .slice e=>(P.info? e).bind fun i=>(ic P e).bind fun z=>(h.get id).bind fun
   | .cells cs=>if gZ=i.size∧z.cells.length=i.size∧i.size≠0∧z.cells.all AV.bP∧off+len*gZ≤cs.length then some (h.put id (.cells (cX cs off (hH z.cells len)))) else none
   | _=>none
  | _=>none
 | _=>none
def gr (h:AHeap)(t:TypeId)(l c:AV):Option (AV × AHeap):=
 match l,c with
 | .int .i64 l,.int .i64 c=>
  (P.underlying t).bind fun
   | .slice e=>(P.info? e).bind fun i=>(ic P e).bind fun z=>
    if 0≤l∧l≤c∧c*i.bytes≤gg∧z.cells.length=i.size∧i.size≠0∧c≤1099511627776∧z.cells.all AV.bP then some (.rs h.next 0 l.toNat i.size,h.alloc (.cells (hH z.cells l.toNat))) else none
   | _=>none
 | _,_=>none
def GL:List AV→Option (List UInt8)
 | []=>some []
 | .int .u8 n::xs=>(GL xs).map fun l=>UInt8.ofNat n.toNat::l
 | _::_=>none
def CB (e:TypeId):Bool:=(P.underlying e matches some (.int .u8))&&eL P e==some 1
def lM (h:AHeap)(src dst:TypeId)(x:AV):Option AV:=
 match P.underlying src,P.underlying dst with
 | some (.slice e),some .string=>if CB P e then (dS h 1 x).bind fun (cs,_)=>(GL cs).map fun l=>.str ⟨l.toArray⟩ else none
 | some .string,some (.slice e)=>match x with
  | .str s=>if CB P e then some (.fz (s.data.toList.map fun b=>.int .u8 b.toNat) s.size false) else none
  | _=>none
 | some (.slice _),some (.slice e)=>match x with
  | .fz cs n true=>if src==dst&&CB P e&&0<cs.length then some (.fz cs n true) else none
  | _=>none
 | _,_=>(x.fN).bind fun v=>(ib P (convert src dst v)).bind nM
def xS (op:BinOp)(x y:ByteArray):Option AV:=
 let a:=x.data.toList
 let b:=y.data.toList
 match op with
 | .add=>if x.size+y.size≤1099511627776 then some (.str (x++y)) else none
 | .eql=>some (.bool (a==b))
 | .neq=>some (.bool (!(a==b)))
 | .lss=>some (.bool (Op.bytesLess a b))
 | .leq=>some (.bool (Op.bytesLess a b||a==b))
 | .gtr=>some (.bool (!(Op.bytesLess a b||a==b)))
 | .geq=>some (.bool (!Op.bytesLess a b))
 | _=>none
def xT:BinOp→Option Bool
 | .eql=>some true
 | .neq=>some false
 | _=>none
def lN (op:BinOp)(t:TypeId)(x y:AV):Option AV:=
 match x,y with
 | .str a,.str b=>xS op a b
 | .ptr ..,.nn | .nn,.ptr .. | .fp ..,.nn=>(xT op).bind fun oQ=>if (P.underlying t matches some (.pointer _)) then some (.bool (!oQ)) else none
 | .fz (_::_) ..,.nils | .rs (_+1) ..,.nils=>(xT op).bind fun oQ=>if (P.underlying t matches some (.slice _)) then some (.bool (!oQ)) else none
 | .agg _,.agg _=>(xT op).bind fun oQ=>if fO P t x&&fO P t y&&sameShape x y && !P.eqGuardType P.depth t then some (.bool (eY x y==oQ)) else none
 | x,y=>(x.fN).bind fun a=>(y.fN).bind fun b=>(ib P (binOp op t a b)).bind nM
def kR (op:Value→Value→Sem Value):Value→List Value→Option Value
 | v,[]=>some v
 | v,x::xs=>(ib P (op v x)).bind fun u=>kR op u xs
structure RS where
 ρ:Nat→AV
 bx:Nat→Option (List AV)
 h:AHeap
def RS.set (s:RS)(d:Option Nat)(v:AV):RS:=
 match d with
 | none=>s
 | some d=>{s with ρ:=fun t=>bif UL t d then v else s.ρ t}
def RS.box (s:RS)(k:Nat)(cs:List AV):RS:={s with bx:=fun t=>bif UL t k then some cs else s.bx t}
abbrev CallF:=FuncId→List AV→AHeap→Option (AV × AHeap)
def qZ (k:Nat)(ρ:Nat→AV):List Nat→Bool
 | []=>true
 | t::ts=>(match ρ t with | .lp j _=>j != k | _=>true)&&qZ k ρ ts
def gX (s:RS)(aE ds:List Nat)(o:Oper)(cs:List AV):Option RS:=
 if cs.all AV.bP then
  match o.dst with
  | some d=>if aE.contains d then (if qZ d s.ρ (ds.filter fun t=>!Nat.beq t d) then some ((s.box d cs).set (some d) (.lp d 0)) else none) else some ({s with h:=s.h.alloc (.cells cs)}.set (some d) (.ptr s.h.next 0))
  | none=>none
 else none
def q6:AV→Option Bool
 | .bool b=>some b
 | _=>none
def fw (s:RS)(o:Oper)(b:Builtin)(ts:List TypeId)(args:List AV):Option RS:=
 match b,ts,args with
 | .len,[t],[x]=>(qY P s.h t x).map fun v=>s.set o.dst v
 | .append,[t,t2],[x,y]=>(dq P s.h t t2 x y).map fun (v,h)=>{s with h}.set o.dst v
 | .copy,[t,t2],[x,y]=>(pI P s.h t t2 x y).map fun (v,h)=>{s with h}.set o.dst v
 | .clear,[t],[x]=>(kQ P s.h t x).map fun h=>{s with h}.set o.dst (.tup [])
 | .min,_,x::xs=>(x.fN).bind fun v=>(iB xs).bind fun vs=>(kR P Builtin.min2 v vs).bind fun u=>(nM u).map fun r=>s.set o.dst r
 | .max,_,x::xs=>(x.fN).bind fun v=>(iB xs).bind fun vs=>(kR P Builtin.max2 v vs).bind fun u=>(nM u).map fun r=>s.set o.dst r
 | _,_,_=>none
def jj (bx:Nat→Option (List AV))(h:AHeap)(t:TypeId)(x:AV):Option AV:=
 match x with
 | .lp k off=>(bx k).bind fun cs=>iC P t cs off
 | .fp cs off=>if cs.isEmpty then none else iC P t cs off
 | .ptr id off=>(h.get id).bind fun | .cells cs=>iC P t cs off | _=>none
 | _=>none
def oT:AV→Option AV
 | .ptr id off=>some (.ptr id off)
 | .lp k off=>some (.lp k off)
 | .fp cs off=>some (.fp cs off)
 | _=>none
def q7:AV→Nat→Option AV
 | .tup vs,i=>vs[i]?
 | _,_=>none
def nq (aE:List Nat)(o:Oper)(t:TypeId)(x:AV):Option (List AV × Nat × Nat):=
 match o.dst,x with
 | some d,.fz (c::cs) n true=>bif aE.contains d then (match P.underlying t with
   | some (.slice e)=>match eL P e with
    | some z=>bif UL (c::cs).length (n*z) then some (c::cs,n,z) else none
    | none=>none
   | _=>none) else none
 | _,_=>none
def oU (aE:List Nat)(s:RS)(o:Oper)(t:TypeId)(x:AV):RS:=
 match nq P aE o t x with
 | none=>s.set o.dst x
 | some (cs,n,z)=>{s with h:=s.h.alloc (.cells cs)}.set o.dst (.rs s.h.next 0 n z)
def CC:List Nat→Nat→Nat
 | [],_=>0
 | k::ks,d=>bif UL (k % 1000000) d&&Vv 1000000 k then k / 1000000 else CC ks d
def sH (n:Nat):AV→AV
 | .nils=>.rs 0 0 0 n
 | x=>x
def xU (n:Nat):Nat→List AV→List AV
 | _,[]=>[]
 | j,x::xs=>(match n / 100 / 10 ^ j % 10 with | 0=>x | k=>sH k x)::xU n (j+1) xs
def Fj (cs:List AV):Nat→List AV
 | 0=>cs
 | n=>bif Vv 100 n then xU n 0 cs else cs.map (sH n)
def xV (aE:List Nat)(d:Option Nat)(cs:List AV):List AV:=
 match d with
 | none=>cs
 | some d=>Fj cs (CC aE d)
def Ho (aE:List Nat)(d:Option Nat):AV→AV
 | .agg cs=>.agg (xV aE d cs)
 | x=>x
def Bf (h:AHeap)(x:AV):Option (AV × AHeap):=
 if x.dM then some (x,h) else
 match x with
 | .rs id off len gZ=>if id=0 then (if len=0 then some (.fz [] 0 false,h) else none) else (h.get id).bind fun
  | .cells cs=>if off+len*gZ≤cs.length∧cw ((cs.drop off).take (len*gZ))=true then some (.fz ((cs.drop off).take (len*gZ)) len false,h.kill id) else none
  | _=>none
 | _=>none
def ud (h:AHeap):List AV→Option (List AV × AHeap)
 | []=>some ([],h)
 | x::xs=>(Bf h x).bind fun a=>(ud a.2 xs).map fun b=>(a.1::b.1,b.2)
def iL (k:Nat)(h:AHeap)(x:AV):Option (AV × AHeap):=
 match k with
 | 0=>
  match x with
  | .nils=>some (.fz [] 0 false,h)
  | .rs id off len gZ=>if id=0 then (if len=0 then some (.fz [] 0 false,h) else none) else (h.get id).bind fun
   | .cells cs=>if off+len*gZ≤cs.length then (ud (h.kill id) ((cs.drop off).take (len*gZ))).map fun r=>(.fz r.1 len false,r.2) else none
   | _=>none
  | .fz cs n _=>some (.fz cs n false,h)
  | _=>none
 | k+1=>
  match x with
  | .nils=>some (.rs 0 0 0 (k+1),h)
  | .fz [] 0 true=>some (.rs 0 0 0 (k+1),h)
  | .rs id off len gZ=>some (.rs id off len gZ,h)
  | _=>none
def JC (aE:List Nat)(d:Option Nat):Bool:=
 match d with
 | none=>false
 | some d=>aE.contains (1000000000+d)
def uf (aE:List Nat)(d:Option Nat)(x:AV × AHeap):Option (AV × AHeap):=
 bif JC aE d then iL 0 x.2 x.1 else some x
def xW (cf:CallF)(aE ds:List Nat)(e:Operand→AV)(s:RS)(o:Oper):Option RS:=
 let v (r:Option AV):Option RS:=r.map fun x=>s.set o.dst x
 match o.op with
 | .move x | .assign x=>some (s.set o.dst (e x))
 | .pick c a b=>(q6 (e c)).map fun t=>s.set o.dst (if t then e a else e b)
 | .alloc t=>(ic P t).bind fun z=>gX s aE ds o (xV aE o.dst z.cells)
 | .box _ x=>gX s aE ds o (e x).cells
 | .build t ps=>v ((xQ P t (ps.toList.map fun (i,x)=>(i,e x))).map (Ho aE o.dst))
 | .buildSlice t n ps=>(gp P t n (ps.toList.map fun (i,x)=>(i,e x))).map fun x=>oU P aE s o t x
 | .load t a=>v (jj P s.bx s.h t (e a))
 | .store t a x=>if o.dst.isSome then none else
  match e a with
  | .lp k off=>(s.bx k).bind fun cs=>(gD P t cs off (e x)).map fun eO=>s.box k eO
  | .ptr id off=>(s.h.get id).bind fun | .cells cs=>(gD P t cs off (e x)).map fun eO=>{s with h:=s.h.put id (.cells eO)} | _=>none
  | _=>none
 | .nilCheck x=>v (oT (e x))
 | .binOp op t x y _=>v (lN P op t (e x) (e y))
 | .unOp op _ x=>v ((e x).fN.bind fun a=>(ib P (Op.unary op a)).bind nM)
 | .convert a b x=>v (lM P s.h a b (e x))
 | .makeFunc (.func f) first cap=>if first.isEmpty∧(cap.toList.map e).all AV.bP then v (some (.fn f (cap.toList.map e))) else none
 | .makeMap _ none=>some ({s with h:=s.h.alloc (.map [])}.set o.dst (.mp s.h.next))
 | .makeSlice t l c=>(gr P s.h t (e l) (e c)).map fun (x,h)=>{s with h}.set o.dst x
 | .slice t x lo hi mx=>v (kO P t (e x) (lo.map e) (hi.map e) (mx.map e))
 | .fieldAddr t x f=>v (np P t (e x) f)
 | .field t x f=>v (xR P t (e x) f)
 | .indexAddr t x i=>v (eD P t (e x) (e i))
 | .index t x i=>v (oS P t (e x) (e i))
 | .lookup t m k ok=>v (fD P s.h t (e m) (e k) ok)
 | .mapUpdate t m k x | .insert t m k x=>if o.dst.isSome then none else (ij P s.h t (e m) (e k) (e x)).map fun h=>{s with h}
 | .extract t i=>v (q7 (e t) i)
 | .call {callee:=.builtin b,args,argTypes}=>fw P s o b argTypes.toList (args.toList.map e)
 | .call {callee:=.value f,args,..}=>
  match e f with
  | .fn f cap=>let as:=args.toList.map e
    if as.all AV.kh then ((cf f (as++cap) s.h).bind (uf aE o.dst)).map fun (r,h)=>{s with h}.set o.dst r else none
  | _=>none
 | _=>none
def ug (cf:CallF)(aE ds:List Nat)(s:RS)(o:Oper):Option RS:=xW P cf aE ds (bG s.ρ) s o
def gE (ops:List Oper)(ρ:Nat→AV)(o:Oper):Option Bool:=
 match o.guard with
 | none=>some true
 | some (j,want)=>((ops[j]?).bind (·.dst)).bind fun d=>match ρ d with
  | .bool b=>some (b==want)
  | .tup []=>some false
  | _=>none
def lO (cf:CallF)(aE:List Nat)(ops:List Oper)(s:RS)(o:Oper):Option RS:=
 (gE ops s.ρ o).bind fun w=>if w then ug P cf aE (ops.filterMap (·.dst)) s o else some (s.set o.dst (.tup []))
def p8 (cf:CallF)(aE:List Nat)(ops:List Oper):RS→List Oper→Option RS
 | s,[]=>some s
 | s,o::os=>(lO P cf aE ops s o).bind fun s'=>p8 cf aE ops s' os
end
structure ki where
 rb:List Nat:=[]
 wb:Option Nat:=none
 rh:List Nat:=[]
 wh:Bool:=false
 al:Bool:=false
def bc (aE:List Nat)(e:Operand→AV)(o:Oper):ki:=
 match o.op with
 | .alloc _ | .box _ _=>match o.dst with
  | some d=>if aE.contains d then {wb:=some d,al:=true} else {wh:=true}
  | none=>{}
 | .load _ a=>match e a with
  | .lp k _=>{rb:=[k]}
  | .ptr id _=>{rh:=[id]}
  | _=>{}
 | .store _ a _=>match e a with
  | .lp k _=>{rb:=[k],wb:=some k}
  | _=>{wh:=true}
 | .convert _ _ x=>match e x with
  | .rs id _ _ _=>{rh:=[id]}
  | _=>{}
 | .lookup _ m _ _=>match e m with
  | .mp id=>{rh:=[id]}
  | _=>{}
 | .buildSlice _ _ _=>match o.dst with
  | some d=>if aE.contains d then {wh:=true} else {}
  | none=>{}
 | .makeMap _ _ | .makeSlice _ _ _ | .mapUpdate _ _ _ _ | .insert _ _ _ _=>{wh:=true}
 | .call {callee:=.builtin b,args,..}=>match b,args.toList.map e with
  | .len,[.mp id]=>{rh:=[id]}
  | .len,_ | .min,_ | .max,_=>{}
  | _,_=>{wh:=true}
 | .call _=>{wh:=true}
 | _=>{}
structure lD where
 o:Oper
 f:ki
 s:RS
 s':RS
def lD.out (e:lD):AV:=
 match e.o.dst with
 | some d=>e.s'.ρ d
 | none=>.any
def ki.quiet (f:ki):Bool:=f.rb.isEmpty&&f.wb.isNone&&f.rh.isEmpty && !f.wh
def Hp (k:Nat):AV→Bool
 | .lp j _=>j==k
 | _=>false
def lD.iT (x y:lD):Bool:=
 (match x.f.wb with
  | some k=>!y.f.rb.contains k&&y.f.wb != some k
  | none=>true) &&
 (!x.f.wh||(!y.f.wh&&y.f.rh.all fun id=>UL (x.s.h.ver id) (x.s'.h.ver id)))
def iU:List Nat→List Oper→List Nat
 | acc,[]=>acc
 | acc,o::os=>iU (acc++[o.after.toList.foldl (fun m e=>bif Region.binds .any e then m ||| (2 ^ e.on ||| acc.getD e.on 0) else m) 0]) os
def uh (ops:Array Oper)(x y:Oper):Bool:=
 (match x.dst with
  | some d=>!(y.looksAt ops).contains d&&y.dst != some d
  | none=>true)
def qL:Nat→List Oper→Bool
 | _,[]=>true
 | k,o::os=>o.after.toList.all (fun e=>!Region.binds .any e||Nat.blt e.on k)&&qL (k+1) os
def nN {α:Type}(p:Nat→α→Nat→α→Bool):Nat→List α→Bool
 | _,[]=>true
 | i,x::xs=>(xs.zipIdx (i+1)).all (fun (y,j)=>p i x j y)&&nN p (i+1) xs
def mD (ops:Array Oper)(ms:List Nat):Bool:=
 qL 0 ops.toList &&
 nN (fun i x j y=>(ms.getD j 0).testBit i||(uh ops x y&&uh ops y x)) 0 ops.toList
def nO (P:Program)(cf:CallF)(aE:List Nat)(ops:List Oper):RS→List Oper→Option (List lD × RS)
 | s,[]=>some ([],s)
 | s,o::os=>
  (gE ops s.ρ o).bind fun w=>
   (if w then ug P cf aE (ops.filterMap (·.dst)) s o else some (s.set o.dst (.tup []))).bind fun s1=>
    (nO P cf aE ops s1 os).map fun (l,r)=>({o,f:=if w then bc aE (bG s.ρ) o else {},s,s':=s1}::l,r)
def qM (ms:List Nat)(ds:List Nat)(s0:RS)(es:List (lD × Nat))(x:lD)(i:Nat):Bool:=
 match x.f.al,x.o.dst with
 | true,some d=>qZ d s0.ρ (ds.filter fun t=>!Nat.beq t d)&&es.all fun (y,j)=>UL i j||(ms.getD j 0).testBit i || !Hp d y.out
 | _,_=>true
def jk (P:Program)(cf:CallF)(aE:List Nat)(ops:Array Oper)(s:RS):Option RS:=
 let ms:=iU [] ops.toList
 if mD ops ms then
  (nO P cf aE ops.toList s ops.toList).bind fun (es,r)=>
   let is:=es.zipIdx
   let ui:=is.filter fun (x,_)=>!x.f.quiet
   if ui.all (fun (x,i)=>qM ms (ops.toList.filterMap (·.dst)) s is x i&&ui.all fun (y,j)=>Vv j i||(ms.getD j 0).testBit i||(x.iT y&&y.iT x)) then some r else none
 else none
structure St where
 vars:List AV
 Jh:List (Option (List AV))
 h:AHeap
inductive Ex where
 | norm
 | exit (id:Nat)
 | ret
def look {α:Type}(d:α):List Nat→List α→Nat→α
 | k::ks,v::vs,t=>bif UL t k then v else look d ks vs t
 | _,_,_=>d
structure b4 where
 keep:List Nat
 aE:List Nat
 dead:List (Nat × List Nat):=[]
 Fk:List (Nat × List (Nat × Option Nat × Nat)):=[]
 xX:List (Nat × List (Nat × Option Nat × Nat)):=[]
def fE {α:Type}(r:Nat):List (Nat × List α)→List α
 | []=>[]
 | (k,l)::ks=>bif UL k r then l else fE r ks
def St.open (A:b4)(s:St):RS:={ρ:=look AV.any A.keep s.vars,bx:=look (none:Option (List AV)) A.aE s.Jh,h:=s.h}
def vH (aE:List Nat)(ρ:Nat→AV)(t:Nat):AV:=
 match ρ t with
 | .lp k off=>bif UL k t&&UL off 0&&aE.contains k then .lp k off else .any
 | v=>v
def RS.shut (A:b4)(s:RS):St:={vars:=A.keep.map (vH A.aE s.ρ),Jh:=A.aE.map s.bx,h:=s.h}
def RS.lP (A:b4)(r:Nat)(s:RS):St:=
 match fE r A.dead with
 | []=>s.shut A
 | ds=>{vars:=A.keep.map (fun t=>bif ds.contains t then .any else vH A.aE s.ρ t),Jh:=A.aE.map (fun k=>bif ds.contains k then none else s.bx k),h:=s.h}
def uj (s:RS)(p:Nat × Option Nat × Nat):Option RS:=
 match p.2.1 with
 | none=>(iL p.2.2 s.h (s.ρ p.1)).map fun (y,h)=>{s with h:=h,ρ:=fun t=>bif UL t p.1 then y else s.ρ t}
 | some i=>
  match s.bx p.1 with
  | some cs=>(cs[i]?).bind fun x=>(iL p.2.2 s.h x).map fun (y,h)=>{s with h:=h,bx:=fun k=>bif UL k p.1 then some (cs.set i y) else s.bx k}
  | none=>none
def kj (s:RS):List (Nat × Option Nat × Nat)→Option RS
 | []=>some s
 | p::ps=>(uj s p).bind fun s=>kj s ps
def kl (f:St→Option (Ex × St)):Nat→St→Option (Ex × St)
 | 0,_=>none
 | n+1,s=>(f s).bind fun
  | (.norm,s')=>kl f n s'
  | r=>some r
def bF (P:Program)(cf:CallF)(A:b4)(n:Nat):Code→St→Option (Ex × St)
 | .skip,s=>some (.norm,s)
 | .label _,s=>some (.norm,s)
 | .ret,s=>some (.ret,s)
 | .exit id,s=>some (.exit id,s)
 | .seq a b,s=>(bF P cf A n a s).bind fun
  | (.norm,s')=>bF P cf A n b s'
  | r=>some r
 | .cond c x y,s=>(q6 (bG (s.open A).ρ c)).bind fun t=>if t then bF P cf A n x s else bF P cf A n y s
 | .block id body,s=>(bF P cf A n body s).map fun
  | (.exit i,s')=>(if i=id then .norm else .exit i,s')
  | r=>r
 | .loop body,s=>kl (bF P cf A n body) n s
 | .region r ops draw,s=>(kj (s.open A) (fE r A.Fk)).bind fun s=>((if draw then jk P cf A.aE ops s else p8 P cf A.aE ops.toList s ops.toList)).bind fun s'=>(kj s' (fE r A.xX)).map fun s'=>(.norm,s'.lP A r)
 | _,_=>none
def xY (P:Program)(s:RS):List ResultVar→Option (List AV)
 | []=>some []
 | .tmp t::rs=>(xY P s rs).map fun l=>s.ρ t::l
 | .cell a t::rs=>(jj P s.bx s.h t (s.ρ a)).bind fun v=>(xY P s rs).map fun l=>v::l
def aM (P:Program)(s:RS)(rs:List ResultVar):Option AV:=
 (xY P s rs).bind fun l=>if l.all AV.kh then (match l with | [v]=>some v | l=>some (.tup l)) else none
def lQ (keep:List Nat)(args:List AV):List AV:=keep.map fun t=>args.getD t AV.any
mutual
def b5 (h:AHeap):Nat→AV→Option AV
 | 0,_=>none
 | n+1,x=>
  match x with
  | .ptr id off=>(h.get id).bind fun | .cells cs=>(bq h n cs).map fun eO=>.fp eO off | _=>none
  | .rs id off len gZ=>if id=0 then (if len=0 then some (.fz [] 0 false) else none) else (h.get id).bind fun | .cells cs=>if off+len*gZ≤cs.length then (bq h n ((cs.drop off).take (len*gZ))).map fun eO=>.fz eO len false else none | _=>none
  | .agg cs=>(bq h n cs).map .agg
  | .tup cs=>(bq h n cs).map .tup
  | .fn f cs=>(bq h n cs).map (.fn f)
  | x=>if x.dM then some x.iS else none
def bq (h:AHeap):Nat→List AV→Option (List AV)
 | 0,_=>none
 | _+1,[]=>some []
 | n+1,x::xs=>(b5 h n x).bind fun y=>(bq h n xs).map fun ys=>y::ys
end
mutual
def gh (h:AHeap):Nat→AV→Option AV
 | 0,_=>none
 | n+1,x=>
  match x with
  | .bool b=>some (.bool b)
  | .int k v=>some (.int k v)
  | .str s=>some (.str s)
  | .nn=>some .nn
  | .lC=>some .lC
  | .nL=>some .nL
  | .nils=>some (.fz [] 0 false)
  | .fz [] 0 _=>some (.fz [] 0 false)
  | .rs id off len gZ=>if id=0 then (if len=0 then some (.fz [] 0 false) else none) else (h.get id).bind fun | .cells cs=>if off+len*gZ≤cs.length then (dv h n ((cs.drop off).take (len*gZ))).map fun eO=>.fz eO len false else none | _=>none
  | .agg cs=>(dv h n cs).map .agg
  | .tup cs=>(dv h n cs).map .tup
  | _=>none
def dv (h:AHeap):Nat→List AV→Option (List AV)
 | 0,_=>none
 | _+1,[]=>some []
 | n+1,x::xs=>(gh h n x).bind fun y=>(dv h n xs).map fun ys=>y::ys
end
def bz:AHeap:={get:=fun _=>none,ver:=fun _=>0,next:=1}
mutual
def cG (k:Nat):AV→Option AV
 | .bool b=>some (.bool b)
 | .int i n=>some (.int i n)
 | .str s=>some (.str s)
 | .nn=>some .nn
 | .lC=>some .lC
 | .nL=>some .nL
 | .nils=>some .nils
 | .ptr id off=>some (.ptr (id+k) off)
 | .rs id off len z=>if id=0 then some (.rs 0 off len z) else some (.rs (id+k) off len z)
 | .agg cs=>(b9 k cs).map .agg
 | .tup cs=>(b9 k cs).map .tup
 | _=>none
def b9 (k:Nat):List AV→Option (List AV)
 | []=>some []
 | x::xs=>(cG k x).bind fun y=>(b9 k xs).map fun ys=>y::ys
end
def eZ (k:Nat):List AV→List AV
 | []=>[]
 | x::xs=>match cG k x with | some y=>y::eZ k xs | none=>[]
def xZ (k:Nat):AObj→Option AObj
 | .cells cs=>some (.cells (eZ k cs))
 | _=>none
def AHeap.dX (h h1:AHeap):AHeap:={get:=fun i=>bif Nat.blt i h.next then h.get i else (h1.get (i - h.next)).bind (xZ h.next),ver:=fun i=>bif Nat.blt i h.next then h.ver i else h.next+h1.ver (i - h.next),next:=h.next+h1.next}
def aK (x:AV):AV:=bif x.dM then x.iS else x
def ba (P:Program)(aV:FuncId→b4)(cf:CallF)(m:Nat)(f:FuncId)(args:List AV)(h:AHeap):Option (AV × AHeap):=
 (P.funcs[f]?).bind fun fn=>fn.body.bind fun c=>
  if args.length≤fn.ntmps then
   (bF P cf (aV f) m c {vars:=lQ (aV f).keep args,Jh:=(aV f).aE.map fun _=>none,h}).bind fun
    | (.norm,s) | (.ret,s)=>(aM P (s.open (aV f)) fn.results.toList).map fun r=>(r,s.h)
    | _=>none
  else none
structure mV where
 aV:FuncId→b4
 intr:FuncId→Option (List AV→AHeap→Option (AV × AHeap))
 pure:FuncId→Option Nat
 dX:FuncId→Bool:=fun _=>false
def eA (P:Program)(T:mV)(m:Nat):Nat→CallF
 | 0=>fun _ _ _=>none
 | n+1=>fun f args h=>
  match T.intr f with
  | some g=>g args h
  | none=>
   match T.pure f with
   | some deep=>if T.dX f then (bq h deep args).bind fun us=>(ba P T.aV (eA P T m n) m f us bz).bind fun x=>(cG h.next x.1).map fun r=>(r,h.dX x.2) else
     if cw args then (ba P T.aV (eA P T m n) m f (dh args) bz).bind fun x=>(b5 x.2 deep x.1).map fun r=>(r,h) else
     match bq h deep args with
     | some as=>(ba P T.aV (eA P T m n) m f as bz).bind fun x=>(gh x.2 deep x.1).map fun r=>(r,h)
     | none=>ba P T.aV (eA P T m n) m f (args.map aK) h
   | none=>ba P T.aV (eA P T m n) m f (args.map aK) h
end Go.R
namespace Go.R
open Go
structure Steady (h h':AHeap):Prop where
 next:h.next≤h'.next
 keep:∀id,(h'.ver id=h.ver id∧h'.get id=h.get id)∨h.next≤h'.ver id
 wf:(∀id,h.ver id<h.next)→∀id,h'.ver id<h'.next
theorem Steady.refl (h:AHeap):Steady h h:=⟨Ue _,fun _=>.inl ⟨rfl,rfl⟩,fun h=>h⟩
theorem Steady.trans {h h' Pb:AHeap}(a:Steady h h')(b:Steady h' Pb):Steady h Pb:=
 ⟨UT a.next b.next,fun id=>by
  rcases b.keep id with⟨h1,h2⟩| h1
  ·rcases a.keep id with⟨h3,h4⟩| h3
   ·exact .inl ⟨h1.trans h3,h2.trans h4⟩
   ·exact .inr (by rw [h1]; exact h3)
  ·exact .inr (UT a.next h1),fun h=>b.wf (a.wf h)⟩
theorem beq_nat (a b:Nat):UL a b=decide (a=b):=by
 by_cases h:a=b
 ·subst h; simp
 ·cases hb:UL a b with
  | true=>exact absurd (Vb hb) h
  | false=>simp [h]
theorem Steady.put (h:AHeap)(id:Nat)(o:AObj):Steady h (h.put id o):=by
 refine⟨Vi _,fun i=>?_,fun hw i=>?_⟩
 ·by_cases hi:i=id
  ·right; simp [AHeap.put,beq_nat,hi]
  ·left; simp [AHeap.put,beq_nat,hi]
 ·have:=hw i
  by_cases hi:i=id
  ·simp [AHeap.put,beq_nat,hi]
  ·simp only [AHeap.put,beq_nat,hi,decide_false,cond_false]; omega
theorem Steady.kill (h:AHeap)(id:Nat):Steady h (h.kill id):=by
 refine⟨Vi _,fun i=>?_,fun hw i=>?_⟩
 ·by_cases hi:i=id
  ·right; simp [AHeap.kill,beq_nat,hi]
  ·left; simp [AHeap.kill,beq_nat,hi]
 ·have:=hw i
  by_cases hi:i=id
  ·simp [AHeap.kill,beq_nat,hi]
  ·simp only [AHeap.kill,beq_nat,hi,decide_false,cond_false]; omega
structure Cx where
 β:Nat→Nat × Nat
 h:AHeap
 w:World
 base:Nat
def Live (h:AHeap)(id:Nat):Prop:=id<h.next∧(h.get id).isSome=true
def RO (c:Cx)(L:Nat→Prop)(b:Nat):Prop:=(∀id,Live c.h id→(c.β id).1≠b)∧¬L b
def Cx.len (c:Cx)(b:Nat):Nat:=((c.w.shape? b).map (·.2)).getD 0
mutual
def VR (c:Cx)(L:Nat→Prop):AV→Value→Prop
 | .any,_=>True
 | .bool b,v=>v = .bool b
 | .int k n,v=>v = .int k n
 | .str s,v=>v = .string s
 | .nn,v=>v = .pointer none
 | .ptr id off,v=>id<c.h.next∧∃a,v = .pointer (some a)∧(Live c.h id→a=⟨(c.β id).1,(c.β id).2+off,none⟩)
 | .lp _ _,_=>False
 | .fp cs off,v=>∃b o,v = .pointer (some ⟨b,o+off,none⟩)∧(cs=[]∨(RO c L b∧Cells c L cs b o))
 | .nils,v=>v = .slice none 0 0
 | .fz cs n ex,v=>∃a cap,v = .slice a n cap∧n≤cap∧(ex=true→cap=n)∧(a.isSome=true∨cs=[]∧cap=0)∧(cs=[]∨∃b o,a=some ⟨b,o,none⟩∧RO c L b∧(ex=true→c.base≤b)∧Cells c L cs b o)
 | .rs id off len gZ,v=>(id=0∧off=0∧len=0∧∃a,v = .slice a 0 0)∨id≠0∧id<c.h.next∧∃a cap,v = .slice a len cap∧len≤cap∧a.isSome=true∧(Live c.h id→(a=some ⟨(c.β id).1,(c.β id).2+off,none⟩∧(c.β id).2+off+cap*gZ=c.len (c.β id).1)∨cap=0)
 | .lC,v=>v = .map none
 | .mp id,v=>id<c.h.next∧∃r,v = .map (some r)∧(Live c.h id→r=(c.β id).1)
 | .fn f cap,v=>∃vs:Array Value,v = .func (.func f) #[] vs∧VRs c L cap vs.toList
 | .nL,v=>v = .nilFunc
 | .agg cs,v=>∃vs:Array Value,v = .agg vs∧VRs c L cs vs.toList
 | .tup cs,v=>∃vs:Array Value,v = .tuple vs∧VRs c L cs vs.toList
def VRs (c:Cx)(L:Nat→Prop):List AV→List Value→Prop
 | [],[]=>True
 | x::xs,v::vs=>VR c L x v∧VRs c L xs vs
 | _,_=>False
def Cells (c:Cx)(L:Nat→Prop):List AV→Nat→Nat→Prop
 | [],_,_=>True
 | x::xs,b,o=>(∃v,c.w.cell? ⟨b,o,none⟩=some v∧v.oneCell'=true∧VR c L x v)∧Cells c L xs b (o+1)
end
def gN (w w':World)(b:Nat):Prop:=
 w'.heap[b]? = w.heap[b]?∨∃(C:Array Value) (e lo hi E8 jl:Nat),w.heap[b]? = some (.cells C e (lo,hi))∧w'.heap[b]? = some (.cells C e (E8,jl))∧((lo=hi∨C.size≤lo)→(E8=jl∨C.size≤E8))
theorem gN.trans {w w' w'':World}{b:Nat}(h:gN w w' b)(k:gN w' w'' b):gN w w'' b:=by
 rcases h with h | ⟨C,e,lo,hi,E8,jl,h1,h2,h3⟩<;>rcases k with k | ⟨C',e',l1,i1,l2,i2,k1,k2,k3⟩
 ·exact .inl (k.trans h)
 ·exact .inr ⟨C',e',l1,i1,l2,i2,h ▸ k1,k2,k3⟩
 ·exact .inr ⟨C,e,lo,hi,E8,jl,h1,k.trans h2,h3⟩
 ·rw [h2] at k1
  simp only [Uc,Obj.cells.injEq,Ui] at k1
  obtain⟨rfl,rfl,rfl,rfl⟩:=k1
  exact .inr ⟨C,e,lo,hi,l2,i2,h1,k2,fun x=>k3 (h3 x)⟩
theorem gN.cell {w w':World}{b:Nat}(h:gN w w' b)(o:Nat):w'.cell? ⟨b,o,none⟩=w.cell? ⟨b,o,none⟩:=by
 rcases h with h | ⟨C,e,lo,hi,E8,jl,h1,h2,_⟩
 ·simp only [World.cell?,h]
 ·simp only [World.cell?,h1,h2]
structure Ext (c:Cx)(Lo:Nat→Prop)(c':Cx)(iZ:Nat→Prop):Prop where
 next:c.h.next≤c'.h.next
 live:∀id,id<c.h.next→Live c'.h id→Live c.h id∧c'.β id=c.β id∧c'.len (c.β id).1=c.len (c.β id).1
 size:c.w.heap.size≤c'.w.heap.size
 keep:∀b,b<c.w.heap.size→¬Lo b→(∀id,Live c.h id→(c.β id).1≠b)→gN c.w c'.w b
 exact:∀b,b<c.base→c'.w.heap[b]? = c.w.heap[b]?
 base:c'.base=c.base
 Fl:∀id,Live c'.h id→c.w.heap.size≤(c'.β id).1∨∃oR,Live c.h oR∧(c.β oR).1=(c'.β id).1
 own:∀b,Lo b→iZ b
 grow:∀b,iZ b→Lo b∨c.w.heap.size≤b
 os:c'.w.os=c.w.os
 tape:c'.w.tape=c.w.tape
 output:c'.w.output=c.w.output
theorem Ext.refl (c:Cx)(Lo:Nat→Prop):Ext c Lo c Lo:=
 ⟨Ue _,fun _ _ h=>⟨h,rfl,rfl⟩,Ue _,fun _ _ _ _=>.inl rfl,fun _ _=>rfl,rfl,fun id h=>.inr ⟨id,h,rfl⟩,fun _ h=>h,fun _ h=>.inl h,rfl,rfl,rfl⟩
theorem Ext.trans {c c' Pc:Cx}{L L' Pd:Nat→Prop}(h:Ext c L c' L')(k:Ext c' L' Pc Pd):Ext c L Pc Pd where
 next:=UT h.next k.next
 live:=fun id hi hl=>by
  obtain⟨l1,b1,s1⟩:=k.live id (Uz hi h.next) hl
  obtain⟨l0,b0,s0⟩:=h.live id hi l1
  refine⟨l0,b1.trans b0,?_⟩
  rw [b0] at s1
  exact s1.trans s0
 size:=UT h.size k.size
 keep:=fun b hb hL hi=>by
  have e1:=h.keep b hb hL hi
  refine e1.trans (k.keep b (Uz hb h.size) (fun QQ=>?_) (fun id hl he=>?_))
  ·rcases h.grow b QQ with h1 | h1
   ·exact hL h1
   ·omega
  ·rcases h.Fl id hl with h1 | ⟨oR,h1,h2⟩
   ·omega
   ·exact hi oR h1 (h2.trans he)
 exact:=fun b hb=>(k.exact b (h.base ▸ hb)).trans (h.exact b hb)
 base:=k.base.trans h.base
 Fl:=fun id hl=>by
  rcases k.Fl id hl with h1 | ⟨QR,h1,h2⟩
  ·exact .inl (UT h.size h1)
  ·rcases h.Fl QR h1 with h3 | ⟨oR,h3,h4⟩
   ·exact .inl (h2 ▸ h3)
   ·exact .inr ⟨oR,h3,h4.trans h2⟩
 own:=fun b hb=>k.own b (h.own b hb)
 grow:=fun b hb=>by
  rcases k.grow b hb with h1 | h1
  ·exact h.grow b h1
  ·exact .inr (UT h.size h1)
 os:=k.os.trans h.os
 tape:=k.tape.trans h.tape
 output:=k.output.trans h.output
def un (L0 Lo:Nat→Prop):Nat→Prop:=fun b=>L0 b∨Lo b
theorem q8 {w w':World}{b:Nat}(h:w'.heap[b]? = w.heap[b]?)(o:Nat):w'.cell? ⟨b,o,none⟩=w.cell? ⟨b,o,none⟩:=by
 simp only [World.cell?,h]
theorem RO.ext {c c':Cx}{L0 Lo iZ:Nat→Prop}{b:Nat}(h:RO c (un L0 Lo) b)(e:Ext c Lo c' iZ)(hb:b<c.w.heap.size):RO c' (un L0 iZ) b:=by
 refine⟨fun id hl he=>?_,fun hL=>?_⟩
 ·rcases e.Fl id hl with h1 | ⟨oR,h1,h2⟩
  ·omega
  ·exact h.1 oR h1 (h2.trans he)
 ·rcases hL with h1 | h1
  ·exact h.2 (.inl h1)
  ·rcases e.grow b h1 with h2 | h2
   ·exact h.2 (.inr h2)
   ·omega
theorem Ext.cell {c c':Cx}{L0 Lo iZ:Nat→Prop}{b:Nat}(e:Ext c Lo c' iZ)(h:RO c (un L0 Lo) b)(hb:b<c.w.heap.size)(o:Nat):c'.w.cell? ⟨b,o,none⟩=c.w.cell? ⟨b,o,none⟩:=
 (e.keep b hb (fun h1=>h.2 (.inr h1)) h.1).cell o
theorem q9 {c c':Cx}{Lo iZ:Nat→Prop}(e:Ext c Lo c' iZ){id:Nat}(hi:id<c.h.next):id<c'.h.next:=Uz hi e.next
theorem jm {c:Cx}{L:Nat→Prop}{x:AV}{cs:List AV}{b o:Nat}(h:Cells c L (x::cs) b o):b<c.w.heap.size:=by
 obtain⟨⟨v,hv,_⟩,_⟩:=h
 exact World.block_lt_of_cell? c.w ⟨b,o,none⟩ hv
mutual
theorem VR.ext {c c':Cx}{L0 Lo iZ:Nat→Prop}(e:Ext c Lo c' iZ):∀(x:AV) (v:Value),VR c (un L0 Lo) x v→VR c' (un L0 iZ) x v
 | .any,_,_=>trivial
 | .bool _,_,h=>h
 | .int _ _,_,h=>h
 | .str _,_,h=>h
 | .nn,_,h=>h
 | .ptr id off,v,h=>by
  simp only [VR] at h ⊢
  obtain⟨hi,a,rfl,ha⟩:=h
  refine⟨q9 e hi,a,rfl,fun hl=>?_⟩
  obtain⟨l0,b0,_⟩:=e.live id hi hl
  rw [b0]
  exact ha l0
 | .lp _ _,_,h=>h
 | .fp cs off,v,h=>by
  simp only [VR] at h ⊢
  obtain⟨b,o,rfl,hc⟩:=h
  refine⟨b,o,rfl,?_⟩
  rcases hc with hc | ⟨hr,hc⟩
  ·exact .inl hc
  ·cases cs with
   | nil=>exact .inl rfl
   | cons x xs=>exact .inr ⟨hr.ext e (jm hc),Cells.ext e (x::xs) b o hr (jm hc) hc⟩
 | .nils,_,h=>h
 | .fz cs n ex,v,h=>by
  simp only [VR] at h ⊢
  obtain⟨a,cap,rfl,h1,h2,hs,hc⟩:=h
  refine⟨a,cap,rfl,h1,h2,hs,?_⟩
  rcases hc with hc | ⟨b,o,ha,hr,hex,hc⟩
  ·exact .inl hc
  ·cases cs with
   | nil=>exact .inl rfl
   | cons x xs=>exact .inr ⟨b,o,ha,hr.ext e (jm hc),by rw [e.base]; exact hex,Cells.ext e (x::xs) b o hr (jm hc) hc⟩
 | .rs id off len gZ,v,h=>by
  simp only [VR] at h ⊢
  rcases h with h | h
  ·exact .inl h
  obtain⟨hz,hi,a,cap,rfl,h1,h3,h2⟩:=h
  refine .inr ⟨hz,q9 e hi,a,cap,rfl,h1,h3,fun hl=>?_⟩
  obtain⟨l0,b0,s0⟩:=e.live id hi hl
  rw [b0,s0]
  exact h2 l0
 | .lC,_,h=>h
 | .mp id,v,h=>by
  simp only [VR] at h ⊢
  obtain⟨hi,r,rfl,h2⟩:=h
  refine⟨q9 e hi,r,rfl,fun hl=>?_⟩
  obtain⟨l0,b0,_⟩:=e.live id hi hl
  rw [b0]
  exact h2 l0
 | .fn f cap,v,h=>by
  simp only [VR] at h ⊢
  obtain⟨vs,rfl,h1⟩:=h
  exact⟨vs,rfl,VRs.ext e cap vs.toList h1⟩
 | .nL,_,h=>h
 | .agg cs,v,h=>by
  simp only [VR] at h ⊢
  obtain⟨vs,rfl,h1⟩:=h
  exact⟨vs,rfl,VRs.ext e cs vs.toList h1⟩
 | .tup cs,v,h=>by
  simp only [VR] at h ⊢
  obtain⟨vs,rfl,h1⟩:=h
  exact⟨vs,rfl,VRs.ext e cs vs.toList h1⟩
theorem VRs.ext {c c':Cx}{L0 Lo iZ:Nat→Prop}(e:Ext c Lo c' iZ):∀(xs:List AV) (vs:List Value),VRs c (un L0 Lo) xs vs→VRs c' (un L0 iZ) xs vs
 | [],[],_=>trivial
 | x::xs,v::vs,h=>⟨VR.ext e x v h.1,VRs.ext e xs vs h.2⟩
 | [],_::_,h=>h
 | _::_,[],h=>h
theorem Cells.ext {c c':Cx}{L0 Lo iZ:Nat→Prop}(e:Ext c Lo c' iZ):∀(xs:List AV) (b o:Nat),RO c (un L0 Lo) b→b<c.w.heap.size→Cells c (un L0 Lo) xs b o→Cells c' (un L0 iZ) xs b o
 | [],_,_,_,_,_=>trivial
 | x::xs,b,o,hr,hb,h=>by
  obtain⟨⟨v,hv,h1,hx⟩,hs⟩:=h
  exact⟨⟨v,(e.cell hr hb o).trans hv,h1,VR.ext e x v hx⟩,Cells.ext e xs b (o+1) hr hb hs⟩
end
theorem RO.jU {c:Cx}{L L':Nat→Prop}(hL:∀b,L' b→L b){b:Nat}(h:RO c L b):RO c L' b:=⟨h.1,fun h1=>h.2 (hL b h1)⟩
mutual
theorem VR.jU {c:Cx}{L L':Nat→Prop}(hL:∀b,L' b→L b):∀(x:AV) (v:Value),VR c L x v→VR c L' x v
 | .any,_,_=>trivial
 | .bool _,_,h=>h
 | .int _ _,_,h=>h
 | .str _,_,h=>h
 | .nn,_,h=>h
 | .ptr id off,v,h=>h
 | .lp _ _,_,h=>h
 | .fp cs off,v,h=>by
  simp only [VR] at h ⊢
  obtain⟨b,o,rfl,hc⟩:=h
  exact⟨b,o,rfl,hc.imp id fun ⟨hr,hc⟩=>⟨hr.jU hL,Cells.jU hL cs b o hc⟩⟩
 | .nils,_,h=>h
 | .fz cs n ex,v,h=>by
  simp only [VR] at h ⊢
  obtain⟨a,cap,rfl,h1,h2,hs,hc⟩:=h
  exact⟨a,cap,rfl,h1,h2,hs,hc.imp id fun ⟨b,o,ha,hr,hex,hc⟩=>⟨b,o,ha,hr.jU hL,hex,Cells.jU hL cs b o hc⟩⟩
 | .rs id off len gZ,v,h=>h
 | .lC,_,h=>h
 | .mp id,v,h=>h
 | .fn f cap,v,h=>by
  simp only [VR] at h ⊢
  obtain⟨vs,rfl,h1⟩:=h
  exact⟨vs,rfl,VRs.jU hL cap vs.toList h1⟩
 | .nL,_,h=>h
 | .agg cs,v,h=>by
  simp only [VR] at h ⊢
  obtain⟨vs,rfl,h1⟩:=h
  exact⟨vs,rfl,VRs.jU hL cs vs.toList h1⟩
 | .tup cs,v,h=>by
  simp only [VR] at h ⊢
  obtain⟨vs,rfl,h1⟩:=h
  exact⟨vs,rfl,VRs.jU hL cs vs.toList h1⟩
theorem VRs.jU {c:Cx}{L L':Nat→Prop}(hL:∀b,L' b→L b):∀(xs:List AV) (vs:List Value),VRs c L xs vs→VRs c L' xs vs
 | [],[],_=>trivial
 | x::xs,v::vs,h=>⟨VR.jU hL x v h.1,VRs.jU hL xs vs h.2⟩
 | [],_::_,h=>h
 | _::_,[],h=>h
theorem Cells.jU {c:Cx}{L L':Nat→Prop}(hL:∀b,L' b→L b):∀(xs:List AV) (b o:Nat),Cells c L xs b o→Cells c L' xs b o
 | [],_,_,_=>trivial
 | x::xs,b,o,h=>by
  obtain⟨⟨v,hv,h1,hx⟩,hs⟩:=h
  exact⟨⟨v,hv,h1,VR.jU hL x v hx⟩,Cells.jU hL xs b (o+1) hs⟩
end
theorem Bg {c:Cx}{L:Nat→Prop}{x:AV}{v:Value}(h:VR c L x v):VR c L (ji x) v:=by
 cases x<;>try exact h
 simp only [VR] at h
 simp only [ji,VR]
 exact⟨none,0,h,Ue _,fun _=>rfl,.inr ⟨trivial,rfl⟩,.inl trivial⟩
theorem re {c:Cx}{L:Nat→Prop}:∀{xs:List AV} {vs:List Value},VRs c L xs vs→VRs c L (xs.map ji) vs
 | [],[],_=>trivial
 | _::_,_::_,h=>⟨Bg h.1,re h.2⟩
 | [],_::_,h=>h.elim
 | _::_,[],h=>h.elim
theorem Cells.move {c c':Cx}{L0 Lo iZ:Nat→Prop}(e:Ext c Lo c' iZ):∀(xs:List AV) (b o b' o':Nat),(∀i,i<xs.length→c'.w.cell? ⟨b',o'+i,none⟩=c.w.cell? ⟨b,o+i,none⟩)→Cells c (un L0 Lo) xs b o→Cells c' (un L0 iZ) xs b' o'
 | [],_,_,_,_,_,_=>trivial
 | x::xs,b,o,b',o',hm,h=>by
  obtain⟨⟨v,hv,h1,hx⟩,hs⟩:=h
  refine⟨⟨v,(hm 0 (by simp)).trans hv,h1,VR.ext e x v hx⟩,Cells.move e xs b (o+1) b' (o'+1) (fun i hi=>?_) hs⟩
  have:=hm (i+1) (by simpa using hi)
  rwa [Vr o' 1 i,Vr o 1 i,U6,U6]
theorem VRs.length {c:Cx}{L:Nat→Prop}:∀{xs:List AV} {vs:List Value},VRs c L xs vs→xs.length=vs.length
 | [],[],_=>rfl
 | _::_,_::_,h=>by simp [VRs.length h.2]
 | [],_::_,h=>h.elim
 | _::_,[],h=>h.elim
theorem VRs.get {c:Cx}{L:Nat→Prop}:∀{xs:List AV} {vs:List Value},VRs c L xs vs→∀(i:Nat) (x:AV),xs[i]? = some x→∃v,vs[i]? = some v∧VR c L x v
 | [],[],_,i,x,hx=>by simp at hx
 | y::ys,u::us,h,i,x,hx=>by
  cases i with
  | zero=>simp at hx; subst hx; exact⟨u,rfl,h.1⟩
  | succ i=>simpa using VRs.get h.2 i x (by simpa using hx)
 | [],_::_,h,_,_,_=>h.elim
 | _::_,[],h,_,_,_=>h.elim
theorem VRs.append {c:Cx}{L:Nat→Prop}:∀{xs ys:List AV} {vs us:List Value},VRs c L xs vs→VRs c L ys us→VRs c L (xs++ys) (vs++us)
 | [],_,[],_,_,h=>h
 | _::_,_,_::_,_,h,k=>⟨h.1,VRs.append h.2 k⟩
 | [],_,_::_,_,h,_=>h.elim
 | _::_,_,[],_,h,_=>h.elim
theorem VRs.drop {c:Cx}{L:Nat→Prop}:∀(n:Nat) {xs:List AV} {vs:List Value},VRs c L xs vs→VRs c L (xs.drop n) (vs.drop n)
 | 0,_,_,h=>h
 | _+1,[],[],h=>h
 | n+1,_::_,_::_,h=>VRs.drop n h.2
 | _+1,[],_::_,h=>h.elim
 | _+1,_::_,[],h=>h.elim
theorem VRs.take {c:Cx}{L:Nat→Prop}:∀(n:Nat) {xs:List AV} {vs:List Value},VRs c L xs vs→VRs c L (xs.take n) (vs.take n)
 | 0,_,_,_=>by simp [VRs]
 | _+1,[],[],h=>h
 | n+1,_::_,_::_,h=>⟨h.1,VRs.take n h.2⟩
 | _+1,[],_::_,h=>h.elim
 | _+1,_::_,[],h=>h.elim
theorem VRs.set {c:Cx}{L:Nat→Prop}{x:AV}{v:Value}(hx:VR c L x v):∀(n:Nat) {xs:List AV} {vs:List Value},VRs c L xs vs→VRs c L (xs.set n x) (vs.set n v)
 | _,[],[],h=>h
 | 0,_::_,_::_,h=>⟨hx,h.2⟩
 | n+1,_::_,_::_,h=>⟨h.1,VRs.set hx n h.2⟩
 | _,[],_::_,h=>h.elim
 | _,_::_,[],h=>h.elim
theorem Cells.vals {c:Cx}{L:Nat→Prop}:∀{xs:List AV} {b o:Nat},Cells c L xs b o→∃vs:List Value,VRs c L xs vs∧(∀i,i<xs.length→c.w.cell? ⟨b,o+i,none⟩=vs[i]?)∧∀v∈vs,v.oneCell'=true
 | [],_,_,_=>⟨[],trivial,fun i hi=>by simp at hi,fun _ h=>by cases h⟩
 | x::xs,b,o,h=>by
  obtain⟨⟨v,hv,h0,hx⟩,hs⟩:=h
  obtain⟨vs,h1,h2,h3⟩:=Cells.vals hs
  refine⟨v::vs,⟨hx,h1⟩,fun i hi=>?_,fun u hu=>?_⟩
  ·cases i with
   | zero=>exact hv
   | succ i=>
    have:=h2 i (by simpa using hi)
    rw [Vr,U6] at this
    simpa using this
  ·rcases UA.1 hu with rfl | hu
   ·exact h0
   ·exact h3 u hu
theorem Cells.of_vals {c:Cx}{L:Nat→Prop}:∀{xs:List AV} {vs:List Value} {b o:Nat},VRs c L xs vs→(∀i,i<vs.length→c.w.cell? ⟨b,o+i,none⟩=vs[i]?)→(∀v∈vs,v.oneCell'=true)→Cells c L xs b o
 | [],[],_,_,_,_,_=>trivial
 | x::xs,v::vs,b,o,h,hc,h1=>by
  refine⟨⟨v,hc 0 (by simp),h1 v (by simp),h.1⟩,Cells.of_vals h.2 (fun i hi=>?_) (fun u hu=>h1 u (by simp [hu]))⟩
  have:=hc (i+1) (by simpa using hi)
  rw [Vr,U6]
  simpa using this
 | [],_::_,_,_,h,_,_=>h.elim
 | _::_,[],_,_,h,_,_=>h.elim
theorem Cells.get' {c:Cx}{L:Nat→Prop}{xs:List AV}{b o:Nat}(h:Cells c L xs b o)(i:Nat)(x:AV)(hx:xs[i]? = some x):∃v,c.w.cell? ⟨b,o+i,none⟩=some v∧v.oneCell'=true∧VR c L x v:=by
 obtain⟨vs,h1,h2,h3⟩:=h.vals
 obtain⟨v,hv,hr⟩:=VRs.get h1 i x hx
 exact⟨v,(h2 i (Uh.1 hx).1).trans hv,h3 v (Ut hv),hr⟩
theorem Cells.get {c:Cx}{L:Nat→Prop}{xs:List AV}{b o:Nat}(h:Cells c L xs b o)(i:Nat)(x:AV)(hx:xs[i]? = some x):∃v,c.w.cell? ⟨b,o+i,none⟩=some v∧VR c L x v:=by
 obtain⟨v,h1,_,h2⟩:=h.get' i x hx
 exact⟨v,h1,h2⟩
end Go.R
namespace Go.R
open Go
def km (c:Cx)(L:Nat→Prop):List (AV × AV)→List MapEntry→Prop
 | [],[]=>True
 | (k,v)::es,m::ms=>(VR c L k m.key∧k.xO.isSome=true)∧VR c L v m.val∧km c L es ms
 | _,_=>False
def Plain (c:Cx)(b:Nat)(n:Nat):Prop:=∃(C:Array Value) (e lo hi:Nat),c.w.heap[b]? = some (.cells C e (lo,hi))∧(lo=hi∨C.size≤lo)∧C.size=n
def gY (c:Cx)(b:Nat)(n:Nat):Prop:=∃(C:Array Value) (e:TypeId),c.w.heap[b]? = some (.cells C e (0,0))∧C.size=n
theorem gY.jM {c:Cx}{b n:Nat}(h:gY c b n):Plain c b n:=by
 obtain⟨C,e,h1,h2⟩:=h
 exact⟨C,e,0,0,h1,.inl rfl,h2⟩
theorem gY.of_heap {c c':Cx}{b n:Nat}(h:gY c b n)(he:c'.w.heap[b]? = c.w.heap[b]?):gY c' b n:=by
 obtain⟨C,e,h1,h2⟩:=h
 exact⟨C,e,he.trans h1,h2⟩
theorem gY.lt {c:Cx}{b n:Nat}(h:gY c b n):b<c.w.heap.size:=by
 obtain⟨C,e,h1,_⟩:=h
 exact (UH.1 h1).1
def nP (c:Cx)(L:Nat→Prop)(b base:Nat):AObj→Prop
 | .cells cs=>∃n,gY c b n∧base+cs.length≤n∧Cells c L cs b base
 | .row e cs=>base=0∧∃C:Array Value,c.w.heap[b]? = some (.cells C e (0,0))∧cs.length≤C.size∧C.size≤maxLen∧Cells c L cs b 0
 | .map es=>∃kn clock,c.w.heap[b]? = some (.map kn clock)∧km c L es kn.toList
structure HRel (c:Cx)(L:Nat→Prop):Prop where
 lt:∀id o,c.h.get id=some o→id<c.h.next
 obj:∀id o,c.h.get id=some o→nP c L (c.β id).1 (c.β id).2 o
 inj:∀id jV,Live c.h id→Live c.h jV→(c.β id).1=(c.β jV).1→id=jV
 out:∀id,Live c.h id→¬L (c.β id).1
 bd:∀b,L b→b<c.w.heap.size
 low:∀id,Live c.h id→c.base≤(c.β id).1
 ver:∀id,c.h.ver id<c.h.next
structure Lx (c:Cx)(L0 Lo:Nat→Prop)(lam:Nat→Nat)(k:Nat)(cs:List AV):Prop where
 own:Lo (lam k)
 plain:Plain c (lam k) cs.length
 cells:Cells c (un L0 Lo) cs (lam k) 0
def SR (c:Cx)(L0 Lo:Nat→Prop)(lam:Nat→Nat)(bx:Nat→Option (List AV))(x:AV)(v:Value):Prop:=
 match x with
 | .lp k off=>v = .pointer (some ⟨lam k,off,none⟩)∧(bx k).isSome=true
 | x=>VR c (un L0 Lo) x v
structure Fr (L0:Nat→Prop)(c:Cx)(Lo:Nat→Prop)(lam:Nat→Nat)(ds:List Nat)(s:RS)(a:Act):Prop where
 h:c.h=s.h
 rel:HRel c (un L0 Lo)
 slot:∀t,SR c L0 Lo lam s.bx (s.ρ t) (a.tmps.getD t undef)
 box:∀k cs,s.bx k=some cs→Lx c L0 Lo lam k cs
 inj:∀k k',(s.bx k).isSome=true→(s.bx k').isSome=true→lam k=lam k'→k=k'
 tidy:∀t k off,t∉ds→s.ρ t = .lp k off→k=t
 defers:a.defers=[]
 CD:∀b,Lo b→c.base≤b
def none0:Nat→Prop:=fun _=>False
def Inv (L0:Nat→Prop)(c0:Cx)(n:Nat)(ds:List Nat)(s:RS)(a:Act)(w:World):Prop:=
 a.tmps.size=n∧∃c Lo lam,c.w=w∧Fr L0 c Lo lam ds s a∧Ext c0 none0 c Lo
theorem SR.vr {c:Cx}{L0 Lo:Nat→Prop}{lam:Nat→Nat}{bx:Nat→Option (List AV)}{x:AV}{v:Value}(h:SR c L0 Lo lam bx x v)(hx:∀k off,x≠.lp k off):VR c (un L0 Lo) x v:=by
 unfold SR at h
 split at h
 ·exact absurd rfl (hx _ _)
 ·exact h
theorem SR.of {c:Cx}{L0 Lo:Nat→Prop}{lam:Nat→Nat}{bx:Nat→Option (List AV)}{x:AV}{v:Value}(h:VR c (un L0 Lo) x v):SR c L0 Lo lam bx x v:=by
 unfold SR
 split
 ·exact h.elim
 ·exact h
theorem mE {c:Cx}{L:Nat→Prop}{v:Value}{x:AV}(h:nM v=some x):VR c L x v:=by
 unfold nM at h
 split at h<;>first | (cases h; done) | (cases h; simp [VR])
theorem vI {c:Cx}{L:Nat→Prop}:∀{vs:List Value} {xs:List AV},pG vs=some xs→VRs c L xs vs
 | [],xs,h=>by simp [pG] at h; subst h; trivial
 | v::vs,xs,h=>by
  simp only [pG,T9] at h
  obtain⟨x,hx,ys,hy,he⟩:=h
  cases he
  exact⟨mE hx,vI hy⟩
theorem kS {c:Cx}{L:Nat→Prop}{v:Value}{x:AV}(h:CA v=some x):VR c L x v:=by
 unfold CA at h
 split at h
 ·rename_i cs
  rw [Ub] at h
  obtain⟨xs,hx,rfl⟩:=h
  simp only [VR]
  exact⟨cs,rfl,vI hx⟩
 ·exact mE h
theorem ko {c:Cx}{L:Nat→Prop}{x:AV}{u v:Value}(h:x.fN=some u)(hx:VR c L x v):v=u:=by
 unfold AV.fN at h
 split at h<;>first | (cases h; done) | (cases h; simpa [VR] using hx)
theorem kq {x:AV}{u:Value}(h:x.fN=some u):∀k off,x≠.lp k off:=by
 rintro k off rfl
 simp [AV.fN] at h
theorem oV {c:Cx}{L:Nat→Prop}:∀{xs:List AV} {us vs:List Value},iB xs=some us→VRs c L xs vs→vs=us
 | [],us,[],h,_=>by simp [iB] at h; exact h.symm
 | x::xs,us,v::vs,h,hx=>by
  simp only [iB,T9] at h
  obtain⟨u,h1,ws,h2,he⟩:=h
  cases he
  rw [ko h1 hx.1,oV h2 hx.2]
 | [],_,_::_,_,h=>h.elim
 | _::_,_,[],_,h=>h.elim
theorem uk {c:Cx}{L:Nat→Prop}{x:AV}{u v:Value}(h:x.xO=some u)(hx:VR c L x v):v=u:=by
 unfold AV.xO at h
 split at h
 ·rw [Ub] at h
  obtain⟨vs,h1,rfl⟩:=h
  simp only [VR] at hx
  obtain⟨ws,rfl,h2⟩:=hx
  rw [←oV h1 h2]
 ·exact ko h hx
theorem jN {α:Type}{P:Program}{e:Sem α}{r:α}(w:World):ib P e=some r→e.run P w = .ok r w:=by
 induction e with
 | pure a=>intro h; simp [ib] at h; subst h; rfl
 | program k ih=>intro h; exact ih P (by simpa [ib] using h)
 | _=>intro h; simp [ib] at h
theorem bB {L0:Nat→Prop}{c:Cx}{Lo:Nat→Prop}{lam:Nat→Nat}{ds:List Nat}{s:RS}{a:Act}(f:Fr L0 c Lo lam ds s a)(x:Operand):SR c L0 Lo lam s.bx (bG s.ρ x) (a.eval x):=by
 cases x with
 | tmp t=>exact f.slot t
 | const v=>
  refine SR.of ?_
  simp only [bG,Act.eval]
  cases h:CA v with
  | none=>simp [VR]
  | some x=>simpa using kS h
 | global g=>exact SR.of (by simp [bG,VR])
 | func f=>exact SR.of (by simp only [bG,VR,Act.eval]; exact⟨#[],rfl,by simp [VRs]⟩)
def iM (P:Program)(L0:Nat→Prop)(c0:Cx)(n:Nat)(ds:List Nat)(o:Oper)(s s':RS):Prop:=
 ∀a w (K:Act→World→Prop) (Q:Exit→Act→World→Prop),Inv L0 c0 n ds s a w→(∀a' w',Inv L0 c0 n ds s' a' w'→K a' w')→o.wp P a w K Q
theorem fP (a:Act)(d:Option Nat)(v:Value):(a.put d v).tmps.size=a.tmps.size:=by cases d<;>simp [Act.put]
theorem CE (a:Act)(d t:Nat)(v:Value)(hd:d<a.tmps.size):(a.put (some d) v).tmps.getD t undef=if t=d then v else a.tmps.getD t undef:=by
 simp only [Act.put,Array.getD_eq_getD_getElem?,U7]
 by_cases h:d=t
 ·subst h; simp [hd]
 ·simp [h,Ne.symm h]
theorem s9 (s:RS)(d t:Nat)(x:AV):(s.set (some d) x).ρ t=if t=d then x else s.ρ t:=by
 simp only [RS.set,beq_nat]
 by_cases h:t=d<;>simp [h]
theorem Fr.set {L0:Nat→Prop}{c:Cx}{Lo:Nat→Prop}{lam:Nat→Nat}{ds:List Nat}{s:RS}{a:Act}(f:Fr L0 c Lo lam ds s a){d:Option Nat}{x:AV}{v:Value}(hx:SR c L0 Lo lam s.bx x v)
  (hd:∀t,d=some t→t<a.tmps.size∧t∈ds):Fr L0 c Lo lam ds (s.set d x) (a.put d v):=by
 cases d with
 | none=>exact f
 | some d=>
  obtain⟨h1,h2⟩:=hd d rfl
  refine⟨f.h,f.rel,fun t=>?_,f.box,f.inj,fun t k off ht he=>?_,f.defers,f.CD⟩
  ·rw [CE _ _ _ _ h1,s9]
   by_cases h:t=d
   ·simp only [h,if_true]; exact hx
   ·simp only [h,if_false]; exact f.slot t
  ·rw [s9] at he
   by_cases h:t=d
   ·subst h; exact absurd h2 ht
   ·rw [if_neg h] at he; exact f.tidy t k off ht he
section
variable {P:Program}{L0:Nat→Prop}{c0:Cx}{n:Nat}{ds:List Nat}{o:Oper}{s:RS}
def fQ (n:Nat)(ds:List Nat)(o:Oper):Prop:=∀t,o.dst=some t→t<n∧t∈ds
theorem fe (hd:fQ n ds o){x:AV}
  (h:∀a c Lo lam,Fr L0 c Lo lam ds s a→a.tmps.size=n→∃v,(execOp a.eval o).run P c.w = .ok (.value v) c.w∧SR c L0 Lo lam s.bx x v):iM P L0 c0 n ds o s (s.set o.dst x):=by
 rintro a w K Q ⟨hn,c,Lo,lam,rfl,f,e⟩ hK
 obtain⟨v,hr,hv⟩:=h a c Lo lam f hn
 unfold Oper.wp
 rw [hr,Oper.upon_value]
 exact hK _ _ ⟨(fP _ _ _).trans hn,c,Lo,lam,rfl,f.set hv (fun t ht=>hn ▸ hd t ht),e⟩
end
theorem SR.ext {c c':Cx}{L0 Lo iZ:Nat→Prop}{lam p9:Nat→Nat}{bx Pe:Nat→Option (List AV)}{x:AV}{v:Value}(h:SR c L0 Lo lam bx x v)(e:Ext c Lo c' iZ)
  (hl:∀k off,x = .lp k off→p9 k=lam k∧((bx k).isSome=true→(Pe k).isSome=true)):SR c' L0 iZ p9 Pe x v:=by
 unfold SR at h ⊢
 split
 ·rename_i k off
  obtain⟨h1,h2⟩:=h
  obtain⟨h3,h4⟩:=hl k off rfl
  rw [h3]
  exact⟨h1,h4 h2⟩
 ·rename_i hne
  split at h
  ·exact absurd rfl (hne _ _)
  ·exact VR.ext e _ _ h
theorem Plain.of_heap {c c':Cx}{b n:Nat}(h:Plain c b n)(he:gN c.w c'.w b):Plain c' b n:=by
 obtain⟨C,e,lo,hi,h1,h2,h3⟩:=h
 rcases he with he | ⟨C',e',l1,i1,l2,i2,k1,k2,k3⟩
 ·exact⟨C,e,lo,hi,he.trans h1,h2,h3⟩
 ·rw [h1] at k1
  simp only [Uc,Obj.cells.injEq,Ui] at k1
  obtain⟨rfl,rfl,rfl,rfl⟩:=k1
  exact⟨C,e,l2,i2,k2,k3 h2,h3⟩
theorem Plain.lt {c:Cx}{b n:Nat}(h:Plain c b n):b<c.w.heap.size:=by
 obtain⟨C,e,lo,hi,h1,_⟩:=h
 exact (UH.1 h1).1
theorem km.ext {c c':Cx}{L0 Lo iZ:Nat→Prop}(e:Ext c Lo c' iZ):∀{es:List (AV × AV)} {ms:List MapEntry},km c (un L0 Lo) es ms→km c' (un L0 iZ) es ms
 | [],[],_=>trivial
 | (k,v)::es,m::ms,h=>⟨⟨VR.ext e _ _ h.1.1,h.1.2⟩,VR.ext e _ _ h.2.1,km.ext e h.2.2⟩
 | [],_::_,h=>h.elim
 | _::_,[],h=>h.elim
theorem nP.ext {c c':Cx}{L0 Lo iZ:Nat→Prop}(e:Ext c Lo c' iZ){b base:Nat}{o:AObj}(h:nP c (un L0 Lo) b base o)(he:c'.w.heap[b]? = c.w.heap[b]?):nP c' (un L0 iZ) b base o:=by
 cases o with
 | cells cs=>
  obtain⟨n,h1,h2,h3⟩:=h
  exact⟨n,h1.of_heap he,h2,Cells.move e cs b base b base (fun i _=>q8 he _) h3⟩
 | row t cs=>
  obtain⟨h0,C,h1,h2,h4,h3⟩:=h
  exact⟨h0,C,he.trans h1,h2,h4,Cells.move e cs b 0 b 0 (fun i _=>q8 he _) h3⟩
 | map es=>
  obtain⟨kn,clock,h1,h2⟩:=h
  exact⟨kn,clock,he.trans h1,h2.ext e⟩
theorem Lx.ext {c c':Cx}{L0 Lo iZ:Nat→Prop}{lam:Nat→Nat}(e:Ext c Lo c' iZ){k:Nat}{cs:List AV}(h:Lx c L0 Lo lam k cs)(he:gN c.w c'.w (lam k)):Lx c' L0 iZ lam k cs:=
 ⟨e.own _ h.own,h.plain.of_heap he,Cells.move e cs (lam k) 0 (lam k) 0 (fun i _=>he.cell _) h.cells⟩
end Go.R
namespace Go.R
open Go
theorem addr_add (b o i:Nat):(⟨b,o,none⟩:Addr).add i=⟨b,o+i,none⟩:=by
 unfold Addr.add
 split<;>simp_all
section
variable {P:Program}{L0:Nat→Prop}{c0:Cx}{n:Nat}{ds:List Nat}{o:Oper}{s:RS}
theorem bo {t:TypeId}{d:TypeDesc}(h:P.underlying t=some d)(w:World):(underlying t).run P w = .ok d w:=run_underlying h w
theorem dw {t:TypeId}{m:Nat}(h:eL P t=some m)(w:World):(sizeOf t).run P w = .ok m w:=by
 unfold eL at h
 rw [Ub] at h
 obtain⟨i,hi,rfl⟩:=h
 simp [sizeOf,typeInfo,hi]
theorem zd {t:TypeId}{b:Bool}(h:fC P t=some b)(w:World):(isAgg t).run P w = .ok b w:=by
 unfold fC at h
 rw [Ub] at h
 obtain⟨d,hd,rfl⟩:=h
 simp only [isAgg,Sem.run_bind,bo hd,Result.andThen_ok]
 cases d<;>rfl
theorem ya {c:Cx}{L:Nat→Prop}{xs:List AV}{b off:Nat}(h:Cells c L xs b off):∃vs:List Value,(loadCells ⟨b,off,none⟩ xs.length).run P c.w = .ok vs.toArray c.w∧VRs c L xs vs:=by
 obtain⟨vs,h1,h2,_⟩:=h.vals
 refine⟨vs,?_,h1⟩
 have:=run_loadCells_list (P:=P) (w:=c.w) ⟨b,off,none⟩ vs (fun j v hj=>by
  rw [addr_add,h2 j (by rw [h1.length]; exact (Uh.1 hj).1)]; exact hj)
 rwa [←h1.length] at this
theorem Cells.drop {c:Cx}{L:Nat→Prop}:∀(m:Nat) {xs:List AV} {b off:Nat},Cells c L xs b off→Cells c L (xs.drop m) b (off+m)
 | 0,_,_,_,h=>h
 | m+1,[],_,_,_=>by simp [Cells]
 | m+1,x::xs,b,off,h=>by
  have:=Cells.drop m h.2
  rw [Vr,U6] at this
  simpa using this
theorem Cells.take {c:Cx}{L:Nat→Prop}:∀(m:Nat) {xs:List AV} {b off:Nat},Cells c L xs b off→Cells c L (xs.take m) b off
 | 0,_,_,_,_=>by simp [Cells]
 | m+1,[],_,_,h=>by simpa using h
 | m+1,x::xs,b,off,h=>⟨h.1,Cells.take m h.2⟩
theorem nr {c:Cx}{L:Nat→Prop}{t:TypeId}{cs:List AV}{b base off:Nat}{x:AV}(h:iC P t cs off=some x)(hc:Cells c L cs b base) :
  ∃v,(loadVar t ⟨b,base+off,none⟩).run P c.w = .ok v c.w∧VR c L x v:=by
 unfold iC at h
 rw [T9] at h
 obtain⟨ag,LZ,h⟩:=h
 simp only [loadVar,Sem.run_bind,zd LZ,Result.andThen_ok]
 cases ag with
 | true=>
  simp only [if_true,T9] at h
  obtain⟨m,hm,h⟩:=h
  split at h
  ·rename_i hle
   cases h
   have hc2:=(hc.drop off).take m
   obtain⟨vs,hr,hv⟩:=ya (P:=P) hc2
   rw [show ((cs.drop off).take m).length=m by simp; omega] at hr
   refine⟨.agg vs.toArray,by simp [dw hm,hr],?_⟩
   simp only [VR]
   exact⟨vs.toArray,rfl,by simpa using hv⟩
  ·cases h
 | false=>
  simp only [Um,if_false] at h
  obtain⟨v,hv,hx⟩:=hc.get off x h
  exact⟨v,by simp [hv],hx⟩
theorem vJ {c:Cx}{Lo:Nat→Prop}{lam:Nat→Nat}{bx:Nat→Option (List AV)}{x y:AV}{m:Nat}{v:Value}(h:x.shift m=some y)(hx:SR c L0 Lo lam bx x v) :
  ∃ad,v = .pointer (some ad)∧SR c L0 Lo lam bx y (.pointer (some (ad.add m))):=by
 cases x<;>simp only [AV.shift] at h<;>cases h
 ·rename_i id off
  simp only [SR,VR] at hx ⊢
  obtain⟨hi,ad,rfl,ha⟩:=hx
  exact⟨ad,rfl,hi,_,rfl,fun hl=>by rw [ha hl,addr_add,U6]⟩
 ·rename_i k off
  simp only [SR] at hx ⊢
  obtain⟨rfl,hb⟩:=hx
  exact⟨_,rfl,by rw [addr_add],hb⟩
 ·rename_i cs off
  simp only [SR,VR] at hx ⊢
  obtain⟨b,o',rfl,hc⟩:=hx
  exact⟨_,rfl,b,o',by rw [addr_add,U6],hc⟩
theorem rf {c:Cx}{Lo:Nat→Prop}{lam:Nat→Nat}{a:Act}(f:Fr L0 c Lo lam ds s a){t:TypeId}{x y:AV}{v:Value}(hx:SR c L0 Lo lam s.bx x v)
  (h:jj P s.bx s.h t x=some y):∃u,(Instr.loadAt t v).run P c.w = .ok u c.w∧VR c (un L0 Lo) y u:=by
 unfold jj at h
 cases x<;>simp only at h<;>try (cases h; done)
 ·rename_i id off
  rw [T9] at h
  obtain⟨ob,ho,h⟩:=h
  cases ob with
  | map es=>cases h
  | row t cs=>cases h
  | cells cs=>
   simp only [SR,VR] at hx
   obtain⟨hi,ad,rfl,ha⟩:=hx
   rw [←f.h] at ho
   have hl:Live c.h id:=⟨f.rel.lt _ _ ho,by simp [ho]⟩
   obtain⟨m,h1,h2,h3⟩:=f.rel.obj _ _ ho
   obtain⟨u,hr,hu⟩:=nr (P:=P) h h3
   exact⟨u,by simp [Instr.loadAt,Instr.sureAddr,ha hl,hr],hu⟩
 ·rename_i k off
  rw [T9] at h
  obtain⟨cs,hb,h⟩:=h
  simp only [SR] at hx
  obtain⟨rfl,_⟩:=hx
  have hw:=f.box k cs hb
  obtain⟨u,hr,hu⟩:=nr (P:=P) h hw.cells
  rw [Uy] at hr
  exact⟨u,by simp [Instr.loadAt,Instr.sureAddr,hr],hu⟩
 ·rename_i cs off
  split at h
  ·cases h
  ·rename_i hne
   simp only [SR,VR] at hx
   obtain⟨b,o',rfl,hc⟩:=hx
   rcases hc with hc | ⟨_,hc⟩
   ·subst hc; simp at hne
   ·obtain⟨u,hr,hu⟩:=nr (P:=P) h hc
    exact⟨u,by simp [Instr.loadAt,Instr.sureAddr,hr],hu⟩
theorem vK {c:Cx}{Lo:Nat→Prop}{lam:Nat→Nat}{bx:Nat→Option (List AV)}{t:TypeId}{x i y:AV}{v u:Value}(hx:SR c L0 Lo lam bx x v)(hi:SR c L0 Lo lam bx i u)
  (h:eD P t x i=some y):∃r,(Instr.indexAt t v u).run P c.w = .ok r c.w∧SR c L0 Lo lam bx y r:=by
 unfold eD at h
 split at h<;>try (cases h; done)
 rename_i k i
 simp only [SR,VR] at hi
 subst hi
 rw [T9] at h
 obtain⟨d,hd,h⟩:=h
 split at h<;>try (cases h; done)
 ·rename_i len e
  rw [T9] at h
  obtain⟨m,hm,h⟩:=h
  split at h
  ·rename_i hin
   obtain⟨ad,rfl,hy⟩:=vJ h hx
   exact⟨_,by simp [Instr.indexAt,asIntOf,bo hd,Instr.sureAddr,hin,dw hm],hy⟩
  ·cases h
 ·rename_i e
  rw [T9] at h
  obtain⟨m,hm,h⟩:=h
  split at h<;>try (cases h; done)
  ·rename_i cs len ex
   split at h
   ·rename_i hin
    obtain⟨h1,h2,h3⟩:=hin
    cases h
    simp only [SR,VR] at hx ⊢
    obtain⟨a,cap,rfl,h4,h5,_,hc⟩:=hx
    rcases hc with hc | ⟨b,o',rfl,hr,hex,hc⟩
    ·subst hc; simp at h3
    ·refine⟨.pointer (some ((⟨b,o',none⟩:Addr).add (i.toNat*m))),by simp [Instr.indexAt,asIntOf,bo hd,h1,h2,dw hm],b,o',?_,.inr ⟨hr,hc⟩⟩
     rw [addr_add]
   ·cases h
  ·rename_i id off len gZ
   split at h
   ·rename_i hin
    obtain⟨h0,h1,h2⟩:=hin
    cases h
    simp only [SR,VR] at hx ⊢
    rcases hx with⟨_,_,hz,_⟩| hx
    ·subst hz; omega
    obtain⟨_,hid,a,cap,rfl,h4,hs,h5⟩:=hx
    cases a with
    | none=>simp at hs
    | some a=>
     refine⟨.pointer (some (a.add (i.toNat*m))),by simp [Instr.indexAt,asIntOf,bo hd,h1,h2,dw hm],hid,_,rfl,fun hl=>?_⟩
     rcases h5 hl with h6 | h6
     ·obtain⟨h6,_⟩:=h6
      cases h6
      rw [addr_add,U6]
     ·subst h6; omega
   ·cases h
end
end Go.R
namespace Go.R
open Go
section
variable {P:Program}{L0:Nat→Prop}{c0:Cx}{n:Nat}{ds:List Nat}{o:Oper}{s:RS}
theorem tc {c:Cx}{L:Nat→Prop}{t:TypeId}{cs:List AV}{vs:Array Value}{off:Nat}{x:AV}(hv:VRs c L cs vs.toList)(h:zc P t cs off=some x) :
  ∃v,(part t vs off).run P c.w = .ok v c.w∧VR c L x v:=by
 unfold zc iC at h
 rw [T9] at h
 obtain⟨ag,LZ,h⟩:=h
 simp only [part,Sem.run_bind,zd LZ,Result.andThen_ok]
 cases ag with
 | true=>
  simp only [if_true,T9] at h
  obtain⟨m,hm,h⟩:=h
  split at h
  ·rename_i hle
   cases h
   refine⟨.agg (vs.extract off (off+m)),by simp [dw hm],?_⟩
   simp only [VR]
   refine⟨_,rfl,?_⟩
   rw [Array.toList_extract,List.extract_eq_take_drop,Vp]
   exact (hv.drop off).take m
  ·cases h
 | false=>
  simp only [Um,if_false] at h
  obtain⟨v,Hq,hx⟩:=hv.get off x h
  have L2:vs[off]? = some v:=by rw [←Array.getElem?_toList]; exact Hq
  exact⟨v,by simp [L2],hx⟩
theorem yb {c:Cx}{Lo:Nat→Prop}{lam:Nat→Nat}{bx:Nat→Option (List AV)}{t:TypeId}{x y:AV}{v:Value}{i:Nat}(hx:SR c L0 Lo lam bx x v)(h:xR P t x i=some y) :
  ∃r,(Instr.field t v i).run P c.w = .ok r c.w∧VR c (un L0 Lo) y r:=by
 unfold xR at h
 split at h<;>try (cases h; done)
 rename_i cs
 simp only [SR,VR] at hx
 obtain⟨vs,rfl,hv⟩:=hx
 rw [T9] at h
 obtain⟨d,hd,h⟩:=h
 split at h<;>try (cases h; done)
 rename_i fs
 rw [T9] at h
 obtain⟨fd,hf,h⟩:=h
 obtain⟨r,hr,hy⟩:=tc hv h
 exact⟨r,by simp [Instr.field,bo hd,hf,asAgg,hr],hy⟩
theorem vL {c:Cx}{Lo:Nat→Prop}{lam:Nat→Nat}{bx:Nat→Option (List AV)}{t:TypeId}{x y:AV}{v:Value}{i:Nat}(hx:SR c L0 Lo lam bx x v)(h:np P t x i=some y) :
  ∃r,(Instr.fieldAt t v i).run P c.w = .ok r c.w∧SR c L0 Lo lam bx y r:=by
 unfold np at h
 rw [T9] at h
 obtain⟨d,hd,h⟩:=h
 split at h<;>try (cases h; done)
 rename_i fs
 simp only [T9] at h
 obtain⟨fd,hf,m,hm,h⟩:=h
 split at h
 ·cases h
 ·rename_i ri
  obtain⟨ad,rfl,hy⟩:=vJ h hx
  exact⟨_,by simp [Instr.fieldAt,bo hd,hf,Instr.sureAddr,fieldPlace,dw hm,ri],hy⟩
theorem yc {c:Cx}{Lo:Nat→Prop}{lam:Nat→Nat}{bx:Nat→Option (List AV)}{t:TypeId}{x i y:AV}{v u:Value}(hx:SR c L0 Lo lam bx x v)(hi:SR c L0 Lo lam bx i u)(h:oS P t x i=some y) :
  ∃r,(Instr.index t v u).run P c.w = .ok r c.w∧VR c (un L0 Lo) y r:=by
 unfold oS at h
 split at h<;>try (cases h; done)
 rename_i k i
 simp only [SR,VR] at hi
 subst hi
 rw [T9] at h
 obtain⟨d,hd,h⟩:=h
 split at h<;>try (cases h; done)
 ·rename_i len e
  split at h<;>try (cases h; done)
  rename_i cs
  simp only [SR,VR] at hx
  obtain⟨vs,rfl,hv⟩:=hx
  rw [T9] at h
  obtain⟨m,hm,h⟩:=h
  split at h
  ·rename_i hin
   obtain⟨r,hr,hy⟩:=tc hv h
   exact⟨r,by simp [Instr.index,asIntOf,bo hd,hin,dw hm,hr],hy⟩
  ·cases h
 ·split at h<;>try (cases h; done)
  rename_i st
  simp only [SR,VR] at hx
  subst hx
  split at h
  ·rename_i h0
   rw [Ub] at h
   obtain⟨b,hb,rfl⟩:=h
   have hb2:st[i.toNat]? = some b:=by
    have hl:i.toNat<st.data.toList.length:=(Uh.1 hb).1
    have Hr:i.toNat<st.size:=by simpa using hl
    rw [getElem?_pos st i.toNat Hr]
    have:=(Uh.1 hb).2
    rw [←this]
    rfl
   exact⟨.int .u8 b.toNat,by simp [Instr.index,asIntOf,bo hd,h0,hb2],by simp [VR]⟩
  ·cases h
theorem jo {c:Cx}{Lo:Nat→Prop}{lam:Nat→Nat}{bx:Nat→Option (List AV)}{Ji:Bool}{len lim cap:Nat}{lo hi:Option AV}{Bh CF:Option Value}{l h:Nat}(hl:lim≤cap)
  (pJ:∀x,lo=some x→∃v,Bh=some v∧SR c L0 Lo lam bx x v) (um:lo=none→Bh=none) (Fm:∀x,hi=some x→∃v,CF=some v∧SR c L0 Lo lam bx x v) (vM:hi=none→CF=none)
  (hb:jK len lim lo hi=some (l,h)):(Instr.sliceBounds Ji len cap Bh CF none).run P c.w = .ok (l,h,cap) c.w∧l≤h∧(h≤lim∨h=len):=by
 unfold jK at hb
 simp only [T9] at hb
 obtain⟨h',hh,l',nG,he⟩:=hb
 cases he
 have e1:(CF=none∧h=len)∨∃k i,CF=some (.int k i)∧(0≤i∧i≤(cap:Int))∧h=i.toNat∧h≤lim:=by
  cases hi with
  | none=>
   simp only [Uc] at hh
   exact .inl ⟨vM rfl,hh.symm⟩
  | some x=>
   obtain⟨v,rfl,hv⟩:=Fm x rfl
   cases x<;>simp only at hh<;>try (cases hh; done)
   rename_i k i
   simp only [SR,VR] at hv
   subst hv
   split at hh
   ·rename_i hin
    cases hh
    exact .inr ⟨k,i,rfl,⟨hin.1,by omega⟩,rfl,by omega⟩
   ·cases hh
 have e2:(Bh=none∧l=0)∨∃k i,Bh=some (.int k i)∧(0≤i∧i≤(h:Int))∧l=i.toNat:=by
  cases lo with
  | none=>
   simp only [Uc] at nG
   exact .inl ⟨um rfl,nG.symm⟩
  | some x=>
   obtain⟨v,rfl,hv⟩:=pJ x rfl
   cases x<;>simp only at nG<;>try (cases nG; done)
   rename_i k i
   simp only [SR,VR] at hv
   subst hv
   split at nG
   ·rename_i hin
    cases nG
    exact .inr ⟨k,i,rfl,hin,rfl⟩
   ·cases nG
 clear pJ um Fm vM hh nG
 have e3:l≤h:=by rcases e2 with⟨_,h2⟩| ⟨k,i,_,h2,h3⟩<;>omega
 have e4:h≤lim∨h=len:=by rcases e1 with⟨_,h2⟩| ⟨k,i,_,h2,h3,h4⟩<;>omega
 refine⟨?_,e3,e4⟩
 rcases e1 with⟨rfl,rfl⟩| ⟨k,i,rfl,Ly,rfl,_⟩<;>rcases e2 with⟨rfl,rfl⟩| ⟨k2,i2,rfl,ze,rfl⟩<;>simp_all [Instr.sliceBounds,Instr.sliceBound,asIntOf]
theorem nt {c:Cx}{Lo:Nat→Prop}{lam:Nat→Nat}{bx:Nat→Option (List AV)}{x:AV}{v:Value}(h:isZero (some x)=true)(hv:SR c L0 Lo lam bx x v):∃k,v = .int k 0:=by
 cases x<;>simp [isZero] at h
 subst h
 simp only [SR,VR] at hv
 exact⟨_,hv⟩
theorem yd {c:Cx}{Lo:Nat→Prop}{lam:Nat→Nat}{bx:Nat→Option (List AV)}{t:TypeId}{x y:AV}{v:Value}{lo hi mx:Option AV}{Bh CF JD:Option Value}(hx:SR c L0 Lo lam bx x v)
  (pJ:∀x,lo=some x→∃v,Bh=some v∧SR c L0 Lo lam bx x v) (um:lo=none→Bh=none) (Fm:∀x,hi=some x→∃v,CF=some v∧SR c L0 Lo lam bx x v) (vM:hi=none→CF=none)
  (QS:∀x,mx=some x→∃v,JD=some v∧SR c L0 Lo lam bx x v) (JE:mx=none→JD=none)
  (h:kO P t x lo hi mx=some y):∃r,(Instr.sliceAt t v Bh CF JD).run P c.w = .ok r c.w∧VR c (un L0 Lo) y r:=by
 unfold kO at h
 rw [T9] at h
 obtain⟨d,hd,h⟩:=h
 have Bi:(match d with | .array _ _=>false | _=>true)=true→(Instr.sliceAt t v Bh CF JD).run P c.w=(Instr.slice t v Bh CF JD).run P c.w:=by
  intro QT
  unfold Instr.sliceAt
  simp only [Sem.run_bind,bo hd,Result.andThen_ok]
  cases d<;>simp at QT<;>rfl
 split at h<;>try (cases h; done)
 ·rw [Bi rfl]
  cases mx with
  | some mm=>cases x<;>cases h
  | none=>
  cases x<;>simp only at h<;>try (cases h; done)
  rename_i st
  rw [JE rfl]
  simp only [SR,VR] at hx
  subst hx
  rw [Ub] at h
  obtain⟨⟨l,hh⟩,hb,rfl⟩:=h
  obtain⟨hr,_,_⟩:=jo (P:=P) (Ji:=false) (Ue _) pJ um Fm vM hb
  exact⟨.string (st.extract l hh),by simp [Instr.slice,bo hd,hr],by simp [VR]⟩
 ·rename_i e
  rw [Bi rfl]
  rw [T9] at h
  obtain⟨m,hm,h⟩:=h
  cases mx with
  | some mm=>
   cases hi with
   | none=>cases h
   | some hh=>
   simp only at h
   split at h
   ·rename_i hz
    simp only [Ud] at hz
    obtain⟨⟨z1,z2⟩,z3⟩:=hz
    obtain⟨mv,rfl,L3⟩:=QS mm rfl
    obtain⟨hv,rfl,QU⟩:=Fm hh rfl
    obtain⟨k3,rfl⟩:=nt z3 L3
    obtain⟨k2,rfl⟩:=nt z2 QU
    have hsl:∃a len cap,v = .slice a len cap∧VR c (un L0 Lo) y (.slice a 0 0):=by
     split at h<;>try (cases h; done)
     all_goals (cases h; simp only [SR,VR] at hx)
     ·obtain⟨a,cap,rfl,_,_,hs,_⟩:=hx; exact⟨_,_,_,rfl,by simp only [VR]; exact⟨_,_,rfl,Ue _,fun _=>rfl,hs.imp id fun _=>⟨trivial,rfl⟩,.inl (by simp)⟩⟩
     ·rcases hx with⟨_,_,_,a,rfl⟩| ⟨_,_,a,cap,rfl,_,hs,_⟩
      ·exact⟨_,_,_,rfl,by simp only [VR]; exact⟨_,_,rfl,Ue _,fun _=>rfl,.inr ⟨trivial,rfl⟩,.inl (by simp)⟩⟩
      ·exact⟨_,_,_,rfl,by simp only [VR]; exact⟨_,_,rfl,Ue _,fun _=>rfl,.inl hs,.inl (by simp)⟩⟩
     ·subst hx; exact⟨_,_,_,rfl,by simp [VR]⟩
    obtain⟨a,len,cap,rfl,QV⟩:=hsl
    have QX:Bh=none∨∃k,Bh=some (.int k 0):=by
     cases lo with
     | none=>exact .inl (um rfl)
     | some x=>
      obtain⟨lv,rfl,ly⟩:=pJ x rfl
      obtain⟨k,rfl⟩:=nt z1 ly
      exact .inr ⟨k,rfl⟩
    refine⟨.slice a 0 0,?_,QV⟩
    rcases QX with rfl | ⟨k,rfl⟩<;>simp [Instr.slice,bo hd,Instr.sliceBounds,Instr.sliceBound,asIntOf,dw hm]
   ·cases h
  | none=>
   rw [JE rfl]
   simp only at h
   cases x with
   | nils=>
    simp only [SR,VR] at hx
    subst hx
    rw [Ub] at h
    obtain⟨⟨l,hh⟩,hb,rfl⟩:=h
    obtain⟨hr,h1,h2⟩:=jo (P:=P) (Ji:=true) (Ue _) pJ um Fm vM hb
    have:hh=0:=by omega
    subst this
    have:l=0:=by omega
    subst this
    exact⟨.slice none 0 0,by simp [Instr.slice,bo hd,hr,dw hm],by simp [VR]⟩
   | fz cs len ex=>
    simp only [SR,VR] at hx
    obtain⟨a,cap,rfl,L4,hc2,hs,hc⟩:=hx
    rw [Ub] at h
    obtain⟨⟨l,hh⟩,hb,rfl⟩:=h
    obtain⟨hr,h1,h2⟩:=jo (P:=P) (Ji:=true) L4 pJ um Fm vM hb
    have QY:hh≤len:=by omega
    refine⟨.slice (if cap=l then a else a.map (·.add (l*m))) (hh - l) (cap - l),by simp [Instr.slice,bo hd,hr,dw hm],?_⟩
    simp only [VR]
    refine⟨_,_,rfl,by omega,fun he=>?_,?_,?_⟩
    rotate_left
    ·rcases hs with hs | ⟨hs,Jj⟩
     ·left; split<;>simp [hs]
     ·right; subst hs; subst Jj; simp
    rotate_left
    ·simp only [Ud,beq_iff_eq] at he
     have:=hc2 he.1
     omega
    ·rcases hc with hc | ⟨b,o',ha,GM,hex,hc⟩
     ·subst hc; exact .inl (by simp)
     ·by_cases hcl:cap=l
      ·left
       have:hh - l=0:=by omega
       simp [this]
      ·right
       rw [if_neg hcl,ha]
       exact⟨b,o'+l*m,by simp [addr_add],GM,fun he=>hex (by simp only [Ud] at he; exact he.1),(hc.drop _).take _⟩
   | rs id off len gZ=>
    simp only at h
    split at h
    ·rename_i sD
     subst sD
     simp only [SR,VR] at hx
     rcases hx with⟨rfl,rfl,rfl,a,rfl⟩| hx
     ·rw [Ub] at h
      obtain⟨⟨l,hh⟩,hb,rfl⟩:=h
      obtain⟨hr,h1,h2⟩:=jo (P:=P) (Ji:=true) (Ue _) pJ um Fm vM hb
      have:hh=0:=by omega
      subst this
      have:l=0:=by omega
      subst this
      exact⟨.slice a 0 0,by simp [Instr.slice,bo hd,hr,dw hm],by simp only [VR]; exact .inl ⟨trivial,by simp,trivial,a,rfl⟩⟩
     obtain⟨jH,hid,a,cap,rfl,L4,hc2,hc⟩:=hx
     rw [Ub] at h
     obtain⟨⟨l,hh⟩,hb,rfl⟩:=h
     obtain⟨hr,h1,h2⟩:=jo (P:=P) (Ji:=true) L4 pJ um Fm vM hb
     have QY:hh≤len:=by omega
     refine⟨.slice (if cap=l then a else a.map (·.add (l*gZ))) (hh - l) (cap - l),by simp [Instr.slice,bo hd,hr,dw hm],?_⟩
     simp only [VR]
     refine .inr ⟨jH,hid,_,_,rfl,by omega,by split<;>simp [hc2],fun hl=>?_⟩
     ·rcases hc hl with⟨h3,h4⟩| h3
      ·by_cases hcl:cap=l
       ·right; omega
       ·left
        rw [if_neg hcl,h3]
        refine⟨by simp [addr_add,U6],?_⟩
        rw [←h4]
        have:cap*gZ=l*gZ+(cap - l)*gZ:=by rw [←Vj]; congr 1; omega
        omega
      ·right; omega
    ·cases h
   | _=>cases h
end
end Go.R
namespace Go.R
open Go
section
variable {P:Program}
def ints (ns:List Int):List Value:=ns.map fun n=>.int .i64 n
theorem gO:∀{cs:List AV},cs.all jL=true→∃ns:List Int,cs=ns.map fun n=>AV.int .i64 n
 | [],_=>⟨[],rfl⟩
 | x::xs,h=>by
  simp only [UZ,Ud] at h
  obtain⟨ns,rfl⟩:=gO h.2
  cases x<;>simp [jL] at h
  rename_i k m
  cases k<;>simp at h
  exact⟨m::ns,rfl⟩
theorem jq {c:Cx}{L:Nat→Prop}:∀{ns:List Int} {vs:List Value},VRs c L (ns.map fun n=>AV.int .i64 n) vs→vs=ints ns
 | [],[],_=>rfl
 | m::ns,v::vs,h=>by
  have h1:v = .int .i64 m:=by simpa [VR] using h.1
  rw [h1,jq h.2]; rfl
 | [],_::_,h=>h.elim
 | _::_,[],h=>h.elim
theorem jO:∀ns ms:List Int,kP (ns.map fun n=>AV.int .i64 n) (ms.map fun n=>AV.int .i64 n)=decide (ns=ms)
 | [],[]=>rfl
 | [],_::_=>rfl
 | _::_,[]=>rfl
 | n::ns,m::ms=>by
  simp only [UC,kP,iD,jO ns ms]
  by_cases h1:n=m<;>by_cases h2:ns=ms<;>simp [h1,h2]
theorem gF {t:TypeId}(w:World)(ht:P.underlying t=some (.int .i64)){ns:List Int}{vs:Array Value}(hv:vs.toList=ints ns){i:Nat}{m:Int}(hi:ns[i]? = some m):(part t vs i).run P w = .ok (.int .i64 m) w:=by
 have h2:vs[i]? = some (.int .i64 m):=by rw [←Array.getElem?_toList,hv]; simp [ints,hi]
 simp [part,isAgg,bo ht,h2]
theorem kr {e:TypeId}(d:Nat)(w:World)(he:P.underlying e=some (.int .i64)){xs ys:Array Value}{ns ms:List Int}(hx:xs.toList=ints ns)(hy:ys.toList=ints ms)(hl:ns.length=ms.length) :
  ∀m i,i+m=ns.length→(Op.eqItems (d+1) e 1 xs ys (List.range' i m)).run P w = .ok (decide (ns.drop i=ms.drop i)) w
 | 0,i,h=>by
  have h1:ns.drop i=[]:=by simp; omega
  have h2:ms.drop i=[]:=by simp; omega
  simp [Op.eqItems,h1,h2]
 | m+1,i,h=>by
  have ih:=kr d w he hx hy hl m (i+1) (by omega)
  rw [List.range'_succ]
  simp only [Op.eqItems,Nat.mul_one,Sem.run_bind,gF w he hx (Uj (show i<ns.length by omega)),gF w he hy (Uj (show i<ms.length by omega)),Result.andThen_ok,run_equalIn_int w d e .i64 .i64 _ _ he]
  have e1:ns.drop i=ns[i]::ns.drop (i+1):=Uo (by omega)
  have e2:ms.drop i=ms[i]::ms.drop (i+1):=Uo (by omega)
  rw [e1,e2]
  clear e1 e2
  generalize ns[i]=a
  generalize ms[i]=b
  by_cases h3:a=b
  ·simp [h3,ih]
  ·simp [h3]
def vN (P : Program) (f : Field) (i : Nat) : Bool := f.name != "_" && f.offset == i && (P.underlying f.type matches some (.int .i64)) && eL P f.type == some 1
theorem jP (d:Nat)(w:World){xs ys:Array Value}{ns ms:List Int}(hx:xs.toList=ints ns)(hy:ys.toList=ints ms)(hl:ns.length=ms.length) :
  ∀(fs:List Field) (i:Nat),i+fs.length=ns.length→(fs.zipIdx i).all (fun (f,j)=>vN P f j)=true→(Op.eqFields (d+1) xs ys fs).run P w = .ok (decide (ns.drop i=ms.drop i)) w
 | [],i,h,_=>by
  have h1:ns.drop i=[]:=by simp at h ⊢; omega
  have h2:ms.drop i=[]:=by simp at h ⊢; omega
  simp [Op.eqFields,h1,h2]
 | f::fs,i,h,ha=>by
  simp only [List.zipIdx_cons,UZ,Ud] at ha
  obtain⟨hf,ha⟩:=ha
  simp only [Up] at h
  have ih:=jP d w hx hy hl fs (i+1) (by omega) ha
  simp only [vN,Ud,bne_iff_ne,ne_eq,beq_iff_eq] at hf
  obtain⟨⟨⟨f1,f2⟩,f3⟩,f4⟩:=hf
  have L5:P.underlying f.type=some (.int .i64):=by
   revert f3
   split<;>simp_all
  simp only [Op.eqFields,f1,ne_eq,not_false_eq_true,if_true,Sem.run_bind,f2,gF w L5 hx (Uj (show i<ns.length by omega)),gF w L5 hy (Uj (show i<ms.length by omega)),Result.andThen_ok,run_equalIn_int w d f.type .i64 .i64 _ _ L5]
  have e1:ns.drop i=ns[i]::ns.drop (i+1):=Uo (by omega)
  have e2:ms.drop i=ms[i]::ms.drop (i+1):=Uo (by omega)
  rw [e1,e2]
  clear e1 e2
  generalize ns[i]=a
  generalize ms[i]=b
  by_cases h3:a=b
  ·simp [h3,ih]
  ·simp [h3]
theorem ku {t:TypeId}(h:(P.underlying t matches some (.int .i64))=true):P.underlying t=some (.int .i64):=by
 revert h
 split<;>simp_all
theorem Bj {t:TypeId}{m:Nat}(h:eL P t=some m):∃i,P.info? t=some i∧P.cellsOf t=m:=by
 unfold eL at h
 rw [Ub] at h
 obtain⟨i,hi,rfl⟩:=h
 exact⟨i,hi,by simp [Program.cellsOf,hi]⟩
theorem bytes_beq (a b:ByteArray):(a.toList==b.toList)=(a.data.toList==b.data.toList):=by
 rw [ByteArray.toList_eq,ByteArray.toList_eq]
theorem te {c:Cx}{L:Nat→Prop}{t:TypeId}{x y:AV}{v u:Value}(d:Nat)(hx:fO P t x=true)(hs:sameShape x y=true)(hv:VR c L x v)(hu:VR c L y u)(w:World) :
  (Op.equalIn (d+2) t v u).run P w = .ok (eY x y) w:=by
 cases hd:P.underlying t with
 | none=>simp [fO,hd] at hx
 | some td=>
 cases td<;>simp only [fO,hd] at hx<;>try (cases hx; done)
 ·rename_i q
  cases x<;>simp only at hx<;>try (cases hx; done)
  rename_i k a
  cases y<;>simp only [sameShape] at hs<;>try (cases hs; done)
  rename_i l b
  simp only [VR] at hv hu
  subst hv; subst hu
  simp only [beq_iff_eq] at hs hx
  subst hs; subst hx
  rw [run_equalIn_int w (d+1) t _ _ a b hd]
  simp [eY,iD]
 ·cases x<;>simp only at hx<;>try (cases hx; done)
  rename_i a
  cases y<;>simp only [sameShape] at hs<;>try (cases hs; done)
  rename_i b
  simp only [VR] at hv hu
  subst hv; subst hu
  rw [run_equalIn_string w (d+1) t a b hd,bytes_beq]
  simp [eY,iD]
 ·rename_i n e
  cases x<;>simp only at hx<;>try (cases hx; done)
  rename_i cs
  cases y<;>simp only [sameShape] at hs<;>try (cases hs; done)
  rename_i eO
  simp only [Ud,beq_iff_eq] at hx hs
  obtain⟨⟨⟨h1,h2⟩,h3⟩,h4⟩:=hx
  obtain⟨ns,rfl⟩:=gO hs.1.2
  obtain⟨ms,rfl⟩:=gO hs.2
  simp only [VR] at hv hu
  obtain⟨xs,rfl,hxs⟩:=hv
  obtain⟨ys,rfl,L6⟩:=hu
  obtain⟨i,hi,L7⟩:=Bj h4
  have hl:ns.length=ms.length:=by simpa using hs.1.1
  rw [run_equalIn_array w (d+1) xs ys hd hi,L7]
  have:=kr (P:=P) d w (ku h3) (jq hxs) (jq L6) hl n 0 (by simpa using h1.symm)
  rw [List.range_eq_range',this,eY,jO]
  simp
 ·rename_i fs
  cases x<;>simp only at hx<;>try (cases hx; done)
  rename_i cs
  cases y<;>simp only [sameShape] at hs<;>try (cases hs; done)
  rename_i eO
  simp only [Ud,beq_iff_eq,Vf] at hx hs
  obtain⟨⟨⟨h1,h2⟩,h3⟩,h4⟩:=hx
  obtain⟨ns,rfl⟩:=gO hs.1.2
  obtain⟨ms,rfl⟩:=gO hs.2
  simp only [VR] at hv hu
  obtain⟨xs,rfl,hxs⟩:=hv
  obtain⟨ys,rfl,L6⟩:=hu
  have hl:ns.length=ms.length:=by simpa using hs.1.1
  have hf:P.fieldsOf t=fs:=by simp [Program.fieldsOf,hd]
  rw [run_equalIn_struct w (d+1) t xs ys (by rw [hf]; exact hd) h4,hf]
  have:=jP (P:=P) d w (jq hxs) (jq L6) hl fs.toList 0 (by simpa using h1.symm) h3
  rw [this,eY,jO]
  simp
theorem lR {α:Type}(w:World)(f:α→PUnit→Sem (ForInStep PUnit)):∀l:List α,(∀x∈l,(f x PUnit.unit).run P w = .ok (.yield PUnit.unit) w)→(forIn l PUnit.unit f).run P w = .ok PUnit.unit w
 | [],_=>by simp
 | x::xs,h=>by
  have ih:=lR w f xs (fun y hy=>h y (by simp [hy]))
  simp only [List.forIn_cons,Sem.run_bind,h x (by simp),Result.andThen_ok]
  exact ih
theorem mW {c:Cx}{L:Nat→Prop}{t:TypeId}{x:AV}{v:Value}(em:Bool)(d:Nat)(hx:fO P t x=true)(hv:VR c L x v)(w:World) :
  (Instr.checkKey em (d+2) t v).run P w = .ok () w:=by
 have one:∀(e:TypeId) (m:Int),P.underlying e=some (.int .i64)→(Instr.checkKey em (d+1) e (.int .i64 m)).run P w = .ok () w:=by
  intro e m he
  simp [Instr.checkKey,bo he]
 cases hd:P.underlying t with
 | none=>simp [fO,hd] at hx
 | some td=>
 cases td<;>simp only [fO,hd] at hx<;>try (cases hx; done)
 ·cases x<;>simp only at hx<;>try (cases hx; done)
  simp only [VR] at hv
  subst hv
  simp [Instr.checkKey,bo hd]
 ·cases x<;>simp only at hx<;>try (cases hx; done)
  simp only [VR] at hv
  subst hv
  simp [Instr.checkKey,bo hd]
 ·rename_i n e
  cases x<;>simp only at hx<;>try (cases hx; done)
  rename_i cs
  simp only [Ud,beq_iff_eq] at hx
  obtain⟨⟨⟨h1,h2⟩,h3⟩,h4⟩:=hx
  obtain⟨ns,rfl⟩:=gO h2
  simp only [VR] at hv
  obtain⟨xs,rfl,hxs⟩:=hv
  rw [Instr.checkKey]
  simp only [Sem.run_bind,bo hd,Result.andThen_ok]
  simp only [Std.Legacy.Range.forIn_eq_forIn_range',Std.Legacy.Range.size,Nat.sub_zero,Nat.add_one_sub_one,Nat.div_one]
  rw [lR w _ (List.range' 0 n) (fun i hi=>?_)]
  ·rfl
  ·have ze:i<ns.length:=by simp at hi h1; omega
   simp only [Sem.run_bind,dw h4,Result.andThen_ok,Nat.mul_one]
   rw [gF w (ku h3) (jq hxs) (Uj ze)]
   simp only [Result.andThen_ok,one e _ (ku h3)]
   rfl
 ·rename_i fs
  cases x<;>simp only at hx<;>try (cases hx; done)
  rename_i cs
  simp only [Ud,beq_iff_eq,Vf] at hx
  obtain⟨⟨⟨h1,h2⟩,h3⟩,h4⟩:=hx
  obtain⟨ns,rfl⟩:=gO h2
  simp only [VR] at hv
  obtain⟨xs,rfl,hxs⟩:=hv
  rw [Instr.checkKey]
  simp only [Sem.run_bind,bo hd,Result.andThen_ok]
  rw [←Array.forIn_toList]
  rw [lR w _ fs.toList (fun f hf=>?_)]
  ·rfl
  ·obtain⟨i,hi,rfl⟩:=List.mem_iff_getElem.1 hf
   have hm:(fs.toList[i],i)∈fs.toList.zipIdx:=by rw [List.mem_zipIdx_iff_getElem?]; simp [hi]
   have hh:=Uv.1 h3 _ hm
   generalize fs.toList[i]=f at hh
   simp only [Ud,bne_iff_ne,ne_eq,beq_iff_eq] at hh
   obtain⟨⟨⟨f1,f2⟩,f3⟩,f4⟩:=hh
   have ze:i<ns.length:=by simp at hi h1; omega
   rw [if_pos f1,f2]
   simp only [Sem.run_bind]
   rw [gF w (ku f3) (jq hxs) (Uj ze)]
   simp only [Result.andThen_ok,one _ _ (ku f3)]
   rfl
end
end Go.R
