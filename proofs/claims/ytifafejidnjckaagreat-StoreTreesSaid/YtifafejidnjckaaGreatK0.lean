/- Part of the proof: RCore, RRel, RFrame, ROps1, ROps2, RKeys. -/
import GoSem.Dispatch
import GoSem.Machine.Return
import Derived.Orders
import Derived.Below
import Derived.Laws.World
import Derived.Laws.Sem
import Derived.Tactics
import Derived.Laws.Cells
import Derived.Laws.Entries
import Derived.ChangeKeysEq
import Derived.WideKeyRuns
set_option linter.unusedVariables false
set_option linter.unusedSimpArgs false
set_option maxRecDepth 100000
open Array renaming getElem?_eq_some_iff → abj, getElem?_setIfInBounds → abJ
open Bool renaming and_eq_true → aaK, false_eq_true → aaU, not_eq_true' → abN
open List renaming getElem?_eq_getElem → aaL, getElem?_eq_some_iff → aaM, mem_of_getElem? → aaP, drop_eq_getElem_cons → aaT, length_cons → aaW, all_eq_true → aa1, map_cons → aa3, mem_cons → aa6, all_cons → abu
open Nat renaming le_refl → aaN, zero_add → aa7, lt_of_lt_of_le → aa9, beq → abq, le_trans → abB, add_sub_cancel_left → abC, add_assoc → abI, eq_of_beq_eq_true → abR, le_succ → abV, add_mul → abW, add_right_comm → ab4, ble → ab7
open Option renaming bind_eq_some_iff → aaH, map_eq_some_iff → aaI
open Option.some renaming injEq → aaJ
open Prod.mk renaming injEq → aaQ
namespace Go.R
open Go
inductive AV where
 | any
 | bool (b:Bool)
 | int (k:IntKind) (n:Int)
 | str (s:ByteArray)
 | pC
 | ptr (id off:Nat)
 | lp (k off:Nat)
 | fp (cs:List AV) (off:Nat)
 | nils
 | fz (cs:List AV) (n:Nat) (ex:Bool)
 | rs (id off len jb:Nat)
 | nw
 | mp (id:Nat)
 | fn (f:FuncId) (cap:List AV)
 | p6
 | agg (cs:List AV)
 | tup (vs:List AV)
 deriving Inhabited
inductive AObj where
 | cells (cs:List AV)
 | map (es:List (AV × AV))
 | row (e:TypeId) (cs:List AV)
 deriving Inhabited
structure AHeap where
 get:Nat→Option AObj
 ver:Nat→Nat
 next:Nat
def AHeap.put (h:AHeap)(id:Nat)(o:AObj):AHeap:={get:=fun i=>bif abq i id then some o else h.get i,ver:=fun i=>bif abq i id then h.next else h.ver i,next:=h.next+1}
def AHeap.kill (h:AHeap)(id:Nat):AHeap:={get:=fun i=>bif abq i id then none else h.get i,ver:=fun i=>bif abq i id then h.next else h.ver i,next:=h.next+1}
def AHeap.alloc (h:AHeap)(o:AObj):AHeap:=h.put h.next o
def AV.cells:AV→List AV
 | .agg cs=>cs
 | v=>[v]
def AV.bY:AV→Bool
 | .any | .lp .. | .agg _ | .tup _=>false
 | _=>true
def AV.lu:AV→Bool
 | .lp .. | .any=>false
 | .agg cs=>cs.all AV.bY
 | _=>true
mutual
def AV.eu:AV→Bool
 | .any | .lp .. | .ptr .. | .rs .. | .mp _=>false
 | .fp cs _ | .fz cs _ _ | .agg cs | .tup cs | .fn _ cs=>cQ cs
 | _=>true
def cQ:List AV→Bool
 | []=>true
 | x::xs=>x.eu&&cQ xs
end
mutual
def AV.j5:AV→AV
 | .nils=>.fz [] 0 false
 | .fz cs n _=>.fz (dH cs) n false
 | .fp cs off=>.fp (dH cs) off
 | .agg cs=>.agg (dH cs)
 | .tup cs=>.tup (dH cs)
 | .fn f cs=>.fn f (dH cs)
 | x=>x
def dH:List AV→List AV
 | []=>[]
 | x::xs=>x.j5::dH xs
end
def AV.gT:AV→Option Value
 | .bool b=>some (.bool b)
 | .int k n=>some (.int k n)
 | .str s=>some (.string s)
 | .pC=>some (.pointer none)
 | .p6=>some .nilFunc
 | .nw=>some (.map none)
 | .nils=>some (.slice none 0 0)
 | _=>none
def jC:List AV→Option (List Value)
 | []=>some []
 | x::xs=>(x.gT).bind fun v=>(jC xs).bind fun vs=>some (v::vs)
def AV.BS:AV→Option Value
 | .agg cs=>(jC cs).map fun vs=>.agg vs.toArray
 | v=>v.gT
def p7:Value→Option AV
 | .bool b=>some (.bool b)
 | .int k n=>some (.int k n)
 | .string s=>some (.str s)
 | .pointer none=>some .pC
 | .slice none 0 0=>some .nils
 | .map none=>some .nw
 | .nilFunc=>some .p6
 | _=>none
def sf:List Value→Option (List AV)
 | []=>some []
 | x::xs=>(p7 x).bind fun v=>(sf xs).bind fun vs=>some (v::vs)
def GK:Value→Option AV
 | .agg cs=>(sf cs.toList).map .agg
 | v=>p7 v
def jl {α:Type}(P:Program):Sem α→Option α
 | .pure a=>some a
 | .program k=>jl P (k P)
 | _=>none
def bQ (ρ:Nat→AV):Operand→AV
 | .tmp t=>ρ t
 | .const v=>(GK v).getD .any
 | .func f=>.fn f []
 | .global _=>.any
section
variable (P:Program)
def fM (t:TypeId):Option Nat:=(P.info? t).map (·.size)
def jc (t:TypeId):Option AV:=(P.info? t).bind fun i=>i.zero.bind GK
def gG (t:TypeId):Option Bool:=(P.underlying t).map fun | .struct _ | .array _ _=>true | _=>false
def jD (t:TypeId)(cs:List AV)(off:Nat):Option AV:=
 (gG P t).bind fun ag=>if ag then (fM P t).bind fun n=>if off+n≤cs.length then some (.agg ((cs.drop off).take n)) else none else cs[off]?
def dv:List AV→Nat→List AV→List AV
 | cs,_,[]=>cs
 | cs,i,v::vs=>dv (cs.set i v) (i+1) vs
def iB (t:TypeId)(cs:List AV)(off:Nat)(v:AV):Option (List AV):=
 (fM P t).bind fun n=>if v.cells.length=n∧v.cells.all AV.bY∧off+n≤cs.length then some (dv cs off v.cells) else none
def tY (place:Nat→Option (Nat × Nat))(cells:List AV):List (Nat × AV)→Option (List AV)
 | []=>some cells
 | (i,v)::rest=>
  (place i).bind fun (off,size)=>
   if v.cells.length=size∧v.cells.all AV.bY∧off+size≤cells.length then tY place (dv cells off v.cells) rest else none
def BT (fs:List Field)(i:Nat):Option (Nat × Nat):=(fs[i]?).bind fun f=>(fM P f.type).map fun n=>(f.offset,n)
def BU (t:TypeId)(parts:List (Nat × AV)):Option AV:=
 (jc P t).bind fun z=>(P.underlying t).bind fun
  | .struct fs=>if fs.toList.all (fun f=>(fM P f.type).isSome) then (tY (BT P fs.toList) z.cells parts).map .agg else none
  | .array _ e=>(fM P e).bind fun n=>(tY (fun i=>some (i*n,n)) z.cells parts).map .agg
  | _=>none
def jd (z:List AV):Nat→List AV
 | 0=>[]
 | n+1=>z++jd z n
def ig (t:TypeId)(len:Nat)(parts:List (Nat × AV)):Option AV:=
 (P.underlying t).bind fun
  | .slice e=>(fM P e).bind fun n=>if n=0∨len*n > 16777216 then none else if len=0 then (if parts.isEmpty then some (.fz [] 0 true) else none) else
    (jc P e).bind fun z=>if z.cells.length=n then (tY (fun i=>some (i*n,n)) (jd z.cells len) parts).map fun cs=>.fz cs len true else none
  | _=>none
def AV.shift:AV→Nat→Option AV
 | .ptr id off,n=>some (.ptr id (off+n))
 | .lp k off,n=>some (.lp k (off+n))
 | .fp cs off,n=>some (.fp cs (off+n))
 | _,_=>none
def pD (s:TypeId)(x:AV)(f:Nat):Option AV:=
 (P.underlying s).bind fun
  | .struct fs=>(fs[f]?).bind fun fd=>(fM P fd.type).bind fun n=>if n=0 then none else x.shift fd.offset
  | _=>none
def fD (t:TypeId)(x i:AV):Option AV:=
 match i with
 | .int _ i=>
  (P.underlying t).bind fun
   | .array len e=>(fM P e).bind fun n=>if 0≤i∧i<len then x.shift (i.toNat*n) else none
   | .slice e=>(fM P e).bind fun n=>
    match x with
    | .fz cs len _=>if 0≤i∧i<len∧i.toNat*n<cs.length then some (.fp cs (i.toNat*n)) else none
    | .rs id off len jb=>if jb=n∧0≤i∧i<len then some (.ptr id (off+i.toNat*n)) else none
    | _=>none
   | _=>none
 | _=>none
def Dn (t:TypeId)(cs:List AV)(off:Nat):Option AV:=jD P t cs off
def BV (s:TypeId)(x:AV)(f:Nat):Option AV:=
 match x with
 | .agg cs=>(P.underlying s).bind fun
  | .struct fs=>(fs[f]?).bind fun fd=>Dn P fd.type cs fd.offset
  | _=>none
 | _=>none
def rq (t:TypeId)(x i:AV):Option AV:=
 match i with
 | .int _ i=>
  (P.underlying t).bind fun
   | .array len e=>match x with
    | .agg cs=>(fM P e).bind fun n=>if 0≤i∧i<len then Dn P e cs (i.toNat*n) else none
    | _=>none
   | .string=>match x with
    | .str s=>if 0≤i then (s.data.toList[i.toNat]?).map fun b=>.int .u8 b.toNat else none
    | _=>none
   | _=>none
 | _=>none
def ly (len cap:Nat)(lo hi:Option AV):Option (Nat × Nat):=
 (match hi with | none=>some len | some (.int _ i)=>if 0≤i∧i≤cap then some i.toNat else none | _=>none).bind fun h=>
 (match lo with | none=>some 0 | some (.int _ i)=>if 0≤i∧i≤h then some i.toNat else none | _=>none).bind fun l=>some (l,h)
def isZero:Option AV→Bool
 | none=>true
 | some (.int _ i)=>i==0
 | _=>false
def mI (t:TypeId)(x:AV)(lo hi mx:Option AV):Option AV:=
 (P.underlying t).bind fun
  | .string=>match x,mx with
   | .str s,none=>(ly s.size s.size lo hi).map fun (l,h)=>.str (s.extract l h)
   | _,_=>none
  | .slice e=>(fM P e).bind fun n=>
   match mx with
   | some m=>match hi with
    | some _=>if isZero lo&&isZero hi&&isZero (some m) then (match x with | .fz .. | .rs ..=>some (.fz [] 0 true) | .nils=>some .nils | _=>none) else none
    | none=>none
   | none=>
    match x with
    | .nils=>(ly 0 0 lo hi).map fun _=>.nils
    | .fz cs len ex=>(ly len len lo hi).map fun (l,h)=>.fz ((cs.drop (l*n)).take ((h - l)*n)) (h - l) (ex&&h==len)
    | .rs id off len jb=>if jb=n then (ly len len lo hi).map fun (l,h)=>.rs id (off+l*n) (h - l) jb else none
    | _=>none
  | _=>none
def eT (h:AHeap)(size:Nat)(x:AV):Option (List AV × Nat):=
 match x with
 | .nils=>some ([],0)
 | .fz cs n _=>if cs.length=n*size then some (cs,n) else none
 | .rs id off len jb=>if id=0∨(len=0∧(h.get id).isNone=true) then (if len=0 then some ([],0) else none) else (h.get id).bind fun
  | .cells cs=>if jb=size∧off+len*size≤cs.length then some ((cs.drop off).take (len*size),len) else none
  | _=>none
 | .str s=>if size=1 then some (s.data.toList.map fun b=>.int .u8 b.toNat,s.size) else none
 | _=>none
def hZ:Nat:=1099511627776
def jm (t2:TypeId)(x:AV):Bool:=
 match x with
 | .str _=>(P.underlying t2 matches some .string)
 | _=>(P.underlying t2 matches some (.slice _))
def Lu (i:TypeInfo):Bool:=match i.zero.bind GK with | some z=>z.cells.length==i.size | none=>false
def kK:AV→AV
 | .nils=>.fz [] 0 false
 | x=>x
def gp (h:AHeap)(size:Nat)(x:AV):Option (List AV × Nat):=(eT h size x).map fun p=>(p.1.map kK,p.2)
def dN (h:AHeap)(t t2:TypeId)(s x:AV):Option (AV × AHeap):=
 (P.underlying t).bind fun
  | .slice e=>(P.info? e).bind fun i=>
   (gp h i.size x).bind fun (new,n)=>
    if i.size=0∨jm P t2 x=false∨Lu i=false then none else
    match s with
    | .nils=>if n*i.bytes > hZ∨n > hZ then none else if n=0 then some (.rs 0 0 0 i.size,h) else some (.rs h.next 0 n i.size,h.alloc (.cells new))
    | .fz cs len true=>if (len+n)*i.bytes > hZ∨len+n > hZ∨cs.length≠len*i.size then none else if n=0 then (if len=0 then some (.rs 0 0 0 i.size,h) else some (s,h)) else some (.rs h.next 0 (len+n) i.size,h.alloc (.cells (cs++new)))
    | .rs id off len jb=>if id=0 then (if n*i.bytes > hZ∨n > hZ∨jb≠i.size then none else if n=0 then some (s,h) else some (.rs h.next 0 n i.size,h.alloc (.cells new))) else (h.get id).bind fun
     | .cells cs=>if jb≠i.size∨off+len*jb > cs.length∨(len+n)*i.bytes > hZ∨len+n > hZ then none else
       if n=0 then some (s,h) else some (.rs h.next 0 (len+n) jb,(h.kill id).put h.next (.cells ((cs.drop off).take (len*jb)++new)))
     | _=>none
    | _=>none
  | _=>none
def iY:AV→AV→Bool
 | .int k a,.int l b=>k==l&&a==b
 | .str a,.str b=>a.data.toList==b.data.toList
 | .bool a,.bool b=>a==b
 | _,_=>false
def mJ:List AV→List AV→Bool
 | [],[]=>true
 | x::xs,y::ys=>iY x y&&mJ xs ys
 | _,_=>false
def fL:AV→AV→Bool
 | .agg xs,.agg ys=>mJ xs ys
 | x,y=>iY x y
def lz:AV→Bool
 | .int .i64 _=>true
 | _=>false
def gu (t:TypeId)(k:AV):Bool:=
 match P.underlying t,k with
 | some (.int q),.int k _=>q==k
 | some .string,.str _=>true
 | some (.array n e),.agg cs=>cs.length==n&&cs.all lz&&(P.underlying e matches some (.int .i64))&&fM P e==some 1
 | some (.struct fs), .agg cs => cs.length == fs.size && cs.all lz && fs.toList.zipIdx.all (fun (f, i) => f.name != "_" && f.offset == i && (P.underlying f.type matches some (.int .i64)) && fM P f.type == some 1) && !P.stoodInHeld t
 | _,_=>false
def sameShape:AV→AV→Bool
 | .int k _,.int l _=>k==l
 | .str _,.str _=>true
 | .agg xs,.agg ys=>xs.length==ys.length&&xs.all lz&&ys.all lz
 | _,_=>false
def iK (k:AV):List (AV × AV)→Option (Option AV)
 | []=>some none
 | (k',v)::es=>if sameShape k k' then (if fL k k' then some (some v) else iK k es) else none
def tZ (k v:AV):List (AV × AV)→Option (List (AV × AV))
 | []=>some [(k,v)]
 | (k',v')::es=>if sameShape k k' then (if fL k k' then some ((k,v)::es) else (tZ k v es).map ((k',v') :: ·)) else none
def eZ (h:AHeap)(t:TypeId)(m k:AV)(ok:Bool):Option AV:=
 (P.underlying t).bind fun
  | .map kt et=>if gu P kt k=false then none else
   (match m with
    | .nw=>some []
    | .mp id=>(h.get id).bind fun | .map es=>some es | _=>none
    | _=>none).bind fun es=>
   (iK k es).bind fun
   | some v=>some (if ok then .tup [v,.bool true] else v)
   | none=>(jc P et).map fun z=>if ok then .tup [z,.bool false] else z
  | _=>none
def iC (h:AHeap)(t:TypeId)(m k v:AV):Option AHeap:=
 (P.underlying t).bind fun
  | .map kt _=>if gu P kt k=false∨v.lu=false then none else
   match m with
   | .mp id=>(h.get id).bind fun | .map es=>(tZ k v es).map fun sh=>h.put id (.map sh) | _=>none
   | _=>none
  | _=>none
def ub (h:AHeap)(t:TypeId)(x:AV):Option AV:=
 (P.underlying t).bind fun
  | .slice _=>match x with
   | .nils=>some (.int .i64 0)
   | .fz _ n _=>some (.int .i64 n)
   | .rs _ _ n _=>some (.int .i64 n)
   | _=>none
  | .string=>match x with
   | .str s=>some (.int .i64 s.size)
   | _=>none
  | .map _ _=>match x with
   | .nw=>some (.int .i64 0)
   | .mp id=>(h.get id).bind fun | .map es=>some (.int .i64 es.length) | _=>none
   | _=>none
  | _=>none
def si (h:AHeap)(t t2:TypeId)(d x:AV):Option (AV × AHeap):=
 (P.underlying t).bind fun
  | .slice e=>(P.info? e).bind fun i=>(eT h i.size x).bind fun (new,m)=>
   if jm P t2 x=false then none else
   match d with
   | .rs id off len jb=>if id=0 then (if m=0 then some (.int .i64 0,h) else none) else (h.get id).bind fun
    | .cells cs=>if jb=i.size∧m≤len∧off+m*i.size≤cs.length then some (.int .i64 m,h.put id (.cells (dv cs off new))) else none
    | _=>none
   | .nils=>if m=0 then some (.int .i64 0,h) else none
   | _=>none
  | _=>none
def mK (h:AHeap)(t:TypeId)(x:AV):Option AHeap:=
 (P.underlying t).bind fun ty=>match x with
 | .nw=>some h
 | .mp id=>(h.get id).bind fun | .map _=>some (h.put id (.map [])) | _=>none
 | .rs id off len jb=>if len=0 then some h else if id=0 then none else match ty with
  | .slice e=>(P.info? e).bind fun i=>(jc P e).bind fun z=>(h.get id).bind fun
   | .cells cs=>if jb=i.size∧z.cells.length=i.size∧i.size≠0∧z.cells.all AV.bY∧off+len*jb≤cs.length then some (h.put id (.cells (dv cs off (jd z.cells len)))) else none
   | _=>none
  | _=>none
 | _=>none
def ij (h:AHeap)(t:TypeId)(l c:AV):Option (AV × AHeap):=
 match l,c with
 | .int .i64 l,.int .i64 c=>
  (P.underlying t).bind fun
   | .slice e=>(P.info? e).bind fun i=>(jc P e).bind fun z=>
    if 0≤l∧l≤c∧c*i.bytes≤hZ∧z.cells.length=i.size∧i.size≠0∧c≤1099511627776∧z.cells.all AV.bY then some (.rs h.next 0 l.toNat i.size,h.alloc (.cells (jd z.cells l.toNat))) else none
   | _=>none
 | _,_=>none
def Lv:List AV→Option (List UInt8)
 | []=>some []
 | .int .u8 n::xs=>(Lv xs).map fun l=>UInt8.ofNat n.toNat::l
 | _::_=>none
def GL (e:TypeId):Bool:=(P.underlying e matches some (.int .u8))&&fM P e==some 1
def nV (h:AHeap)(src dst:TypeId)(x:AV):Option AV:=
 match P.underlying src,P.underlying dst with
 | some (.slice e),some .string=>if GL P e then (eT h 1 x).bind fun (cs,_)=>(Lv cs).map fun l=>.str ⟨l.toArray⟩ else none
 | some .string,some (.slice e)=>match x with
  | .str s=>if GL P e then some (.fz (s.data.toList.map fun b=>.int .u8 b.toNat) s.size false) else none
  | _=>none
 | some (.slice _),some (.slice e)=>match x with
  | .fz cs n true=>if src==dst&&GL P e&&0<cs.length then some (.fz cs n true) else none
  | _=>none
 | _,_=>(x.gT).bind fun v=>(jl P (convert src dst v)).bind p7
def BW (op:BinOp)(x y:ByteArray):Option AV:=
 let a:=x.data.toList
 let b:=y.data.toList
 match op with
 | .add=>if x.size+y.size≤1099511627776 then some (.str (x++y)) else none
 | .eql=>some (.bool (a==b))
 | .neq=>some (.bool (!(a==b)))
 | .lss=>some (.bool (Op.bytesLess a b))
 | .leq=>some (.bool (Op.bytesLess a b||a==b))
 | .gtr=>some (.bool (!(Op.bytesLess a b||a==b)))
 | .geq=>some (.bool (!Op.bytesLess a b))
 | _=>none
def BX:BinOp→Option Bool
 | .eql=>some true
 | .neq=>some false
 | _=>none
def nW (op:BinOp)(t:TypeId)(x y:AV):Option AV:=
 match x,y with
 | .str a,.str b=>BW op a b
 | .ptr ..,.pC | .pC,.ptr .. | .fp ..,.pC=>(BX op).bind fun rj=>if (P.underlying t matches some (.pointer _)) then some (.bool (!rj)) else none
 | .fz (_::_) ..,.nils | .rs (_+1) ..,.nils=>(BX op).bind fun rj=>if (P.underlying t matches some (.slice _)) then some (.bool (!rj)) else none
 | .agg _,.agg _=>(BX op).bind fun rj=>if gu P t x&&gu P t y&&sameShape x y && !P.eqGuardType P.depth t then some (.bool (fL x y==rj)) else none
 | x,y=>(x.gT).bind fun a=>(y.gT).bind fun b=>(jl P (binOp op t a b)).bind p7
def mL (op:Value→Value→Sem Value):Value→List Value→Option Value
 | v,[]=>some v
 | v,x::xs=>(jl P (op v x)).bind fun u=>mL op u xs
structure RS where
 ρ:Nat→AV
 bx:Nat→Option (List AV)
 h:AHeap
def RS.set (s:RS)(d:Option Nat)(v:AV):RS:=
 match d with
 | none=>s
 | some d=>{s with ρ:=fun t=>bif abq t d then v else s.ρ t}
def RS.box (s:RS)(k:Nat)(cs:List AV):RS:={s with bx:=fun t=>bif abq t k then some cs else s.bx t}
abbrev CallF:=FuncId→List AV→AHeap→Option (AV × AHeap)
def uc (k:Nat)(ρ:Nat→AV):List Nat→Bool
 | []=>true
 | t::ts=>(match ρ t with | .lp j _=>j != k | _=>true)&&uc k ρ ts
def iZ (s:RS)(aH ds:List Nat)(o:Oper)(cs:List AV):Option RS:=
 if cs.all AV.bY then
  match o.dst with
  | some d=>if aH.contains d then (if uc d s.ρ (ds.filter fun t=>!Nat.beq t d) then some ((s.box d cs).set (some d) (.lp d 0)) else none) else some ({s with h:=s.h.alloc (.cells cs)}.set (some d) (.ptr s.h.next 0))
  | none=>none
 else none
def ud:AV→Option Bool
 | .bool b=>some b
 | _=>none
def gD (s:RS)(o:Oper)(b:Builtin)(ts:List TypeId)(args:List AV):Option RS:=
 match b,ts,args with
 | .len,[t],[x]=>(ub P s.h t x).map fun v=>s.set o.dst v
 | .append,[t,t2],[x,y]=>(dN P s.h t t2 x y).map fun (v,h)=>{s with h}.set o.dst v
 | .copy,[t,t2],[x,y]=>(si P s.h t t2 x y).map fun (v,h)=>{s with h}.set o.dst v
 | .clear,[t],[x]=>(mK P s.h t x).map fun h=>{s with h}.set o.dst (.tup [])
 | .min,_,x::xs=>(x.gT).bind fun v=>(jC xs).bind fun vs=>(mL P Builtin.min2 v vs).bind fun u=>(p7 u).map fun r=>s.set o.dst r
 | .max,_,x::xs=>(x.gT).bind fun v=>(jC xs).bind fun vs=>(mL P Builtin.max2 v vs).bind fun u=>(p7 u).map fun r=>s.set o.dst r
 | _,_,_=>none
def kL (bx:Nat→Option (List AV))(h:AHeap)(t:TypeId)(x:AV):Option AV:=
 match x with
 | .lp k off=>(bx k).bind fun cs=>jD P t cs off
 | .fp cs off=>if cs.isEmpty then none else jD P t cs off
 | .ptr id off=>(h.get id).bind fun | .cells cs=>jD P t cs off | _=>none
 | _=>none
def rr:AV→Option AV
 | .ptr id off=>some (.ptr id off)
 | .lp k off=>some (.lp k off)
 | .fp cs off=>some (.fp cs off)
 | _=>none
def uf:AV→Nat→Option AV
 | .tup vs,i=>vs[i]?
 | _,_=>none
def pE (aH:List Nat)(o:Oper)(t:TypeId)(x:AV):Option (List AV × Nat × Nat):=
 match o.dst,x with
 | some d,.fz (c::cs) n true=>bif aH.contains d then (match P.underlying t with
   | some (.slice e)=>match fM P e with
    | some z=>bif abq (c::cs).length (n*z) then some (c::cs,n,z) else none
    | none=>none
   | _=>none) else none
 | _,_=>none
def ru (aH:List Nat)(s:RS)(o:Oper)(t:TypeId)(x:AV):RS:=
 match pE P aH o t x with
 | none=>s.set o.dst x
 | some (cs,n,z)=>{s with h:=s.h.alloc (.cells cs)}.set o.dst (.rs s.h.next 0 n z)
def GM:List Nat→Nat→Nat
 | [],_=>0
 | k::ks,d=>bif abq (k % 1000000) d&&ab7 1000000 k then k / 1000000 else GM ks d
def wv (n:Nat):AV→AV
 | .nils=>.rs 0 0 0 n
 | x=>x
def BY (n:Nat):Nat→List AV→List AV
 | _,[]=>[]
 | j,x::xs=>(match n / 100 / 10 ^ j % 10 with | 0=>x | k=>wv k x)::BY n (j+1) xs
def JS (cs:List AV):Nat→List AV
 | 0=>cs
 | n=>bif ab7 100 n then BY n 0 cs else cs.map (wv n)
def BZ (aH:List Nat)(d:Option Nat)(cs:List AV):List AV:=
 match d with
 | none=>cs
 | some d=>JS cs (GM aH d)
def Mf (aH:List Nat)(d:Option Nat):AV→AV
 | .agg cs=>.agg (BZ aH d cs)
 | x=>x
def Fh (h:AHeap)(x:AV):Option (AV × AHeap):=
 if x.eu then some (x,h) else
 match x with
 | .rs id off len jb=>if id=0 then (if len=0 then some (.fz [] 0 false,h) else none) else (h.get id).bind fun
  | .cells cs=>if off+len*jb≤cs.length∧cQ ((cs.drop off).take (len*jb))=true then some (.fz ((cs.drop off).take (len*jb)) len false,h.kill id) else none
  | _=>none
 | _=>none
def xR (h:AHeap):List AV→Option (List AV × AHeap)
 | []=>some ([],h)
 | x::xs=>(Fh h x).bind fun a=>(xR a.2 xs).map fun b=>(a.1::b.1,b.2)
def jR (k:Nat)(h:AHeap)(x:AV):Option (AV × AHeap):=
 match k with
 | 0=>
  match x with
  | .nils=>some (.fz [] 0 false,h)
  | .rs id off len jb=>if id=0 then (if len=0 then some (.fz [] 0 false,h) else none) else (h.get id).bind fun
   | .cells cs=>if off+len*jb≤cs.length then (xR (h.kill id) ((cs.drop off).take (len*jb))).map fun r=>(.fz r.1 len false,r.2) else none
   | _=>none
  | .fz cs n _=>some (.fz cs n false,h)
  | _=>none
 | k+1=>
  match x with
  | .nils=>some (.rs 0 0 0 (k+1),h)
  | .fz [] 0 true=>some (.rs 0 0 0 (k+1),h)
  | .rs id off len jb=>some (.rs id off len jb,h)
  | _=>none
def ON (aH:List Nat)(d:Option Nat):Bool:=
 match d with
 | none=>false
 | some d=>aH.contains (1000000000+d)
def xS (aH:List Nat)(d:Option Nat)(x:AV × AHeap):Option (AV × AHeap):=
 bif ON aH d then jR 0 x.2 x.1 else some x
def B0 (cf:CallF)(aH ds:List Nat)(e:Operand→AV)(s:RS)(o:Oper):Option RS:=
 let v (r:Option AV):Option RS:=r.map fun x=>s.set o.dst x
 match o.op with
 | .move x | .assign x=>some (s.set o.dst (e x))
 | .pick c a b=>(ud (e c)).map fun t=>s.set o.dst (if t then e a else e b)
 | .alloc t=>(jc P t).bind fun z=>iZ s aH ds o (BZ aH o.dst z.cells)
 | .box _ x=>iZ s aH ds o (e x).cells
 | .build t ps=>v ((BU P t (ps.toList.map fun (i,x)=>(i,e x))).map (Mf aH o.dst))
 | .buildSlice t n ps=>(ig P t n (ps.toList.map fun (i,x)=>(i,e x))).map fun x=>ru P aH s o t x
 | .load t a=>v (kL P s.bx s.h t (e a))
 | .store t a x=>if o.dst.isSome then none else
  match e a with
  | .lp k off=>(s.bx k).bind fun cs=>(iB P t cs off (e x)).map fun fQ=>s.box k fQ
  | .ptr id off=>(s.h.get id).bind fun | .cells cs=>(iB P t cs off (e x)).map fun fQ=>{s with h:=s.h.put id (.cells fQ)} | _=>none
  | _=>none
 | .nilCheck x=>v (rr (e x))
 | .binOp op t x y _=>v (nW P op t (e x) (e y))
 | .unOp op _ x=>v ((e x).gT.bind fun a=>(jl P (Op.unary op a)).bind p7)
 | .convert a b x=>v (nV P s.h a b (e x))
 | .makeFunc (.func f) first cap=>if first.isEmpty∧(cap.toList.map e).all AV.bY then v (some (.fn f (cap.toList.map e))) else none
 | .makeMap _ none=>some ({s with h:=s.h.alloc (.map [])}.set o.dst (.mp s.h.next))
 | .makeSlice t l c=>(ij P s.h t (e l) (e c)).map fun (x,h)=>{s with h}.set o.dst x
 | .slice t x lo hi mx=>v (mI P t (e x) (lo.map e) (hi.map e) (mx.map e))
 | .fieldAddr t x f=>v (pD P t (e x) f)
 | .field t x f=>v (BV P t (e x) f)
 | .indexAddr t x i=>v (fD P t (e x) (e i))
 | .index t x i=>v (rq P t (e x) (e i))
 | .lookup t m k ok=>v (eZ P s.h t (e m) (e k) ok)
 | .mapUpdate t m k x | .insert t m k x=>if o.dst.isSome then none else (iC P s.h t (e m) (e k) (e x)).map fun h=>{s with h}
 | .extract t i=>v (uf (e t) i)
 | .call {callee:=.builtin b,args,argTypes}=>gD P s o b argTypes.toList (args.toList.map e)
 | .call {callee:=.value f,args,..}=>
  match e f with
  | .fn f cap=>let as:=args.toList.map e
    if as.all AV.lu then ((cf f (as++cap) s.h).bind (xS aH o.dst)).map fun (r,h)=>{s with h}.set o.dst r else none
  | _=>none
 | _=>none
def xT (cf:CallF)(aH ds:List Nat)(s:RS)(o:Oper):Option RS:=B0 P cf aH ds (bQ s.ρ) s o
def iD (ops:List Oper)(ρ:Nat→AV)(o:Oper):Option Bool:=
 match o.guard with
 | none=>some true
 | some (j,want)=>((ops[j]?).bind (·.dst)).bind fun d=>match ρ d with
  | .bool b=>some (b==want)
  | .tup []=>some false
  | _=>none
def nX (cf:CallF)(aH:List Nat)(ops:List Oper)(s:RS)(o:Oper):Option RS:=
 (iD ops s.ρ o).bind fun w=>if w then xT P cf aH (ops.filterMap (·.dst)) s o else some (s.set o.dst (.tup []))
def sV (cf:CallF)(aH:List Nat)(ops:List Oper):RS→List Oper→Option RS
 | s,[]=>some s
 | s,o::os=>(nX P cf aH ops s o).bind fun s'=>sV cf aH ops s' os
end
structure l7 where
 rb:List Nat:=[]
 wb:Option Nat:=none
 rh:List Nat:=[]
 wh:Bool:=false
 al:Bool:=false
def bm (aH:List Nat)(e:Operand→AV)(o:Oper):l7:=
 match o.op with
 | .alloc _ | .box _ _=>match o.dst with
  | some d=>if aH.contains d then {wb:=some d,al:=true} else {wh:=true}
  | none=>{}
 | .load _ a=>match e a with
  | .lp k _=>{rb:=[k]}
  | .ptr id _=>{rh:=[id]}
  | _=>{}
 | .store _ a _=>match e a with
  | .lp k _=>{rb:=[k],wb:=some k}
  | _=>{wh:=true}
 | .convert _ _ x=>match e x with
  | .rs id _ _ _=>{rh:=[id]}
  | _=>{}
 | .lookup _ m _ _=>match e m with
  | .mp id=>{rh:=[id]}
  | _=>{}
 | .buildSlice _ _ _=>match o.dst with
  | some d=>if aH.contains d then {wh:=true} else {}
  | none=>{}
 | .makeMap _ _ | .makeSlice _ _ _ | .mapUpdate _ _ _ _ | .insert _ _ _ _=>{wh:=true}
 | .call {callee:=.builtin b,args,..}=>match b,args.toList.map e with
  | .len,[.mp id]=>{rh:=[id]}
  | .len,_ | .min,_ | .max,_=>{}
  | _,_=>{wh:=true}
 | .call _=>{wh:=true}
 | _=>{}
structure nz where
 o:Oper
 f:l7
 s:RS
 s':RS
def nz.out (e:nz):AV:=
 match e.o.dst with
 | some d=>e.s'.ρ d
 | none=>.any
def l7.quiet (f:l7):Bool:=f.rb.isEmpty&&f.wb.isNone&&f.rh.isEmpty && !f.wh
def Mg (k:Nat):AV→Bool
 | .lp j _=>j==k
 | _=>false
def nz.j6 (x y:nz):Bool:=
 (match x.f.wb with
  | some k=>!y.f.rb.contains k&&y.f.wb != some k
  | none=>true) &&
 (!x.f.wh||(!y.f.wh&&y.f.rh.all fun id=>abq (x.s.h.ver id) (x.s'.h.ver id)))
def kc:List Nat→List Oper→List Nat
 | acc,[]=>acc
 | acc,o::os=>kc (acc++[o.after.toList.foldl (fun m e=>bif Region.binds .any e then m ||| (2 ^ e.on ||| acc.getD e.on 0) else m) 0]) os
def xU (ops:Array Oper)(x y:Oper):Bool:=
 (match x.dst with
  | some d=>!(y.looksAt ops).contains d&&y.dst != some d
  | none=>true)
def tH:Nat→List Oper→Bool
 | _,[]=>true
 | k,o::os=>o.after.toList.all (fun e=>!Region.binds .any e||Nat.blt e.on k)&&tH (k+1) os
def p8 {α:Type}(p:Nat→α→Nat→α→Bool):Nat→List α→Bool
 | _,[]=>true
 | i,x::xs=>(xs.zipIdx (i+1)).all (fun (y,j)=>p i x j y)&&p8 p (i+1) xs
def oO (ops:Array Oper)(ms:List Nat):Bool:=
 tH 0 ops.toList &&
 p8 (fun i x j y=>(ms.getD j 0).testBit i||(xU ops x y&&xU ops y x)) 0 ops.toList
def p9 (P:Program)(cf:CallF)(aH:List Nat)(ops:List Oper):RS→List Oper→Option (List nz × RS)
 | s,[]=>some ([],s)
 | s,o::os=>
  (iD ops s.ρ o).bind fun w=>
   (if w then xT P cf aH (ops.filterMap (·.dst)) s o else some (s.set o.dst (.tup []))).bind fun s1=>
    (p9 P cf aH ops s1 os).map fun (l,r)=>({o,f:=if w then bm aH (bQ s.ρ) o else {},s,s':=s1}::l,r)
def tI (ms:List Nat)(ds:List Nat)(s0:RS)(es:List (nz × Nat))(x:nz)(i:Nat):Bool:=
 match x.f.al,x.o.dst with
 | true,some d=>uc d s0.ρ (ds.filter fun t=>!Nat.beq t d)&&es.all fun (y,j)=>abq i j||(ms.getD j 0).testBit i || !Mg d y.out
 | _,_=>true
def kM (P:Program)(cf:CallF)(aH:List Nat)(ops:Array Oper)(s:RS):Option RS:=
 let ms:=kc [] ops.toList
 if oO ops ms then
  (p9 P cf aH ops.toList s ops.toList).bind fun (es,r)=>
   let is:=es.zipIdx
   let xV:=is.filter fun (x,_)=>!x.f.quiet
   if xV.all (fun (x,i)=>tI ms (ops.toList.filterMap (·.dst)) s is x i&&xV.all fun (y,j)=>ab7 j i||(ms.getD j 0).testBit i||(x.j6 y&&y.j6 x)) then some r else none
 else none
structure St where
 vars:List AV
 Oj:List (Option (List AV))
 h:AHeap
inductive Ex where
 | norm
 | exit (id:Nat)
 | ret
def look {α:Type}(d:α):List Nat→List α→Nat→α
 | k::ks,v::vs,t=>bif abq t k then v else look d ks vs t
 | _,_,_=>d
structure bR where
 keep:List Nat
 aH:List Nat
 dead:List (Nat × List Nat):=[]
 JT:List (Nat × List (Nat × Option Nat × Nat)):=[]
 B3:List (Nat × List (Nat × Option Nat × Nat)):=[]
def gH {α:Type}(r:Nat):List (Nat × List α)→List α
 | []=>[]
 | (k,l)::ks=>bif abq k r then l else gH r ks
def St.open (A:bR)(s:St):RS:={ρ:=look AV.any A.keep s.vars,bx:=look (none:Option (List AV)) A.aH s.Oj,h:=s.h}
def zG (aH:List Nat)(ρ:Nat→AV)(t:Nat):AV:=
 match ρ t with
 | .lp k off=>bif abq k t&&abq off 0&&aH.contains k then .lp k off else .any
 | v=>v
def RS.shut (A:bR)(s:RS):St:={vars:=A.keep.map (zG A.aH s.ρ),Oj:=A.aH.map s.bx,h:=s.h}
def RS.nY (A:bR)(r:Nat)(s:RS):St:=
 match gH r A.dead with
 | []=>s.shut A
 | ds=>{vars:=A.keep.map (fun t=>bif ds.contains t then .any else zG A.aH s.ρ t),Oj:=A.aH.map (fun k=>bif ds.contains k then none else s.bx k),h:=s.h}
def xW (s:RS)(p:Nat × Option Nat × Nat):Option RS:=
 match p.2.1 with
 | none=>(jR p.2.2 s.h (s.ρ p.1)).map fun (y,h)=>{s with h:=h,ρ:=fun t=>bif abq t p.1 then y else s.ρ t}
 | some i=>
  match s.bx p.1 with
  | some cs=>(cs[i]?).bind fun x=>(jR p.2.2 s.h x).map fun (y,h)=>{s with h:=h,bx:=fun k=>bif abq k p.1 then some (cs.set i y) else s.bx k}
  | none=>none
def l8 (s:RS):List (Nat × Option Nat × Nat)→Option RS
 | []=>some s
 | p::ps=>(xW s p).bind fun s=>l8 s ps
def l9 (f:St→Option (Ex × St)):Nat→St→Option (Ex × St)
 | 0,_=>none
 | n+1,s=>(f s).bind fun
  | (.norm,s')=>l9 f n s'
  | r=>some r
def bM (P:Program)(cf:CallF)(A:bR)(n:Nat):Code→St→Option (Ex × St)
 | .skip,s=>some (.norm,s)
 | .label _,s=>some (.norm,s)
 | .ret,s=>some (.ret,s)
 | .exit id,s=>some (.exit id,s)
 | .seq a b,s=>(bM P cf A n a s).bind fun
  | (.norm,s')=>bM P cf A n b s'
  | r=>some r
 | .cond c x y,s=>(ud (bQ (s.open A).ρ c)).bind fun t=>if t then bM P cf A n x s else bM P cf A n y s
 | .block id body,s=>(bM P cf A n body s).map fun
  | (.exit i,s')=>(if i=id then .norm else .exit i,s')
  | r=>r
 | .loop body,s=>l9 (bM P cf A n body) n s
 | .region r ops draw,s=>(l8 (s.open A) (gH r A.JT)).bind fun s=>((if draw then kM P cf A.aH ops s else sV P cf A.aH ops.toList s ops.toList)).bind fun s'=>(l8 s' (gH r A.B3)).map fun s'=>(.norm,s'.nY A r)
 | _,_=>none
def B4 (P:Program)(s:RS):List ResultVar→Option (List AV)
 | []=>some []
 | .tmp t::rs=>(B4 P s rs).map fun l=>s.ρ t::l
 | .cell a t::rs=>(kL P s.bx s.h t (s.ρ a)).bind fun v=>(B4 P s rs).map fun l=>v::l
def aE (P:Program)(s:RS)(rs:List ResultVar):Option AV:=
 (B4 P s rs).bind fun l=>if l.all AV.lu then (match l with | [v]=>some v | l=>some (.tup l)) else none
def nZ (keep:List Nat)(args:List AV):List AV:=keep.map fun t=>args.getD t AV.any
mutual
def bX (h:AHeap):Nat→AV→Option AV
 | 0,_=>none
 | n+1,x=>
  match x with
  | .ptr id off=>(h.get id).bind fun | .cells cs=>(br h n cs).map fun fQ=>.fp fQ off | _=>none
  | .rs id off len jb=>if id=0 then (if len=0 then some (.fz [] 0 false) else none) else (h.get id).bind fun | .cells cs=>if off+len*jb≤cs.length then (br h n ((cs.drop off).take (len*jb))).map fun fQ=>.fz fQ len false else none | _=>none
  | .agg cs=>(br h n cs).map .agg
  | .tup cs=>(br h n cs).map .tup
  | .fn f cs=>(br h n cs).map (.fn f)
  | x=>if x.eu then some x.j5 else none
def br (h:AHeap):Nat→List AV→Option (List AV)
 | 0,_=>none
 | _+1,[]=>some []
 | n+1,x::xs=>(bX h n x).bind fun y=>(br h n xs).map fun ys=>y::ys
end
mutual
def gI (h:AHeap):Nat→AV→Option AV
 | 0,_=>none
 | n+1,x=>
  match x with
  | .bool b=>some (.bool b)
  | .int k v=>some (.int k v)
  | .str s=>some (.str s)
  | .pC=>some .pC
  | .nw=>some .nw
  | .p6=>some .p6
  | .nils=>some (.fz [] 0 false)
  | .fz [] 0 _=>some (.fz [] 0 false)
  | .rs id off len jb=>if id=0 then (if len=0 then some (.fz [] 0 false) else none) else (h.get id).bind fun | .cells cs=>if off+len*jb≤cs.length then (dw h n ((cs.drop off).take (len*jb))).map fun fQ=>.fz fQ len false else none | _=>none
  | .agg cs=>(dw h n cs).map .agg
  | .tup cs=>(dw h n cs).map .tup
  | _=>none
def dw (h:AHeap):Nat→List AV→Option (List AV)
 | 0,_=>none
 | _+1,[]=>some []
 | n+1,x::xs=>(gI h n x).bind fun y=>(dw h n xs).map fun ys=>y::ys
end
def bo:AHeap:={get:=fun _=>none,ver:=fun _=>0,next:=1}
mutual
def dj (k:Nat):AV→Option AV
 | .bool b=>some (.bool b)
 | .int i n=>some (.int i n)
 | .str s=>some (.str s)
 | .pC=>some .pC
 | .nw=>some .nw
 | .p6=>some .p6
 | .nils=>some .nils
 | .ptr id off=>some (.ptr (id+k) off)
 | .rs id off len z=>if id=0 then some (.rs 0 off len z) else some (.rs (id+k) off len z)
 | .agg cs=>(cE k cs).map .agg
 | .tup cs=>(cE k cs).map .tup
 | _=>none
def cE (k:Nat):List AV→Option (List AV)
 | []=>some []
 | x::xs=>(dj k x).bind fun y=>(cE k xs).map fun ys=>y::ys
end
def gi (k:Nat):List AV→List AV
 | []=>[]
 | x::xs=>match dj k x with | some y=>y::gi k xs | none=>[]
def B5 (k:Nat):AObj→Option AObj
 | .cells cs=>some (.cells (gi k cs))
 | _=>none
def AHeap.eV (h h1:AHeap):AHeap:={get:=fun i=>bif Nat.blt i h.next then h.get i else (h1.get (i - h.next)).bind (B5 h.next),ver:=fun i=>bif Nat.blt i h.next then h.ver i else h.next+h1.ver (i - h.next),next:=h.next+h1.next}
def aN (x:AV):AV:=bif x.eu then x.j5 else x
def a6 (P:Program)(aS:FuncId→bR)(cf:CallF)(m:Nat)(f:FuncId)(args:List AV)(h:AHeap):Option (AV × AHeap):=
 (P.funcs[f]?).bind fun fn=>fn.body.bind fun c=>
  if args.length≤fn.ntmps then
   (bM P cf (aS f) m c {vars:=nZ (aS f).keep args,Oj:=(aS f).aH.map fun _=>none,h}).bind fun
    | (.norm,s) | (.ret,s)=>(aE P (s.open (aS f)) fn.results.toList).map fun r=>(r,s.h)
    | _=>none
  else none
structure pj where
 aS:FuncId→bR
 intr:FuncId→Option (List AV→AHeap→Option (AV × AHeap))
 pure:FuncId→Option Nat
 eV:FuncId→Bool:=fun _=>false
def fy (P:Program)(T:pj)(m:Nat):Nat→CallF
 | 0=>fun _ _ _=>none
 | n+1=>fun f args h=>
  match T.intr f with
  | some g=>g args h
  | none=>
   match T.pure f with
   | some deep=>if T.eV f then (br h deep args).bind fun us=>(a6 P T.aS (fy P T m n) m f us bo).bind fun x=>(dj h.next x.1).map fun r=>(r,h.eV x.2) else
     if cQ args then (a6 P T.aS (fy P T m n) m f (dH args) bo).bind fun x=>(bX x.2 deep x.1).map fun r=>(r,h) else
     match br h deep args with
     | some as=>(a6 P T.aS (fy P T m n) m f as bo).bind fun x=>(gI x.2 deep x.1).map fun r=>(r,h)
     | none=>a6 P T.aS (fy P T m n) m f (args.map aN) h
   | none=>a6 P T.aS (fy P T m n) m f (args.map aN) h
end Go.R
namespace Go.R
open Go
structure Steady (h h':AHeap):Prop where
 next:h.next≤h'.next
 keep:∀id,(h'.ver id=h.ver id∧h'.get id=h.get id)∨h.next≤h'.ver id
 wf:(∀id,h.ver id<h.next)→∀id,h'.ver id<h'.next
theorem Steady.refl (h:AHeap):Steady h h:=⟨aaN _,fun _=>.inl ⟨rfl,rfl⟩,fun h=>h⟩
theorem Steady.trans {h h' VP:AHeap}(a:Steady h h')(b:Steady h' VP):Steady h VP:=
 ⟨abB a.next b.next,fun id=>by
  rcases b.keep id with⟨h1,h2⟩| h1
  ·rcases a.keep id with⟨h3,h4⟩| h3
   ·exact .inl ⟨h1.trans h3,h2.trans h4⟩
   ·exact .inr (by rw [h1]; exact h3)
  ·exact .inr (abB a.next h1),fun h=>b.wf (a.wf h)⟩
theorem beq_nat (a b:Nat):abq a b=decide (a=b):=by
 by_cases h:a=b
 ·subst h; simp
 ·cases hb:abq a b with
  | true=>exact absurd (abR hb) h
  | false=>simp [h]
theorem Steady.put (h:AHeap)(id:Nat)(o:AObj):Steady h (h.put id o):=by
 refine⟨abV _,fun i=>?_,fun hw i=>?_⟩
 ·by_cases hi:i=id
  ·right; simp [AHeap.put,beq_nat,hi]
  ·left; simp [AHeap.put,beq_nat,hi]
 ·have:=hw i
  by_cases hi:i=id
  ·simp [AHeap.put,beq_nat,hi]
  ·simp only [AHeap.put,beq_nat,hi,decide_false,cond_false]; omega
theorem Steady.kill (h:AHeap)(id:Nat):Steady h (h.kill id):=by
 refine⟨abV _,fun i=>?_,fun hw i=>?_⟩
 ·by_cases hi:i=id
  ·right; simp [AHeap.kill,beq_nat,hi]
  ·left; simp [AHeap.kill,beq_nat,hi]
 ·have:=hw i
  by_cases hi:i=id
  ·simp [AHeap.kill,beq_nat,hi]
  ·simp only [AHeap.kill,beq_nat,hi,decide_false,cond_false]; omega
structure Cx where
 β:Nat→Nat × Nat
 h:AHeap
 w:World
 base:Nat
def Live (h:AHeap)(id:Nat):Prop:=id<h.next∧(h.get id).isSome=true
def RO (c:Cx)(L:Nat→Prop)(b:Nat):Prop:=(∀id,Live c.h id→(c.β id).1≠b)∧¬L b
def Cx.len (c:Cx)(b:Nat):Nat:=((c.w.shape? b).map (·.2)).getD 0
mutual
def VR (c:Cx)(L:Nat→Prop):AV→Value→Prop
 | .any,_=>True
 | .bool b,v=>v = .bool b
 | .int k n,v=>v = .int k n
 | .str s,v=>v = .string s
 | .pC,v=>v = .pointer none
 | .ptr id off,v=>id<c.h.next∧∃a,v = .pointer (some a)∧(Live c.h id→a=⟨(c.β id).1,(c.β id).2+off,none⟩)
 | .lp _ _,_=>False
 | .fp cs off,v=>∃b o,v = .pointer (some ⟨b,o+off,none⟩)∧(cs=[]∨(RO c L b∧Cells c L cs b o))
 | .nils,v=>v = .slice none 0 0
 | .fz cs n ex,v=>∃a cap,v = .slice a n cap∧n≤cap∧(ex=true→cap=n)∧(a.isSome=true∨cs=[]∧cap=0)∧(cs=[]∨∃b o,a=some ⟨b,o,none⟩∧RO c L b∧(ex=true→c.base≤b)∧Cells c L cs b o)
 | .rs id off len jb,v=>(id=0∧off=0∧len=0∧∃a,v = .slice a 0 0)∨id≠0∧id<c.h.next∧∃a cap,v = .slice a len cap∧len≤cap∧a.isSome=true∧(Live c.h id→(a=some ⟨(c.β id).1,(c.β id).2+off,none⟩∧(c.β id).2+off+cap*jb=c.len (c.β id).1)∨cap=0)
 | .nw,v=>v = .map none
 | .mp id,v=>id<c.h.next∧∃r,v = .map (some r)∧(Live c.h id→r=(c.β id).1)
 | .fn f cap,v=>∃vs:Array Value,v = .func (.func f) #[] vs∧VRs c L cap vs.toList
 | .p6,v=>v = .nilFunc
 | .agg cs,v=>∃vs:Array Value,v = .agg vs∧VRs c L cs vs.toList
 | .tup cs,v=>∃vs:Array Value,v = .tuple vs∧VRs c L cs vs.toList
def VRs (c:Cx)(L:Nat→Prop):List AV→List Value→Prop
 | [],[]=>True
 | x::xs,v::vs=>VR c L x v∧VRs c L xs vs
 | _,_=>False
def Cells (c:Cx)(L:Nat→Prop):List AV→Nat→Nat→Prop
 | [],_,_=>True
 | x::xs,b,o=>(∃v,c.w.cell? ⟨b,o,none⟩=some v∧v.oneCell'=true∧VR c L x v)∧Cells c L xs b (o+1)
end
def iL (w w':World)(b:Nat):Prop:=
 w'.heap[b]? = w.heap[b]?∨∃(C:Array Value) (e lo hi JC kp:Nat),w.heap[b]? = some (.cells C e (lo,hi))∧w'.heap[b]? = some (.cells C e (JC,kp))∧((lo=hi∨C.size≤lo)→(JC=kp∨C.size≤JC))
theorem iL.trans {w w' w'':World}{b:Nat}(h:iL w w' b)(k:iL w' w'' b):iL w w'' b:=by
 rcases h with h | ⟨C,e,lo,hi,JC,kp,h1,h2,h3⟩<;>rcases k with k | ⟨C',e',l1,i1,l2,i2,k1,k2,k3⟩
 ·exact .inl (k.trans h)
 ·exact .inr ⟨C',e',l1,i1,l2,i2,h ▸ k1,k2,k3⟩
 ·exact .inr ⟨C,e,lo,hi,JC,kp,h1,k.trans h2,h3⟩
 ·rw [h2] at k1
  simp only [aaJ,Obj.cells.injEq,aaQ] at k1
  obtain⟨rfl,rfl,rfl,rfl⟩:=k1
  exact .inr ⟨C,e,lo,hi,l2,i2,h1,k2,fun x=>k3 (h3 x)⟩
theorem iL.cell {w w':World}{b:Nat}(h:iL w w' b)(o:Nat):w'.cell? ⟨b,o,none⟩=w.cell? ⟨b,o,none⟩:=by
 rcases h with h | ⟨C,e,lo,hi,JC,kp,h1,h2,_⟩
 ·simp only [World.cell?,h]
 ·simp only [World.cell?,h1,h2]
structure Ext (c:Cx)(Lo:Nat→Prop)(c':Cx)(kq:Nat→Prop):Prop where
 next:c.h.next≤c'.h.next
 live:∀id,id<c.h.next→Live c'.h id→Live c.h id∧c'.β id=c.β id∧c'.len (c.β id).1=c.len (c.β id).1
 size:c.w.heap.size≤c'.w.heap.size
 keep:∀b,b<c.w.heap.size→¬Lo b→(∀id,Live c.h id→(c.β id).1≠b)→iL c.w c'.w b
 exact:∀b,b<c.base→c'.w.heap[b]? = c.w.heap[b]?
 base:c'.base=c.base
 JU:∀id,Live c'.h id→c.w.heap.size≤(c'.β id).1∨∃rl,Live c.h rl∧(c.β rl).1=(c'.β id).1
 own:∀b,Lo b→kq b
 grow:∀b,kq b→Lo b∨c.w.heap.size≤b
 os:c'.w.os=c.w.os
 tape:c'.w.tape=c.w.tape
 output:c'.w.output=c.w.output
theorem Ext.refl (c:Cx)(Lo:Nat→Prop):Ext c Lo c Lo:=
 ⟨aaN _,fun _ _ h=>⟨h,rfl,rfl⟩,aaN _,fun _ _ _ _=>.inl rfl,fun _ _=>rfl,rfl,fun id h=>.inr ⟨id,h,rfl⟩,fun _ h=>h,fun _ h=>.inl h,rfl,rfl,rfl⟩
theorem Ext.trans {c c' VQ:Cx}{L L' VS:Nat→Prop}(h:Ext c L c' L')(k:Ext c' L' VQ VS):Ext c L VQ VS where
 next:=abB h.next k.next
 live:=fun id hi hl=>by
  obtain⟨l1,b1,s1⟩:=k.live id (aa9 hi h.next) hl
  obtain⟨l0,b0,s0⟩:=h.live id hi l1
  refine⟨l0,b1.trans b0,?_⟩
  rw [b0] at s1
  exact s1.trans s0
 size:=abB h.size k.size
 keep:=fun b hb hL hi=>by
  have e1:=h.keep b hb hL hi
  refine e1.trans (k.keep b (aa9 hb h.size) (fun XC=>?_) (fun id hl he=>?_))
  ·rcases h.grow b XC with h1 | h1
   ·exact hL h1
   ·omega
  ·rcases h.JU id hl with h1 | ⟨rl,h1,h2⟩
   ·omega
   ·exact hi rl h1 (h2.trans he)
 exact:=fun b hb=>(k.exact b (h.base ▸ hb)).trans (h.exact b hb)
 base:=k.base.trans h.base
 JU:=fun id hl=>by
  rcases k.JU id hl with h1 | ⟨XD,h1,h2⟩
  ·exact .inl (abB h.size h1)
  ·rcases h.JU XD h1 with h3 | ⟨rl,h3,h4⟩
   ·exact .inl (h2 ▸ h3)
   ·exact .inr ⟨rl,h3,h4.trans h2⟩
 own:=fun b hb=>k.own b (h.own b hb)
 grow:=fun b hb=>by
  rcases k.grow b hb with h1 | h1
  ·exact h.grow b h1
  ·exact .inr (abB h.size h1)
 os:=k.os.trans h.os
 tape:=k.tape.trans h.tape
 output:=k.output.trans h.output
def un (L0 Lo:Nat→Prop):Nat→Prop:=fun b=>L0 b∨Lo b
theorem ug {w w':World}{b:Nat}(h:w'.heap[b]? = w.heap[b]?)(o:Nat):w'.cell? ⟨b,o,none⟩=w.cell? ⟨b,o,none⟩:=by
 simp only [World.cell?,h]
theorem RO.ext {c c':Cx}{L0 Lo kq:Nat→Prop}{b:Nat}(h:RO c (un L0 Lo) b)(e:Ext c Lo c' kq)(hb:b<c.w.heap.size):RO c' (un L0 kq) b:=by
 refine⟨fun id hl he=>?_,fun hL=>?_⟩
 ·rcases e.JU id hl with h1 | ⟨rl,h1,h2⟩
  ·omega
  ·exact h.1 rl h1 (h2.trans he)
 ·rcases hL with h1 | h1
  ·exact h.2 (.inl h1)
  ·rcases e.grow b h1 with h2 | h2
   ·exact h.2 (.inr h2)
   ·omega
theorem Ext.cell {c c':Cx}{L0 Lo kq:Nat→Prop}{b:Nat}(e:Ext c Lo c' kq)(h:RO c (un L0 Lo) b)(hb:b<c.w.heap.size)(o:Nat):c'.w.cell? ⟨b,o,none⟩=c.w.cell? ⟨b,o,none⟩:=
 (e.keep b hb (fun h1=>h.2 (.inr h1)) h.1).cell o
theorem uh {c c':Cx}{Lo kq:Nat→Prop}(e:Ext c Lo c' kq){id:Nat}(hi:id<c.h.next):id<c'.h.next:=aa9 hi e.next
theorem kN {c:Cx}{L:Nat→Prop}{x:AV}{cs:List AV}{b o:Nat}(h:Cells c L (x::cs) b o):b<c.w.heap.size:=by
 obtain⟨⟨v,hv,_⟩,_⟩:=h
 exact World.block_lt_of_cell? c.w ⟨b,o,none⟩ hv
mutual
theorem VR.ext {c c':Cx}{L0 Lo kq:Nat→Prop}(e:Ext c Lo c' kq):∀(x:AV) (v:Value),VR c (un L0 Lo) x v→VR c' (un L0 kq) x v
 | .any,_,_=>trivial
 | .bool _,_,h=>h
 | .int _ _,_,h=>h
 | .str _,_,h=>h
 | .pC,_,h=>h
 | .ptr id off,v,h=>by
  simp only [VR] at h ⊢
  obtain⟨hi,a,rfl,ha⟩:=h
  refine⟨uh e hi,a,rfl,fun hl=>?_⟩
  obtain⟨l0,b0,_⟩:=e.live id hi hl
  rw [b0]
  exact ha l0
 | .lp _ _,_,h=>h
 | .fp cs off,v,h=>by
  simp only [VR] at h ⊢
  obtain⟨b,o,rfl,hc⟩:=h
  refine⟨b,o,rfl,?_⟩
  rcases hc with hc | ⟨hr,hc⟩
  ·exact .inl hc
  ·cases cs with
   | nil=>exact .inl rfl
   | cons x xs=>exact .inr ⟨hr.ext e (kN hc),Cells.ext e (x::xs) b o hr (kN hc) hc⟩
 | .nils,_,h=>h
 | .fz cs n ex,v,h=>by
  simp only [VR] at h ⊢
  obtain⟨a,cap,rfl,h1,h2,hs,hc⟩:=h
  refine⟨a,cap,rfl,h1,h2,hs,?_⟩
  rcases hc with hc | ⟨b,o,ha,hr,hex,hc⟩
  ·exact .inl hc
  ·cases cs with
   | nil=>exact .inl rfl
   | cons x xs=>exact .inr ⟨b,o,ha,hr.ext e (kN hc),by rw [e.base]; exact hex,Cells.ext e (x::xs) b o hr (kN hc) hc⟩
 | .rs id off len jb,v,h=>by
  simp only [VR] at h ⊢
  rcases h with h | h
  ·exact .inl h
  obtain⟨hz,hi,a,cap,rfl,h1,h3,h2⟩:=h
  refine .inr ⟨hz,uh e hi,a,cap,rfl,h1,h3,fun hl=>?_⟩
  obtain⟨l0,b0,s0⟩:=e.live id hi hl
  rw [b0,s0]
  exact h2 l0
 | .nw,_,h=>h
 | .mp id,v,h=>by
  simp only [VR] at h ⊢
  obtain⟨hi,r,rfl,h2⟩:=h
  refine⟨uh e hi,r,rfl,fun hl=>?_⟩
  obtain⟨l0,b0,_⟩:=e.live id hi hl
  rw [b0]
  exact h2 l0
 | .fn f cap,v,h=>by
  simp only [VR] at h ⊢
  obtain⟨vs,rfl,h1⟩:=h
  exact⟨vs,rfl,VRs.ext e cap vs.toList h1⟩
 | .p6,_,h=>h
 | .agg cs,v,h=>by
  simp only [VR] at h ⊢
  obtain⟨vs,rfl,h1⟩:=h
  exact⟨vs,rfl,VRs.ext e cs vs.toList h1⟩
 | .tup cs,v,h=>by
  simp only [VR] at h ⊢
  obtain⟨vs,rfl,h1⟩:=h
  exact⟨vs,rfl,VRs.ext e cs vs.toList h1⟩
theorem VRs.ext {c c':Cx}{L0 Lo kq:Nat→Prop}(e:Ext c Lo c' kq):∀(xs:List AV) (vs:List Value),VRs c (un L0 Lo) xs vs→VRs c' (un L0 kq) xs vs
 | [],[],_=>trivial
 | x::xs,v::vs,h=>⟨VR.ext e x v h.1,VRs.ext e xs vs h.2⟩
 | [],_::_,h=>h
 | _::_,[],h=>h
theorem Cells.ext {c c':Cx}{L0 Lo kq:Nat→Prop}(e:Ext c Lo c' kq):∀(xs:List AV) (b o:Nat),RO c (un L0 Lo) b→b<c.w.heap.size→Cells c (un L0 Lo) xs b o→Cells c' (un L0 kq) xs b o
 | [],_,_,_,_,_=>trivial
 | x::xs,b,o,hr,hb,h=>by
  obtain⟨⟨v,hv,h1,hx⟩,hs⟩:=h
  exact⟨⟨v,(e.cell hr hb o).trans hv,h1,VR.ext e x v hx⟩,Cells.ext e xs b (o+1) hr hb hs⟩
end
theorem RO.lO {c:Cx}{L L':Nat→Prop}(hL:∀b,L' b→L b){b:Nat}(h:RO c L b):RO c L' b:=⟨h.1,fun h1=>h.2 (hL b h1)⟩
mutual
theorem VR.lO {c:Cx}{L L':Nat→Prop}(hL:∀b,L' b→L b):∀(x:AV) (v:Value),VR c L x v→VR c L' x v
 | .any,_,_=>trivial
 | .bool _,_,h=>h
 | .int _ _,_,h=>h
 | .str _,_,h=>h
 | .pC,_,h=>h
 | .ptr id off,v,h=>h
 | .lp _ _,_,h=>h
 | .fp cs off,v,h=>by
  simp only [VR] at h ⊢
  obtain⟨b,o,rfl,hc⟩:=h
  exact⟨b,o,rfl,hc.imp id fun ⟨hr,hc⟩=>⟨hr.lO hL,Cells.lO hL cs b o hc⟩⟩
 | .nils,_,h=>h
 | .fz cs n ex,v,h=>by
  simp only [VR] at h ⊢
  obtain⟨a,cap,rfl,h1,h2,hs,hc⟩:=h
  exact⟨a,cap,rfl,h1,h2,hs,hc.imp id fun ⟨b,o,ha,hr,hex,hc⟩=>⟨b,o,ha,hr.lO hL,hex,Cells.lO hL cs b o hc⟩⟩
 | .rs id off len jb,v,h=>h
 | .nw,_,h=>h
 | .mp id,v,h=>h
 | .fn f cap,v,h=>by
  simp only [VR] at h ⊢
  obtain⟨vs,rfl,h1⟩:=h
  exact⟨vs,rfl,VRs.lO hL cap vs.toList h1⟩
 | .p6,_,h=>h
 | .agg cs,v,h=>by
  simp only [VR] at h ⊢
  obtain⟨vs,rfl,h1⟩:=h
  exact⟨vs,rfl,VRs.lO hL cs vs.toList h1⟩
 | .tup cs,v,h=>by
  simp only [VR] at h ⊢
  obtain⟨vs,rfl,h1⟩:=h
  exact⟨vs,rfl,VRs.lO hL cs vs.toList h1⟩
theorem VRs.lO {c:Cx}{L L':Nat→Prop}(hL:∀b,L' b→L b):∀(xs:List AV) (vs:List Value),VRs c L xs vs→VRs c L' xs vs
 | [],[],_=>trivial
 | x::xs,v::vs,h=>⟨VR.lO hL x v h.1,VRs.lO hL xs vs h.2⟩
 | [],_::_,h=>h
 | _::_,[],h=>h
theorem Cells.lO {c:Cx}{L L':Nat→Prop}(hL:∀b,L' b→L b):∀(xs:List AV) (b o:Nat),Cells c L xs b o→Cells c L' xs b o
 | [],_,_,_=>trivial
 | x::xs,b,o,h=>by
  obtain⟨⟨v,hv,h1,hx⟩,hs⟩:=h
  exact⟨⟨v,hv,h1,VR.lO hL x v hx⟩,Cells.lO hL xs b (o+1) hs⟩
end
theorem Fi {c:Cx}{L:Nat→Prop}{x:AV}{v:Value}(h:VR c L x v):VR c L (kK x) v:=by
 cases x<;>try exact h
 simp only [VR] at h
 simp only [kK,VR]
 exact⟨none,0,h,aaN _,fun _=>rfl,.inr ⟨trivial,rfl⟩,.inl trivial⟩
theorem ui {c:Cx}{L:Nat→Prop}:∀{xs:List AV} {vs:List Value},VRs c L xs vs→VRs c L (xs.map kK) vs
 | [],[],_=>trivial
 | _::_,_::_,h=>⟨Fi h.1,ui h.2⟩
 | [],_::_,h=>h.elim
 | _::_,[],h=>h.elim
theorem Cells.move {c c':Cx}{L0 Lo kq:Nat→Prop}(e:Ext c Lo c' kq):∀(xs:List AV) (b o b' o':Nat),(∀i,i<xs.length→c'.w.cell? ⟨b',o'+i,none⟩=c.w.cell? ⟨b,o+i,none⟩)→Cells c (un L0 Lo) xs b o→Cells c' (un L0 kq) xs b' o'
 | [],_,_,_,_,_,_=>trivial
 | x::xs,b,o,b',o',hm,h=>by
  obtain⟨⟨v,hv,h1,hx⟩,hs⟩:=h
  refine⟨⟨v,(hm 0 (by simp)).trans hv,h1,VR.ext e x v hx⟩,Cells.move e xs b (o+1) b' (o'+1) (fun i hi=>?_) hs⟩
  have:=hm (i+1) (by simpa using hi)
  rwa [ab4 o' 1 i,ab4 o 1 i,abI,abI]
theorem VRs.length {c:Cx}{L:Nat→Prop}:∀{xs:List AV} {vs:List Value},VRs c L xs vs→xs.length=vs.length
 | [],[],_=>rfl
 | _::_,_::_,h=>by simp [VRs.length h.2]
 | [],_::_,h=>h.elim
 | _::_,[],h=>h.elim
theorem VRs.get {c:Cx}{L:Nat→Prop}:∀{xs:List AV} {vs:List Value},VRs c L xs vs→∀(i:Nat) (x:AV),xs[i]? = some x→∃v,vs[i]? = some v∧VR c L x v
 | [],[],_,i,x,hx=>by simp at hx
 | y::ys,u::us,h,i,x,hx=>by
  cases i with
  | zero=>simp at hx; subst hx; exact⟨u,rfl,h.1⟩
  | succ i=>simpa using VRs.get h.2 i x (by simpa using hx)
 | [],_::_,h,_,_,_=>h.elim
 | _::_,[],h,_,_,_=>h.elim
theorem VRs.append {c:Cx}{L:Nat→Prop}:∀{xs ys:List AV} {vs us:List Value},VRs c L xs vs→VRs c L ys us→VRs c L (xs++ys) (vs++us)
 | [],_,[],_,_,h=>h
 | _::_,_,_::_,_,h,k=>⟨h.1,VRs.append h.2 k⟩
 | [],_,_::_,_,h,_=>h.elim
 | _::_,_,[],_,h,_=>h.elim
theorem VRs.drop {c:Cx}{L:Nat→Prop}:∀(n:Nat) {xs:List AV} {vs:List Value},VRs c L xs vs→VRs c L (xs.drop n) (vs.drop n)
 | 0,_,_,h=>h
 | _+1,[],[],h=>h
 | n+1,_::_,_::_,h=>VRs.drop n h.2
 | _+1,[],_::_,h=>h.elim
 | _+1,_::_,[],h=>h.elim
theorem VRs.take {c:Cx}{L:Nat→Prop}:∀(n:Nat) {xs:List AV} {vs:List Value},VRs c L xs vs→VRs c L (xs.take n) (vs.take n)
 | 0,_,_,_=>by simp [VRs]
 | _+1,[],[],h=>h
 | n+1,_::_,_::_,h=>⟨h.1,VRs.take n h.2⟩
 | _+1,[],_::_,h=>h.elim
 | _+1,_::_,[],h=>h.elim
theorem VRs.set {c:Cx}{L:Nat→Prop}{x:AV}{v:Value}(hx:VR c L x v):∀(n:Nat) {xs:List AV} {vs:List Value},VRs c L xs vs→VRs c L (xs.set n x) (vs.set n v)
 | _,[],[],h=>h
 | 0,_::_,_::_,h=>⟨hx,h.2⟩
 | n+1,_::_,_::_,h=>⟨h.1,VRs.set hx n h.2⟩
 | _,[],_::_,h=>h.elim
 | _,_::_,[],h=>h.elim
theorem Cells.vals {c:Cx}{L:Nat→Prop}:∀{xs:List AV} {b o:Nat},Cells c L xs b o→∃vs:List Value,VRs c L xs vs∧(∀i,i<xs.length→c.w.cell? ⟨b,o+i,none⟩=vs[i]?)∧∀v∈vs,v.oneCell'=true
 | [],_,_,_=>⟨[],trivial,fun i hi=>by simp at hi,fun _ h=>by cases h⟩
 | x::xs,b,o,h=>by
  obtain⟨⟨v,hv,h0,hx⟩,hs⟩:=h
  obtain⟨vs,h1,h2,h3⟩:=Cells.vals hs
  refine⟨v::vs,⟨hx,h1⟩,fun i hi=>?_,fun u hu=>?_⟩
  ·cases i with
   | zero=>exact hv
   | succ i=>
    have:=h2 i (by simpa using hi)
    rw [ab4,abI] at this
    simpa using this
  ·rcases aa6.1 hu with rfl | hu
   ·exact h0
   ·exact h3 u hu
theorem Cells.of_vals {c:Cx}{L:Nat→Prop}:∀{xs:List AV} {vs:List Value} {b o:Nat},VRs c L xs vs→(∀i,i<vs.length→c.w.cell? ⟨b,o+i,none⟩=vs[i]?)→(∀v∈vs,v.oneCell'=true)→Cells c L xs b o
 | [],[],_,_,_,_,_=>trivial
 | x::xs,v::vs,b,o,h,hc,h1=>by
  refine⟨⟨v,hc 0 (by simp),h1 v (by simp),h.1⟩,Cells.of_vals h.2 (fun i hi=>?_) (fun u hu=>h1 u (by simp [hu]))⟩
  have:=hc (i+1) (by simpa using hi)
  rw [ab4,abI]
  simpa using this
 | [],_::_,_,_,h,_,_=>h.elim
 | _::_,[],_,_,h,_,_=>h.elim
theorem Cells.get' {c:Cx}{L:Nat→Prop}{xs:List AV}{b o:Nat}(h:Cells c L xs b o)(i:Nat)(x:AV)(hx:xs[i]? = some x):∃v,c.w.cell? ⟨b,o+i,none⟩=some v∧v.oneCell'=true∧VR c L x v:=by
 obtain⟨vs,h1,h2,h3⟩:=h.vals
 obtain⟨v,hv,hr⟩:=VRs.get h1 i x hx
 exact⟨v,(h2 i (aaM.1 hx).1).trans hv,h3 v (aaP hv),hr⟩
theorem Cells.get {c:Cx}{L:Nat→Prop}{xs:List AV}{b o:Nat}(h:Cells c L xs b o)(i:Nat)(x:AV)(hx:xs[i]? = some x):∃v,c.w.cell? ⟨b,o+i,none⟩=some v∧VR c L x v:=by
 obtain⟨v,h1,_,h2⟩:=h.get' i x hx
 exact⟨v,h1,h2⟩
end Go.R
namespace Go.R
open Go
def ma (c:Cx)(L:Nat→Prop):List (AV × AV)→List MapEntry→Prop
 | [],[]=>True
 | (k,v)::es,m::ms=>(VR c L k m.key∧k.BS.isSome=true)∧VR c L v m.val∧ma c L es ms
 | _,_=>False
def Plain (c:Cx)(b:Nat)(n:Nat):Prop:=∃(C:Array Value) (e lo hi:Nat),c.w.heap[b]? = some (.cells C e (lo,hi))∧(lo=hi∨C.size≤lo)∧C.size=n
def ja (c:Cx)(b:Nat)(n:Nat):Prop:=∃(C:Array Value) (e:TypeId),c.w.heap[b]? = some (.cells C e (0,0))∧C.size=n
theorem ja.lC {c:Cx}{b n:Nat}(h:ja c b n):Plain c b n:=by
 obtain⟨C,e,h1,h2⟩:=h
 exact⟨C,e,0,0,h1,.inl rfl,h2⟩
theorem ja.of_heap {c c':Cx}{b n:Nat}(h:ja c b n)(he:c'.w.heap[b]? = c.w.heap[b]?):ja c' b n:=by
 obtain⟨C,e,h1,h2⟩:=h
 exact⟨C,e,he.trans h1,h2⟩
theorem ja.lt {c:Cx}{b n:Nat}(h:ja c b n):b<c.w.heap.size:=by
 obtain⟨C,e,h1,_⟩:=h
 exact (abj.1 h1).1
def qa (c:Cx)(L:Nat→Prop)(b base:Nat):AObj→Prop
 | .cells cs=>∃n,ja c b n∧base+cs.length≤n∧Cells c L cs b base
 | .row e cs=>base=0∧∃C:Array Value,c.w.heap[b]? = some (.cells C e (0,0))∧cs.length≤C.size∧C.size≤maxLen∧Cells c L cs b 0
 | .map es=>∃mb clock,c.w.heap[b]? = some (.map mb clock)∧ma c L es mb.toList
structure HRel (c:Cx)(L:Nat→Prop):Prop where
 lt:∀id o,c.h.get id=some o→id<c.h.next
 obj:∀id o,c.h.get id=some o→qa c L (c.β id).1 (c.β id).2 o
 inj:∀id lP,Live c.h id→Live c.h lP→(c.β id).1=(c.β lP).1→id=lP
 out:∀id,Live c.h id→¬L (c.β id).1
 bd:∀b,L b→b<c.w.heap.size
 low:∀id,Live c.h id→c.base≤(c.β id).1
 ver:∀id,c.h.ver id<c.h.next
structure Rv (c:Cx)(L0 Lo:Nat→Prop)(lam:Nat→Nat)(k:Nat)(cs:List AV):Prop where
 own:Lo (lam k)
 plain:Plain c (lam k) cs.length
 cells:Cells c (un L0 Lo) cs (lam k) 0
def SR (c:Cx)(L0 Lo:Nat→Prop)(lam:Nat→Nat)(bx:Nat→Option (List AV))(x:AV)(v:Value):Prop:=
 match x with
 | .lp k off=>v = .pointer (some ⟨lam k,off,none⟩)∧(bx k).isSome=true
 | x=>VR c (un L0 Lo) x v
structure Fr (L0:Nat→Prop)(c:Cx)(Lo:Nat→Prop)(lam:Nat→Nat)(ds:List Nat)(s:RS)(a:Act):Prop where
 h:c.h=s.h
 rel:HRel c (un L0 Lo)
 slot:∀t,SR c L0 Lo lam s.bx (s.ρ t) (a.tmps.getD t undef)
 box:∀k cs,s.bx k=some cs→Rv c L0 Lo lam k cs
 inj:∀k k',(s.bx k).isSome=true→(s.bx k').isSome=true→lam k=lam k'→k=k'
 tidy:∀t k off,t∉ds→s.ρ t = .lp k off→k=t
 defers:a.defers=[]
 GN:∀b,Lo b→c.base≤b
def none0:Nat→Prop:=fun _=>False
def Inv (L0:Nat→Prop)(c0:Cx)(n:Nat)(ds:List Nat)(s:RS)(a:Act)(w:World):Prop:=
 a.tmps.size=n∧∃c Lo lam,c.w=w∧Fr L0 c Lo lam ds s a∧Ext c0 none0 c Lo
theorem SR.vr {c:Cx}{L0 Lo:Nat→Prop}{lam:Nat→Nat}{bx:Nat→Option (List AV)}{x:AV}{v:Value}(h:SR c L0 Lo lam bx x v)(hx:∀k off,x≠.lp k off):VR c (un L0 Lo) x v:=by
 unfold SR at h
 split at h
 ·exact absurd rfl (hx _ _)
 ·exact h
theorem SR.of {c:Cx}{L0 Lo:Nat→Prop}{lam:Nat→Nat}{bx:Nat→Option (List AV)}{x:AV}{v:Value}(h:VR c (un L0 Lo) x v):SR c L0 Lo lam bx x v:=by
 unfold SR
 split
 ·exact h.elim
 ·exact h
theorem oQ {c:Cx}{L:Nat→Prop}{v:Value}{x:AV}(h:p7 v=some x):VR c L x v:=by
 unfold p7 at h
 split at h<;>first | (cases h; done) | (cases h; simp [VR])
theorem zH {c:Cx}{L:Nat→Prop}:∀{vs:List Value} {xs:List AV},sf vs=some xs→VRs c L xs vs
 | [],xs,h=>by simp [sf] at h; subst h; trivial
 | v::vs,xs,h=>by
  simp only [sf,aaH] at h
  obtain⟨x,hx,ys,hy,he⟩:=h
  cases he
  exact⟨oQ hx,zH hy⟩
theorem mM {c:Cx}{L:Nat→Prop}{v:Value}{x:AV}(h:GK v=some x):VR c L x v:=by
 unfold GK at h
 split at h
 ·rename_i cs
  rw [aaI] at h
  obtain⟨xs,hx,rfl⟩:=h
  simp only [VR]
  exact⟨cs,rfl,zH hx⟩
 ·exact oQ h
theorem mc {c:Cx}{L:Nat→Prop}{x:AV}{u v:Value}(h:x.gT=some u)(hx:VR c L x v):v=u:=by
 unfold AV.gT at h
 split at h<;>first | (cases h; done) | (cases h; simpa [VR] using hx)
theorem me {x:AV}{u:Value}(h:x.gT=some u):∀k off,x≠.lp k off:=by
 rintro k off rfl
 simp [AV.gT] at h
theorem rv {c:Cx}{L:Nat→Prop}:∀{xs:List AV} {us vs:List Value},jC xs=some us→VRs c L xs vs→vs=us
 | [],us,[],h,_=>by simp [jC] at h; exact h.symm
 | x::xs,us,v::vs,h,hx=>by
  simp only [jC,aaH] at h
  obtain⟨u,h1,ws,h2,he⟩:=h
  cases he
  rw [mc h1 hx.1,rv h2 hx.2]
 | [],_,_::_,_,h=>h.elim
 | _::_,_,[],_,h=>h.elim
theorem xX {c:Cx}{L:Nat→Prop}{x:AV}{u v:Value}(h:x.BS=some u)(hx:VR c L x v):v=u:=by
 unfold AV.BS at h
 split at h
 ·rw [aaI] at h
  obtain⟨vs,h1,rfl⟩:=h
  simp only [VR] at hx
  obtain⟨ws,rfl,h2⟩:=hx
  rw [←rv h1 h2]
 ·exact mc h hx
theorem lD {α:Type}{P:Program}{e:Sem α}{r:α}(w:World):jl P e=some r→e.run P w = .ok r w:=by
 induction e with
 | pure a=>intro h; simp [jl] at h; subst h; rfl
 | program k ih=>intro h; exact ih P (by simpa [jl] using h)
 | _=>intro h; simp [jl] at h
theorem bI {L0:Nat→Prop}{c:Cx}{Lo:Nat→Prop}{lam:Nat→Nat}{ds:List Nat}{s:RS}{a:Act}(f:Fr L0 c Lo lam ds s a)(x:Operand):SR c L0 Lo lam s.bx (bQ s.ρ x) (a.eval x):=by
 cases x with
 | tmp t=>exact f.slot t
 | const v=>
  refine SR.of ?_
  simp only [bQ,Act.eval]
  cases h:GK v with
  | none=>simp [VR]
  | some x=>simpa using mM h
 | global g=>exact SR.of (by simp [bQ,VR])
 | func f=>exact SR.of (by simp only [bQ,VR,Act.eval]; exact⟨#[],rfl,by simp [VRs]⟩)
def jS (P:Program)(L0:Nat→Prop)(c0:Cx)(n:Nat)(ds:List Nat)(o:Oper)(s s':RS):Prop:=
 ∀a w (K:Act→World→Prop) (Q:Exit→Act→World→Prop),Inv L0 c0 n ds s a w→(∀a' w',Inv L0 c0 n ds s' a' w'→K a' w')→o.wp P a w K Q
theorem gU (a:Act)(d:Option Nat)(v:Value):(a.put d v).tmps.size=a.tmps.size:=by cases d<;>simp [Act.put]
theorem GO (a:Act)(d t:Nat)(v:Value)(hd:d<a.tmps.size):(a.put (some d) v).tmps.getD t undef=if t=d then v else a.tmps.getD t undef:=by
 simp only [Act.put,Array.getD_eq_getD_getElem?,abJ]
 by_cases h:d=t
 ·subst h; simp [hd]
 ·simp [h,Ne.symm h]
theorem wT (s:RS)(d t:Nat)(x:AV):(s.set (some d) x).ρ t=if t=d then x else s.ρ t:=by
 simp only [RS.set,beq_nat]
 by_cases h:t=d<;>simp [h]
theorem Fr.set {L0:Nat→Prop}{c:Cx}{Lo:Nat→Prop}{lam:Nat→Nat}{ds:List Nat}{s:RS}{a:Act}(f:Fr L0 c Lo lam ds s a){d:Option Nat}{x:AV}{v:Value}(hx:SR c L0 Lo lam s.bx x v)
  (hd:∀t,d=some t→t<a.tmps.size∧t∈ds):Fr L0 c Lo lam ds (s.set d x) (a.put d v):=by
 cases d with
 | none=>exact f
 | some d=>
  obtain⟨h1,h2⟩:=hd d rfl
  refine⟨f.h,f.rel,fun t=>?_,f.box,f.inj,fun t k off ht he=>?_,f.defers,f.GN⟩
  ·rw [GO _ _ _ _ h1,wT]
   by_cases h:t=d
   ·simp only [h,if_true]; exact hx
   ·simp only [h,if_false]; exact f.slot t
  ·rw [wT] at he
   by_cases h:t=d
   ·subst h; exact absurd h2 ht
   ·rw [if_neg h] at he; exact f.tidy t k off ht he
section
variable {P:Program}{L0:Nat→Prop}{c0:Cx}{n:Nat}{ds:List Nat}{o:Oper}{s:RS}
def gV (n:Nat)(ds:List Nat)(o:Oper):Prop:=∀t,o.dst=some t→t<n∧t∈ds
theorem gv (hd:gV n ds o){x:AV}
  (h:∀a c Lo lam,Fr L0 c Lo lam ds s a→a.tmps.size=n→∃v,(execOp a.eval o).run P c.w = .ok (.value v) c.w∧SR c L0 Lo lam s.bx x v):jS P L0 c0 n ds o s (s.set o.dst x):=by
 rintro a w K Q ⟨hn,c,Lo,lam,rfl,f,e⟩ hK
 obtain⟨v,hr,hv⟩:=h a c Lo lam f hn
 unfold Oper.wp
 rw [hr,Oper.upon_value]
 exact hK _ _ ⟨(gU _ _ _).trans hn,c,Lo,lam,rfl,f.set hv (fun t ht=>hn ▸ hd t ht),e⟩
end
theorem SR.ext {c c':Cx}{L0 Lo kq:Nat→Prop}{lam sW:Nat→Nat}{bx VT:Nat→Option (List AV)}{x:AV}{v:Value}(h:SR c L0 Lo lam bx x v)(e:Ext c Lo c' kq)
  (hl:∀k off,x = .lp k off→sW k=lam k∧((bx k).isSome=true→(VT k).isSome=true)):SR c' L0 kq sW VT x v:=by
 unfold SR at h ⊢
 split
 ·rename_i k off
  obtain⟨h1,h2⟩:=h
  obtain⟨h3,h4⟩:=hl k off rfl
  rw [h3]
  exact⟨h1,h4 h2⟩
 ·rename_i hne
  split at h
  ·exact absurd rfl (hne _ _)
  ·exact VR.ext e _ _ h
theorem Plain.of_heap {c c':Cx}{b n:Nat}(h:Plain c b n)(he:iL c.w c'.w b):Plain c' b n:=by
 obtain⟨C,e,lo,hi,h1,h2,h3⟩:=h
 rcases he with he | ⟨C',e',l1,i1,l2,i2,k1,k2,k3⟩
 ·exact⟨C,e,lo,hi,he.trans h1,h2,h3⟩
 ·rw [h1] at k1
  simp only [aaJ,Obj.cells.injEq,aaQ] at k1
  obtain⟨rfl,rfl,rfl,rfl⟩:=k1
  exact⟨C,e,l2,i2,k2,k3 h2,h3⟩
theorem Plain.lt {c:Cx}{b n:Nat}(h:Plain c b n):b<c.w.heap.size:=by
 obtain⟨C,e,lo,hi,h1,_⟩:=h
 exact (abj.1 h1).1
theorem ma.ext {c c':Cx}{L0 Lo kq:Nat→Prop}(e:Ext c Lo c' kq):∀{es:List (AV × AV)} {ms:List MapEntry},ma c (un L0 Lo) es ms→ma c' (un L0 kq) es ms
 | [],[],_=>trivial
 | (k,v)::es,m::ms,h=>⟨⟨VR.ext e _ _ h.1.1,h.1.2⟩,VR.ext e _ _ h.2.1,ma.ext e h.2.2⟩
 | [],_::_,h=>h.elim
 | _::_,[],h=>h.elim
theorem qa.ext {c c':Cx}{L0 Lo kq:Nat→Prop}(e:Ext c Lo c' kq){b base:Nat}{o:AObj}(h:qa c (un L0 Lo) b base o)(he:c'.w.heap[b]? = c.w.heap[b]?):qa c' (un L0 kq) b base o:=by
 cases o with
 | cells cs=>
  obtain⟨n,h1,h2,h3⟩:=h
  exact⟨n,h1.of_heap he,h2,Cells.move e cs b base b base (fun i _=>ug he _) h3⟩
 | row t cs=>
  obtain⟨h0,C,h1,h2,h4,h3⟩:=h
  exact⟨h0,C,he.trans h1,h2,h4,Cells.move e cs b 0 b 0 (fun i _=>ug he _) h3⟩
 | map es=>
  obtain⟨mb,clock,h1,h2⟩:=h
  exact⟨mb,clock,he.trans h1,h2.ext e⟩
theorem Rv.ext {c c':Cx}{L0 Lo kq:Nat→Prop}{lam:Nat→Nat}(e:Ext c Lo c' kq){k:Nat}{cs:List AV}(h:Rv c L0 Lo lam k cs)(he:iL c.w c'.w (lam k)):Rv c' L0 kq lam k cs:=
 ⟨e.own _ h.own,h.plain.of_heap he,Cells.move e cs (lam k) 0 (lam k) 0 (fun i _=>he.cell _) h.cells⟩
end Go.R
namespace Go.R
open Go
theorem addr_add (b o i:Nat):(⟨b,o,none⟩:Addr).add i=⟨b,o+i,none⟩:=by
 unfold Addr.add
 split<;>simp_all
section
variable {P:Program}{L0:Nat→Prop}{c0:Cx}{n:Nat}{ds:List Nat}{o:Oper}{s:RS}
theorem bB {t:TypeId}{d:TypeDesc}(h:P.underlying t=some d)(w:World):(underlying t).run P w = .ok d w:=run_underlying h w
theorem dP {t:TypeId}{m:Nat}(h:fM P t=some m)(w:World):(sizeOf t).run P w = .ok m w:=by
 unfold fM at h
 rw [aaI] at h
 obtain⟨i,hi,rfl⟩:=h
 simp [sizeOf,typeInfo,hi]
theorem Dp {t:TypeId}{b:Bool}(h:gG P t=some b)(w:World):(isAgg t).run P w = .ok b w:=by
 unfold gG at h
 rw [aaI] at h
 obtain⟨d,hd,rfl⟩:=h
 simp only [isAgg,Sem.run_bind,bB hd,Result.andThen_ok]
 cases d<;>rfl
theorem B6 {c:Cx}{L:Nat→Prop}{xs:List AV}{b off:Nat}(h:Cells c L xs b off):∃vs:List Value,(loadCells ⟨b,off,none⟩ xs.length).run P c.w = .ok vs.toArray c.w∧VRs c L xs vs:=by
 obtain⟨vs,h1,h2,_⟩:=h.vals
 refine⟨vs,?_,h1⟩
 have:=run_loadCells_list (P:=P) (w:=c.w) ⟨b,off,none⟩ vs (fun j v hj=>by
  rw [addr_add,h2 j (by rw [h1.length]; exact (aaM.1 hj).1)]; exact hj)
 rwa [←h1.length] at this
theorem Cells.drop {c:Cx}{L:Nat→Prop}:∀(m:Nat) {xs:List AV} {b off:Nat},Cells c L xs b off→Cells c L (xs.drop m) b (off+m)
 | 0,_,_,_,h=>h
 | m+1,[],_,_,_=>by simp [Cells]
 | m+1,x::xs,b,off,h=>by
  have:=Cells.drop m h.2
  rw [ab4,abI] at this
  simpa using this
theorem Cells.take {c:Cx}{L:Nat→Prop}:∀(m:Nat) {xs:List AV} {b off:Nat},Cells c L xs b off→Cells c L (xs.take m) b off
 | 0,_,_,_,_=>by simp [Cells]
 | m+1,[],_,_,h=>by simpa using h
 | m+1,x::xs,b,off,h=>⟨h.1,Cells.take m h.2⟩
theorem pF {c:Cx}{L:Nat→Prop}{t:TypeId}{cs:List AV}{b base off:Nat}{x:AV}(h:jD P t cs off=some x)(hc:Cells c L cs b base) :
  ∃v,(loadVar t ⟨b,base+off,none⟩).run P c.w = .ok v c.w∧VR c L x v:=by
 unfold jD at h
 rw [aaH] at h
 obtain⟨ag,R7,h⟩:=h
 simp only [loadVar,Sem.run_bind,Dp R7,Result.andThen_ok]
 cases ag with
 | true=>
  simp only [if_true,aaH] at h
  obtain⟨m,hm,h⟩:=h
  split at h
  ·rename_i hle
   cases h
   have hc2:=(hc.drop off).take m
   obtain⟨vs,hr,hv⟩:=B6 (P:=P) hc2
   rw [show ((cs.drop off).take m).length=m by simp; omega] at hr
   refine⟨.agg vs.toArray,by simp [dP hm,hr],?_⟩
   simp only [VR]
   exact⟨vs.toArray,rfl,by simpa using hv⟩
  ·cases h
 | false=>
  simp only [aaU,if_false] at h
  obtain⟨v,hv,hx⟩:=hc.get off x h
  exact⟨v,by simp [hv],hx⟩
theorem zI {c:Cx}{Lo:Nat→Prop}{lam:Nat→Nat}{bx:Nat→Option (List AV)}{x y:AV}{m:Nat}{v:Value}(h:x.shift m=some y)(hx:SR c L0 Lo lam bx x v) :
  ∃ad,v = .pointer (some ad)∧SR c L0 Lo lam bx y (.pointer (some (ad.add m))):=by
 cases x<;>simp only [AV.shift] at h<;>cases h
 ·rename_i id off
  simp only [SR,VR] at hx ⊢
  obtain⟨hi,ad,rfl,ha⟩:=hx
  exact⟨ad,rfl,hi,_,rfl,fun hl=>by rw [ha hl,addr_add,abI]⟩
 ·rename_i k off
  simp only [SR] at hx ⊢
  obtain⟨rfl,hb⟩:=hx
  exact⟨_,rfl,by rw [addr_add],hb⟩
 ·rename_i cs off
  simp only [SR,VR] at hx ⊢
  obtain⟨b,o',rfl,hc⟩:=hx
  exact⟨_,rfl,b,o',by rw [addr_add,abI],hc⟩
theorem uj {c:Cx}{Lo:Nat→Prop}{lam:Nat→Nat}{a:Act}(f:Fr L0 c Lo lam ds s a){t:TypeId}{x y:AV}{v:Value}(hx:SR c L0 Lo lam s.bx x v)
  (h:kL P s.bx s.h t x=some y):∃u,(Instr.loadAt t v).run P c.w = .ok u c.w∧VR c (un L0 Lo) y u:=by
 unfold kL at h
 cases x<;>simp only at h<;>try (cases h; done)
 ·rename_i id off
  rw [aaH] at h
  obtain⟨ob,ho,h⟩:=h
  cases ob with
  | map es=>cases h
  | row t cs=>cases h
  | cells cs=>
   simp only [SR,VR] at hx
   obtain⟨hi,ad,rfl,ha⟩:=hx
   rw [←f.h] at ho
   have hl:Live c.h id:=⟨f.rel.lt _ _ ho,by simp [ho]⟩
   obtain⟨m,h1,h2,h3⟩:=f.rel.obj _ _ ho
   obtain⟨u,hr,hu⟩:=pF (P:=P) h h3
   exact⟨u,by simp [Instr.loadAt,Instr.sureAddr,ha hl,hr],hu⟩
 ·rename_i k off
  rw [aaH] at h
  obtain⟨cs,hb,h⟩:=h
  simp only [SR] at hx
  obtain⟨rfl,_⟩:=hx
  have hw:=f.box k cs hb
  obtain⟨u,hr,hu⟩:=pF (P:=P) h hw.cells
  rw [aa7] at hr
  exact⟨u,by simp [Instr.loadAt,Instr.sureAddr,hr],hu⟩
 ·rename_i cs off
  split at h
  ·cases h
  ·rename_i hne
   simp only [SR,VR] at hx
   obtain⟨b,o',rfl,hc⟩:=hx
   rcases hc with hc | ⟨_,hc⟩
   ·subst hc; simp at hne
   ·obtain⟨u,hr,hu⟩:=pF (P:=P) h hc
    exact⟨u,by simp [Instr.loadAt,Instr.sureAddr,hr],hu⟩
theorem zJ {c:Cx}{Lo:Nat→Prop}{lam:Nat→Nat}{bx:Nat→Option (List AV)}{t:TypeId}{x i y:AV}{v u:Value}(hx:SR c L0 Lo lam bx x v)(hi:SR c L0 Lo lam bx i u)
  (h:fD P t x i=some y):∃r,(Instr.indexAt t v u).run P c.w = .ok r c.w∧SR c L0 Lo lam bx y r:=by
 unfold fD at h
 split at h<;>try (cases h; done)
 rename_i k i
 simp only [SR,VR] at hi
 subst hi
 rw [aaH] at h
 obtain⟨d,hd,h⟩:=h
 split at h<;>try (cases h; done)
 ·rename_i len e
  rw [aaH] at h
  obtain⟨m,hm,h⟩:=h
  split at h
  ·rename_i hin
   obtain⟨ad,rfl,hy⟩:=zI h hx
   exact⟨_,by simp [Instr.indexAt,asIntOf,bB hd,Instr.sureAddr,hin,dP hm],hy⟩
  ·cases h
 ·rename_i e
  rw [aaH] at h
  obtain⟨m,hm,h⟩:=h
  split at h<;>try (cases h; done)
  ·rename_i cs len ex
   split at h
   ·rename_i hin
    obtain⟨h1,h2,h3⟩:=hin
    cases h
    simp only [SR,VR] at hx ⊢
    obtain⟨a,cap,rfl,h4,h5,_,hc⟩:=hx
    rcases hc with hc | ⟨b,o',rfl,hr,hex,hc⟩
    ·subst hc; simp at h3
    ·refine⟨.pointer (some ((⟨b,o',none⟩:Addr).add (i.toNat*m))),by simp [Instr.indexAt,asIntOf,bB hd,h1,h2,dP hm],b,o',?_,.inr ⟨hr,hc⟩⟩
     rw [addr_add]
   ·cases h
  ·rename_i id off len jb
   split at h
   ·rename_i hin
    obtain⟨h0,h1,h2⟩:=hin
    cases h
    simp only [SR,VR] at hx ⊢
    rcases hx with⟨_,_,hz,_⟩| hx
    ·subst hz; omega
    obtain⟨_,hid,a,cap,rfl,h4,hs,h5⟩:=hx
    cases a with
    | none=>simp at hs
    | some a=>
     refine⟨.pointer (some (a.add (i.toNat*m))),by simp [Instr.indexAt,asIntOf,bB hd,h1,h2,dP hm],hid,_,rfl,fun hl=>?_⟩
     rcases h5 hl with h6 | h6
     ·obtain⟨h6,_⟩:=h6
      cases h6
      rw [addr_add,abI]
     ·subst h6; omega
   ·cases h
end
end Go.R
namespace Go.R
open Go
section
variable {P:Program}{L0:Nat→Prop}{c0:Cx}{n:Nat}{ds:List Nat}{o:Oper}{s:RS}
theorem wU {c:Cx}{L:Nat→Prop}{t:TypeId}{cs:List AV}{vs:Array Value}{off:Nat}{x:AV}(hv:VRs c L cs vs.toList)(h:Dn P t cs off=some x) :
  ∃v,(part t vs off).run P c.w = .ok v c.w∧VR c L x v:=by
 unfold Dn jD at h
 rw [aaH] at h
 obtain⟨ag,R7,h⟩:=h
 simp only [part,Sem.run_bind,Dp R7,Result.andThen_ok]
 cases ag with
 | true=>
  simp only [if_true,aaH] at h
  obtain⟨m,hm,h⟩:=h
  split at h
  ·rename_i hle
   cases h
   refine⟨.agg (vs.extract off (off+m)),by simp [dP hm],?_⟩
   simp only [VR]
   refine⟨_,rfl,?_⟩
   rw [Array.toList_extract,List.extract_eq_take_drop,abC]
   exact (hv.drop off).take m
  ·cases h
 | false=>
  simp only [aaU,if_false] at h
  obtain⟨v,Gu,hx⟩:=hv.get off x h
  have R8:vs[off]? = some v:=by rw [←Array.getElem?_toList]; exact Gu
  exact⟨v,by simp [R8],hx⟩
theorem B7 {c:Cx}{Lo:Nat→Prop}{lam:Nat→Nat}{bx:Nat→Option (List AV)}{t:TypeId}{x y:AV}{v:Value}{i:Nat}(hx:SR c L0 Lo lam bx x v)(h:BV P t x i=some y) :
  ∃r,(Instr.field t v i).run P c.w = .ok r c.w∧VR c (un L0 Lo) y r:=by
 unfold BV at h
 split at h<;>try (cases h; done)
 rename_i cs
 simp only [SR,VR] at hx
 obtain⟨vs,rfl,hv⟩:=hx
 rw [aaH] at h
 obtain⟨d,hd,h⟩:=h
 split at h<;>try (cases h; done)
 rename_i fs
 rw [aaH] at h
 obtain⟨fd,hf,h⟩:=h
 obtain⟨r,hr,hy⟩:=wU hv h
 exact⟨r,by simp [Instr.field,bB hd,hf,asAgg,hr],hy⟩
theorem zK {c:Cx}{Lo:Nat→Prop}{lam:Nat→Nat}{bx:Nat→Option (List AV)}{t:TypeId}{x y:AV}{v:Value}{i:Nat}(hx:SR c L0 Lo lam bx x v)(h:pD P t x i=some y) :
  ∃r,(Instr.fieldAt t v i).run P c.w = .ok r c.w∧SR c L0 Lo lam bx y r:=by
 unfold pD at h
 rw [aaH] at h
 obtain⟨d,hd,h⟩:=h
 split at h<;>try (cases h; done)
 rename_i fs
 simp only [aaH] at h
 obtain⟨fd,hf,m,hm,h⟩:=h
 split at h
 ·cases h
 ·rename_i uk
  obtain⟨ad,rfl,hy⟩:=zI h hx
  exact⟨_,by simp [Instr.fieldAt,bB hd,hf,Instr.sureAddr,fieldPlace,dP hm,uk],hy⟩
theorem B8 {c:Cx}{Lo:Nat→Prop}{lam:Nat→Nat}{bx:Nat→Option (List AV)}{t:TypeId}{x i y:AV}{v u:Value}(hx:SR c L0 Lo lam bx x v)(hi:SR c L0 Lo lam bx i u)(h:rq P t x i=some y) :
  ∃r,(Instr.index t v u).run P c.w = .ok r c.w∧VR c (un L0 Lo) y r:=by
 unfold rq at h
 split at h<;>try (cases h; done)
 rename_i k i
 simp only [SR,VR] at hi
 subst hi
 rw [aaH] at h
 obtain⟨d,hd,h⟩:=h
 split at h<;>try (cases h; done)
 ·rename_i len e
  split at h<;>try (cases h; done)
  rename_i cs
  simp only [SR,VR] at hx
  obtain⟨vs,rfl,hv⟩:=hx
  rw [aaH] at h
  obtain⟨m,hm,h⟩:=h
  split at h
  ·rename_i hin
   obtain⟨r,hr,hy⟩:=wU hv h
   exact⟨r,by simp [Instr.index,asIntOf,bB hd,hin,dP hm,hr],hy⟩
  ·cases h
 ·split at h<;>try (cases h; done)
  rename_i st
  simp only [SR,VR] at hx
  subst hx
  split at h
  ·rename_i h0
   rw [aaI] at h
   obtain⟨b,hb,rfl⟩:=h
   have hb2:st[i.toNat]? = some b:=by
    have hl:i.toNat<st.data.toList.length:=(aaM.1 hb).1
    have Lw:i.toNat<st.size:=by simpa using hl
    rw [getElem?_pos st i.toNat Lw]
    have:=(aaM.1 hb).2
    rw [←this]
    rfl
   exact⟨.int .u8 b.toNat,by simp [Instr.index,asIntOf,bB hd,h0,hb2],by simp [VR]⟩
  ·cases h
theorem kO {c:Cx}{Lo:Nat→Prop}{lam:Nat→Nat}{bx:Nat→Option (List AV)}{Ol:Bool}{len lim cap:Nat}{lo hi:Option AV}{Fj GP:Option Value}{l h:Nat}(hl:lim≤cap)
  (sj:∀x,lo=some x→∃v,Fj=some v∧SR c L0 Lo lam bx x v) (xY:lo=none→Fj=none) (JV:∀x,hi=some x→∃v,GP=some v∧SR c L0 Lo lam bx x v) (zL:hi=none→GP=none)
  (hb:ly len lim lo hi=some (l,h)):(Instr.sliceBounds Ol len cap Fj GP none).run P c.w = .ok (l,h,cap) c.w∧l≤h∧(h≤lim∨h=len):=by
 unfold ly at hb
 simp only [aaH] at hb
 obtain⟨h',hh,l',pY,he⟩:=hb
 cases he
 have e1:(GP=none∧h=len)∨∃k i,GP=some (.int k i)∧(0≤i∧i≤(cap:Int))∧h=i.toNat∧h≤lim:=by
  cases hi with
  | none=>
   simp only [aaJ] at hh
   exact .inl ⟨zL rfl,hh.symm⟩
  | some x=>
   obtain⟨v,rfl,hv⟩:=JV x rfl
   cases x<;>simp only at hh<;>try (cases hh; done)
   rename_i k i
   simp only [SR,VR] at hv
   subst hv
   split at hh
   ·rename_i hin
    cases hh
    exact .inr ⟨k,i,rfl,⟨hin.1,by omega⟩,rfl,by omega⟩
   ·cases hh
 have e2:(Fj=none∧l=0)∨∃k i,Fj=some (.int k i)∧(0≤i∧i≤(h:Int))∧l=i.toNat:=by
  cases lo with
  | none=>
   simp only [aaJ] at pY
   exact .inl ⟨xY rfl,pY.symm⟩
  | some x=>
   obtain⟨v,rfl,hv⟩:=sj x rfl
   cases x<;>simp only at pY<;>try (cases pY; done)
   rename_i k i
   simp only [SR,VR] at hv
   subst hv
   split at pY
   ·rename_i hin
    cases pY
    exact .inr ⟨k,i,rfl,hin,rfl⟩
   ·cases pY
 clear sj xY JV zL hh pY
 have e3:l≤h:=by rcases e2 with⟨_,h2⟩| ⟨k,i,_,h2,h3⟩<;>omega
 have e4:h≤lim∨h=len:=by rcases e1 with⟨_,h2⟩| ⟨k,i,_,h2,h3,h4⟩<;>omega
 refine⟨?_,e3,e4⟩
 rcases e1 with⟨rfl,rfl⟩| ⟨k,i,rfl,Rw,rfl,_⟩<;>rcases e2 with⟨rfl,rfl⟩| ⟨k2,i2,rfl,Dq,rfl⟩<;>simp_all [Instr.sliceBounds,Instr.sliceBound,asIntOf]
theorem pG {c:Cx}{Lo:Nat→Prop}{lam:Nat→Nat}{bx:Nat→Option (List AV)}{x:AV}{v:Value}(h:isZero (some x)=true)(hv:SR c L0 Lo lam bx x v):∃k,v = .int k 0:=by
 cases x<;>simp [isZero] at h
 subst h
 simp only [SR,VR] at hv
 exact⟨_,hv⟩
theorem B9 {c:Cx}{Lo:Nat→Prop}{lam:Nat→Nat}{bx:Nat→Option (List AV)}{t:TypeId}{x y:AV}{v:Value}{lo hi mx:Option AV}{Fj GP OO:Option Value}(hx:SR c L0 Lo lam bx x v)
  (sj:∀x,lo=some x→∃v,Fj=some v∧SR c L0 Lo lam bx x v) (xY:lo=none→Fj=none) (JV:∀x,hi=some x→∃v,GP=some v∧SR c L0 Lo lam bx x v) (zL:hi=none→GP=none)
  (XE:∀x,mx=some x→∃v,OO=some v∧SR c L0 Lo lam bx x v) (OP:mx=none→OO=none)
  (h:mI P t x lo hi mx=some y):∃r,(Instr.sliceAt t v Fj GP OO).run P c.w = .ok r c.w∧VR c (un L0 Lo) y r:=by
 unfold mI at h
 rw [aaH] at h
 obtain⟨d,hd,h⟩:=h
 have Ca:(match d with | .array _ _=>false | _=>true)=true→(Instr.sliceAt t v Fj GP OO).run P c.w=(Instr.slice t v Fj GP OO).run P c.w:=by
  intro XF
  unfold Instr.sliceAt
  simp only [Sem.run_bind,bB hd,Result.andThen_ok]
  cases d<;>simp at XF<;>rfl
 split at h<;>try (cases h; done)
 ·rw [Ca rfl]
  cases mx with
  | some mm=>cases x<;>cases h
  | none=>
  cases x<;>simp only at h<;>try (cases h; done)
  rename_i st
  rw [OP rfl]
  simp only [SR,VR] at hx
  subst hx
  rw [aaI] at h
  obtain⟨⟨l,hh⟩,hb,rfl⟩:=h
  obtain⟨hr,_,_⟩:=kO (P:=P) (Ol:=false) (aaN _) sj xY JV zL hb
  exact⟨.string (st.extract l hh),by simp [Instr.slice,bB hd,hr],by simp [VR]⟩
 ·rename_i e
  rw [Ca rfl]
  rw [aaH] at h
  obtain⟨m,hm,h⟩:=h
  cases mx with
  | some mm=>
   cases hi with
   | none=>cases h
   | some hh=>
   simp only at h
   split at h
   ·rename_i hz
    simp only [aaK] at hz
    obtain⟨⟨z1,z2⟩,z3⟩:=hz
    obtain⟨mv,rfl,R9⟩:=XE mm rfl
    obtain⟨hv,rfl,XG⟩:=JV hh rfl
    obtain⟨k3,rfl⟩:=pG z3 R9
    obtain⟨k2,rfl⟩:=pG z2 XG
    have hsl:∃a len cap,v = .slice a len cap∧VR c (un L0 Lo) y (.slice a 0 0):=by
     split at h<;>try (cases h; done)
     all_goals (cases h; simp only [SR,VR] at hx)
     ·obtain⟨a,cap,rfl,_,_,hs,_⟩:=hx; exact⟨_,_,_,rfl,by simp only [VR]; exact⟨_,_,rfl,aaN _,fun _=>rfl,hs.imp id fun _=>⟨trivial,rfl⟩,.inl (by simp)⟩⟩
     ·rcases hx with⟨_,_,_,a,rfl⟩| ⟨_,_,a,cap,rfl,_,hs,_⟩
      ·exact⟨_,_,_,rfl,by simp only [VR]; exact⟨_,_,rfl,aaN _,fun _=>rfl,.inr ⟨trivial,rfl⟩,.inl (by simp)⟩⟩
      ·exact⟨_,_,_,rfl,by simp only [VR]; exact⟨_,_,rfl,aaN _,fun _=>rfl,.inl hs,.inl (by simp)⟩⟩
     ·subst hx; exact⟨_,_,_,rfl,by simp [VR]⟩
    obtain⟨a,len,cap,rfl,XH⟩:=hsl
    have XI:Fj=none∨∃k,Fj=some (.int k 0):=by
     cases lo with
     | none=>exact .inl (xY rfl)
     | some x=>
      obtain⟨lv,rfl,mE⟩:=sj x rfl
      obtain⟨k,rfl⟩:=pG z1 mE
      exact .inr ⟨k,rfl⟩
    refine⟨.slice a 0 0,?_,XH⟩
    rcases XI with rfl | ⟨k,rfl⟩<;>simp [Instr.slice,bB hd,Instr.sliceBounds,Instr.sliceBound,asIntOf,dP hm]
   ·cases h
  | none=>
   rw [OP rfl]
   simp only at h
   cases x with
   | nils=>
    simp only [SR,VR] at hx
    subst hx
    rw [aaI] at h
    obtain⟨⟨l,hh⟩,hb,rfl⟩:=h
    obtain⟨hr,h1,h2⟩:=kO (P:=P) (Ol:=true) (aaN _) sj xY JV zL hb
    have:hh=0:=by omega
    subst this
    have:l=0:=by omega
    subst this
    exact⟨.slice none 0 0,by simp [Instr.slice,bB hd,hr,dP hm],by simp [VR]⟩
   | fz cs len ex=>
    simp only [SR,VR] at hx
    obtain⟨a,cap,rfl,Sa,hc2,hs,hc⟩:=hx
    rw [aaI] at h
    obtain⟨⟨l,hh⟩,hb,rfl⟩:=h
    obtain⟨hr,h1,h2⟩:=kO (P:=P) (Ol:=true) Sa sj xY JV zL hb
    have XJ:hh≤len:=by omega
    refine⟨.slice (if cap=l then a else a.map (·.add (l*m))) (hh - l) (cap - l),by simp [Instr.slice,bB hd,hr,dP hm],?_⟩
    simp only [VR]
    refine⟨_,_,rfl,by omega,fun he=>?_,?_,?_⟩
    rotate_left
    ·rcases hs with hs | ⟨hs,Om⟩
     ·left; split<;>simp [hs]
     ·right; subst hs; subst Om; simp
    rotate_left
    ·simp only [aaK,beq_iff_eq] at he
     have:=hc2 he.1
     omega
    ·rcases hc with hc | ⟨b,o',ha,Lx,hex,hc⟩
     ·subst hc; exact .inl (by simp)
     ·by_cases hcl:cap=l
      ·left
       have:hh - l=0:=by omega
       simp [this]
      ·right
       rw [if_neg hcl,ha]
       exact⟨b,o'+l*m,by simp [addr_add],Lx,fun he=>hex (by simp only [aaK] at he; exact he.1),(hc.drop _).take _⟩
   | rs id off len jb=>
    simp only at h
    split at h
    ·rename_i wj
     subst wj
     simp only [SR,VR] at hx
     rcases hx with⟨rfl,rfl,rfl,a,rfl⟩| hx
     ·rw [aaI] at h
      obtain⟨⟨l,hh⟩,hb,rfl⟩:=h
      obtain⟨hr,h1,h2⟩:=kO (P:=P) (Ol:=true) (aaN _) sj xY JV zL hb
      have:hh=0:=by omega
      subst this
      have:l=0:=by omega
      subst this
      exact⟨.slice a 0 0,by simp [Instr.slice,bB hd,hr,dP hm],by simp only [VR]; exact .inl ⟨trivial,by simp,trivial,a,rfl⟩⟩
     obtain⟨ll,hid,a,cap,rfl,Sa,hc2,hc⟩:=hx
     rw [aaI] at h
     obtain⟨⟨l,hh⟩,hb,rfl⟩:=h
     obtain⟨hr,h1,h2⟩:=kO (P:=P) (Ol:=true) Sa sj xY JV zL hb
     have XJ:hh≤len:=by omega
     refine⟨.slice (if cap=l then a else a.map (·.add (l*jb))) (hh - l) (cap - l),by simp [Instr.slice,bB hd,hr,dP hm],?_⟩
     simp only [VR]
     refine .inr ⟨ll,hid,_,_,rfl,by omega,by split<;>simp [hc2],fun hl=>?_⟩
     ·rcases hc hl with⟨h3,h4⟩| h3
      ·by_cases hcl:cap=l
       ·right; omega
       ·left
        rw [if_neg hcl,h3]
        refine⟨by simp [addr_add,abI],?_⟩
        rw [←h4]
        have:cap*jb=l*jb+(cap - l)*jb:=by rw [←abW]; congr 1; omega
        omega
      ·right; omega
    ·cases h
   | _=>cases h
end
end Go.R
namespace Go.R
open Go
section
variable {P:Program}
def ints (ns:List Int):List Value:=ns.map fun n=>.int .i64 n
theorem iM:∀{cs:List AV},cs.all lz=true→∃ns:List Int,cs=ns.map fun n=>AV.int .i64 n
 | [],_=>⟨[],rfl⟩
 | x::xs,h=>by
  simp only [abu,aaK] at h
  obtain⟨ns,rfl⟩:=iM h.2
  cases x<;>simp [lz] at h
  rename_i k m
  cases k<;>simp at h
  exact⟨m::ns,rfl⟩
theorem kP {c:Cx}{L:Nat→Prop}:∀{ns:List Int} {vs:List Value},VRs c L (ns.map fun n=>AV.int .i64 n) vs→vs=ints ns
 | [],[],_=>rfl
 | m::ns,v::vs,h=>by
  have h1:v = .int .i64 m:=by simpa [VR] using h.1
  rw [h1,kP h.2]; rfl
 | [],_::_,h=>h.elim
 | _::_,[],h=>h.elim
theorem lE:∀ns ms:List Int,mJ (ns.map fun n=>AV.int .i64 n) (ms.map fun n=>AV.int .i64 n)=decide (ns=ms)
 | [],[]=>rfl
 | [],_::_=>rfl
 | _::_,[]=>rfl
 | n::ns,m::ms=>by
  simp only [aa3,mJ,iY,lE ns ms]
  by_cases h1:n=m<;>by_cases h2:ns=ms<;>simp [h1,h2]
theorem iE {t:TypeId}(w:World)(ht:P.underlying t=some (.int .i64)){ns:List Int}{vs:Array Value}(hv:vs.toList=ints ns){i:Nat}{m:Int}(hi:ns[i]? = some m):(part t vs i).run P w = .ok (.int .i64 m) w:=by
 have h2:vs[i]? = some (.int .i64 m):=by rw [←Array.getElem?_toList,hv]; simp [ints,hi]
 simp [part,isAgg,bB ht,h2]
theorem mf {e:TypeId}(d:Nat)(w:World)(he:P.underlying e=some (.int .i64)){xs ys:Array Value}{ns ms:List Int}(hx:xs.toList=ints ns)(hy:ys.toList=ints ms)(hl:ns.length=ms.length) :
  ∀m i,i+m=ns.length→(Op.eqItems (d+1) e 1 xs ys (List.range' i m)).run P w = .ok (decide (ns.drop i=ms.drop i)) w
 | 0,i,h=>by
  have h1:ns.drop i=[]:=by simp; omega
  have h2:ms.drop i=[]:=by simp; omega
  simp [Op.eqItems,h1,h2]
 | m+1,i,h=>by
  have ih:=mf d w he hx hy hl m (i+1) (by omega)
  rw [List.range'_succ]
  simp only [Op.eqItems,Nat.mul_one,Sem.run_bind,iE w he hx (aaL (show i<ns.length by omega)),iE w he hy (aaL (show i<ms.length by omega)),Result.andThen_ok,run_equalIn_int w d e .i64 .i64 _ _ he]
  have e1:ns.drop i=ns[i]::ns.drop (i+1):=aaT (by omega)
  have e2:ms.drop i=ms[i]::ms.drop (i+1):=aaT (by omega)
  rw [e1,e2]
  clear e1 e2
  generalize ns[i]=a
  generalize ms[i]=b
  by_cases h3:a=b
  ·simp [h3,ih]
  ·simp [h3]
def zM (P : Program) (f : Field) (i : Nat) : Bool := f.name != "_" && f.offset == i && (P.underlying f.type matches some (.int .i64)) && fM P f.type == some 1
theorem lG (d:Nat)(w:World){xs ys:Array Value}{ns ms:List Int}(hx:xs.toList=ints ns)(hy:ys.toList=ints ms)(hl:ns.length=ms.length) :
  ∀(fs:List Field) (i:Nat),i+fs.length=ns.length→(fs.zipIdx i).all (fun (f,j)=>zM P f j)=true→(Op.eqFields (d+1) xs ys fs).run P w = .ok (decide (ns.drop i=ms.drop i)) w
 | [],i,h,_=>by
  have h1:ns.drop i=[]:=by simp at h ⊢; omega
  have h2:ms.drop i=[]:=by simp at h ⊢; omega
  simp [Op.eqFields,h1,h2]
 | f::fs,i,h,ha=>by
  simp only [List.zipIdx_cons,abu,aaK] at ha
  obtain⟨hf,ha⟩:=ha
  simp only [aaW] at h
  have ih:=lG d w hx hy hl fs (i+1) (by omega) ha
  simp only [zM,aaK,bne_iff_ne,ne_eq,beq_iff_eq] at hf
  obtain⟨⟨⟨f1,f2⟩,f3⟩,f4⟩:=hf
  have Sc:P.underlying f.type=some (.int .i64):=by
   revert f3
   split<;>simp_all
  simp only [Op.eqFields,f1,ne_eq,not_false_eq_true,if_true,Sem.run_bind,f2,iE w Sc hx (aaL (show i<ns.length by omega)),iE w Sc hy (aaL (show i<ms.length by omega)),Result.andThen_ok,run_equalIn_int w d f.type .i64 .i64 _ _ Sc]
  have e1:ns.drop i=ns[i]::ns.drop (i+1):=aaT (by omega)
  have e2:ms.drop i=ms[i]::ms.drop (i+1):=aaT (by omega)
  rw [e1,e2]
  clear e1 e2
  generalize ns[i]=a
  generalize ms[i]=b
  by_cases h3:a=b
  ·simp [h3,ih]
  ·simp [h3]
theorem mg {t:TypeId}(h:(P.underlying t matches some (.int .i64))=true):P.underlying t=some (.int .i64):=by
 revert h
 split<;>simp_all
theorem Fk {t:TypeId}{m:Nat}(h:fM P t=some m):∃i,P.info? t=some i∧P.cellsOf t=m:=by
 unfold fM at h
 rw [aaI] at h
 obtain⟨i,hi,rfl⟩:=h
 exact⟨i,hi,by simp [Program.cellsOf,hi]⟩
theorem bytes_beq (a b:ByteArray):(a.toList==b.toList)=(a.data.toList==b.data.toList):=by
 rw [ByteArray.toList_eq,ByteArray.toList_eq]
theorem wV {c:Cx}{L:Nat→Prop}{t:TypeId}{x y:AV}{v u:Value}(d:Nat)(hx:gu P t x=true)(hs:sameShape x y=true)(hv:VR c L x v)(hu:VR c L y u)(w:World) :
  (Op.equalIn (d+2) t v u).run P w = .ok (fL x y) w:=by
 cases hd:P.underlying t with
 | none=>simp [gu,hd] at hx
 | some td=>
 cases td<;>simp only [gu,hd] at hx<;>try (cases hx; done)
 ·rename_i q
  cases x<;>simp only at hx<;>try (cases hx; done)
  rename_i k a
  cases y<;>simp only [sameShape] at hs<;>try (cases hs; done)
  rename_i l b
  simp only [VR] at hv hu
  subst hv; subst hu
  simp only [beq_iff_eq] at hs hx
  subst hs; subst hx
  rw [run_equalIn_int w (d+1) t _ _ a b hd]
  simp [fL,iY]
 ·cases x<;>simp only at hx<;>try (cases hx; done)
  rename_i a
  cases y<;>simp only [sameShape] at hs<;>try (cases hs; done)
  rename_i b
  simp only [VR] at hv hu
  subst hv; subst hu
  rw [run_equalIn_string w (d+1) t a b hd,bytes_beq]
  simp [fL,iY]
 ·rename_i n e
  cases x<;>simp only at hx<;>try (cases hx; done)
  rename_i cs
  cases y<;>simp only [sameShape] at hs<;>try (cases hs; done)
  rename_i fQ
  simp only [aaK,beq_iff_eq] at hx hs
  obtain⟨⟨⟨h1,h2⟩,h3⟩,h4⟩:=hx
  obtain⟨ns,rfl⟩:=iM hs.1.2
  obtain⟨ms,rfl⟩:=iM hs.2
  simp only [VR] at hv hu
  obtain⟨xs,rfl,hxs⟩:=hv
  obtain⟨ys,rfl,Sd⟩:=hu
  obtain⟨i,hi,Se⟩:=Fk h4
  have hl:ns.length=ms.length:=by simpa using hs.1.1
  rw [run_equalIn_array w (d+1) xs ys hd hi,Se]
  have:=mf (P:=P) d w (mg h3) (kP hxs) (kP Sd) hl n 0 (by simpa using h1.symm)
  rw [List.range_eq_range',this,fL,lE]
  simp
 ·rename_i fs
  cases x<;>simp only at hx<;>try (cases hx; done)
  rename_i cs
  cases y<;>simp only [sameShape] at hs<;>try (cases hs; done)
  rename_i fQ
  simp only [aaK,beq_iff_eq,abN] at hx hs
  obtain⟨⟨⟨h1,h2⟩,h3⟩,h4⟩:=hx
  obtain⟨ns,rfl⟩:=iM hs.1.2
  obtain⟨ms,rfl⟩:=iM hs.2
  simp only [VR] at hv hu
  obtain⟨xs,rfl,hxs⟩:=hv
  obtain⟨ys,rfl,Sd⟩:=hu
  have hl:ns.length=ms.length:=by simpa using hs.1.1
  have hf:P.fieldsOf t=fs:=by simp [Program.fieldsOf,hd]
  rw [run_equalIn_struct w (d+1) t xs ys (by rw [hf]; exact hd) h4,hf]
  have:=lG (P:=P) d w (kP hxs) (kP Sd) hl fs.toList 0 (by simpa using h1.symm) h3
  rw [this,fL,lE]
  simp
theorem n5 {α:Type}(w:World)(f:α→PUnit→Sem (ForInStep PUnit)):∀l:List α,(∀x∈l,(f x PUnit.unit).run P w = .ok (.yield PUnit.unit) w)→(forIn l PUnit.unit f).run P w = .ok PUnit.unit w
 | [],_=>by simp
 | x::xs,h=>by
  have ih:=n5 w f xs (fun y hy=>h y (by simp [hy]))
  simp only [List.forIn_cons,Sem.run_bind,h x (by simp),Result.andThen_ok]
  exact ih
theorem pk {c:Cx}{L:Nat→Prop}{t:TypeId}{x:AV}{v:Value}(em:Bool)(d:Nat)(hx:gu P t x=true)(hv:VR c L x v)(w:World) :
  (Instr.checkKey em (d+2) t v).run P w = .ok () w:=by
 have one:∀(e:TypeId) (m:Int),P.underlying e=some (.int .i64)→(Instr.checkKey em (d+1) e (.int .i64 m)).run P w = .ok () w:=by
  intro e m he
  simp [Instr.checkKey,bB he]
 cases hd:P.underlying t with
 | none=>simp [gu,hd] at hx
 | some td=>
 cases td<;>simp only [gu,hd] at hx<;>try (cases hx; done)
 ·cases x<;>simp only at hx<;>try (cases hx; done)
  simp only [VR] at hv
  subst hv
  simp [Instr.checkKey,bB hd]
 ·cases x<;>simp only at hx<;>try (cases hx; done)
  simp only [VR] at hv
  subst hv
  simp [Instr.checkKey,bB hd]
 ·rename_i n e
  cases x<;>simp only at hx<;>try (cases hx; done)
  rename_i cs
  simp only [aaK,beq_iff_eq] at hx
  obtain⟨⟨⟨h1,h2⟩,h3⟩,h4⟩:=hx
  obtain⟨ns,rfl⟩:=iM h2
  simp only [VR] at hv
  obtain⟨xs,rfl,hxs⟩:=hv
  rw [Instr.checkKey]
  simp only [Sem.run_bind,bB hd,Result.andThen_ok]
  simp only [Std.Legacy.Range.forIn_eq_forIn_range',Std.Legacy.Range.size,Nat.sub_zero,Nat.add_one_sub_one,Nat.div_one]
  rw [n5 w _ (List.range' 0 n) (fun i hi=>?_)]
  ·rfl
  ·have Dq:i<ns.length:=by simp at hi h1; omega
   simp only [Sem.run_bind,dP h4,Result.andThen_ok,Nat.mul_one]
   rw [iE w (mg h3) (kP hxs) (aaL Dq)]
   simp only [Result.andThen_ok,one e _ (mg h3)]
   rfl
 ·rename_i fs
  cases x<;>simp only at hx<;>try (cases hx; done)
  rename_i cs
  simp only [aaK,beq_iff_eq,abN] at hx
  obtain⟨⟨⟨h1,h2⟩,h3⟩,h4⟩:=hx
  obtain⟨ns,rfl⟩:=iM h2
  simp only [VR] at hv
  obtain⟨xs,rfl,hxs⟩:=hv
  rw [Instr.checkKey]
  simp only [Sem.run_bind,bB hd,Result.andThen_ok]
  rw [←Array.forIn_toList]
  rw [n5 w _ fs.toList (fun f hf=>?_)]
  ·rfl
  ·obtain⟨i,hi,rfl⟩:=List.mem_iff_getElem.1 hf
   have hm:(fs.toList[i],i)∈fs.toList.zipIdx:=by rw [List.mem_zipIdx_iff_getElem?]; simp [hi]
   have hh:=aa1.1 h3 _ hm
   generalize fs.toList[i]=f at hh
   simp only [aaK,bne_iff_ne,ne_eq,beq_iff_eq] at hh
   obtain⟨⟨⟨f1,f2⟩,f3⟩,f4⟩:=hh
   have Dq:i<ns.length:=by simp at hi h1; omega
   rw [if_pos f1,f2]
   simp only [Sem.run_bind]
   rw [iE w (mg f3) (kP hxs) (aaL Dq)]
   simp only [Result.andThen_ok,one _ _ (mg f3)]
   rfl
end
end Go.R
