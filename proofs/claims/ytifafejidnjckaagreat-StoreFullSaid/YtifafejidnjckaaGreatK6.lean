/- Part of the proof: RBuf1, RBuf2, RBuf3, RBuf4, RBuf5, RG9, RFix, RGN, RGL, RSrt, RGS, RGC, RPT, RDV, RMB, RGR, RGM, QW, Q8, Q16, Q17. -/
import Derived.Test.YtifafejidnjckaaGreatK5
import Derived.Shelf.LaysM
import Derived.Shelf.Bytes.GrowAt
import Derived.Lib.ByteType
import Derived.Lib.BufferAt
import Derived.Lib.BufferKept
import Derived.Lib.Walk
import Derived.Lib.BufferWrite
import Derived.Lib.Hide
import Derived.WalkKit
import Derived.BigCall
import Derived.BigGuard
import Derived.KernelRfl
import Derived.Shelf.Sort.Plain
import Derived.Shelf.Slices.In.SortNone
import Derived.Shelf.Slices.CompactI
import Derived.Test.YtifafejidnjckaaGreatProg
set_option linter.unusedVariables false
set_option linter.unusedSimpArgs false
set_option maxRecDepth 100000
open Array renaming getElem?_eq_some_iff → afH, getElem?_modify → age
open Bool renaming and_eq_true → ae3, false_eq_true → afa, true_and → afP, not_true → afT
open Int renaming toNat_natCast → ae7
open List renaming getElem?_eq_some_iff → ae5, getElem?_eq_getElem → ae8, length_append → afb, length_cons → afc, mem_singleton → afd, drop_eq_getElem_cons → afe, getElem?_append_right → afg, replicate → afh, length_nil → afi, mem_of_getElem? → afj, mem_append → afk, length_map → afl, getElem?_append_left → afm, append_assoc → afn, map_append → afo, mem_cons → afq, all_eq_true → afr, map_cons → afs, getElem?_map → afv, drop_zero → afw, take_append_of_le_length → afy, nil_append → afz, take_of_length_le → afA, mem_append_left → afE, cons_append → afF, eq_nil_of_length_eq_zero → afG, length_set → afJ, getElem?_cons_zero → afK, length_take → afO, append_nil → afZ, getElem?_cons_succ → af1, getElem?_of_mem → af4, set_append_right → agf, mem_cons_of_mem → agj, take_append_drop → agu
open Nat renaming le_refl → ae4, zero_add → aft, lt_succ_self → afL, beq → afN, le_trans → afV, add_sub_cancel_left → afX, mul_le_mul_right → af2, sub_self → aga, le_succ → agb, lt_succ_of_lt → agx, ble → agB, min_eq_left → agC, zero_lt_one → agD
open Option renaming bind_some → aeZ, bind_eq_some_iff → ae0, map_eq_some_iff → ae1, map_some → ae6, getD_some → af6
open Option.some renaming injEq → ae2, inj → afB
open Or renaming inr → agv
open Prod.mk renaming injEq → ae9
namespace Go.R
open Go Go.Proofs Go.Shelf Go.RowKit
variable {P:Program}{ρ:Ren}
end Go.R
namespace Go.R
open Go Go.Proofs Go.Shelf Go.RowKit
variable {P:Program}{ρ:Ren}
end Go.R
namespace Go.R
open Go Go.Proofs Go.Shelf Go.RowKit
variable {P:Program}{ρ:Ren}
end Go.R
namespace Go.R
open Go Go.Proofs Go.Shelf Go.RowKit
theorem Fr.none {c:Cx}{L0:Nat→Prop}(hrel:HRel c L0):Fr L0 c none0 (fun _=>0) [] ⟨fun _=>.any,fun _=>none,c.h⟩ ⟨#[],[]⟩:=
 ⟨rfl,by rw [show un L0 none0=L0 from by funext b; simp [un,none0]]; exact hrel,fun t=>by simp [SR,VR],fun k cs h=>(by cases h),fun k k' h=>(by cases h),fun t k off _ h=>(by cases h),rfl,fun b h=>h.elim⟩
end Go.R
namespace Go.R
open Go Go.Proofs Go.Shelf Go.RowKit
theorem intr_cons {P:Program}{f0:FuncId}{g0:List AV→AHeap→Option (AV × AHeap)}{intr:FuncId→Option (List AV→AHeap→Option (AV × AHeap))}(h0:CallOK P fun f' args h=>if f'=f0 then g0 args h else none)
  (hs:∀args h r h',g0 args h=some (r,h')→Steady h h') (h:IntrOK P intr):IntrOK P fun f=>if f=f0 then some g0 else intr f:=by
 intro f g hg
 dsimp only at hg
 split at hg
 ·rename_i hf
  subst hf
  cases hg
  exact⟨h0,hs⟩
 ·exact h f g hg
end Go.R
namespace Go.R
open Go
section
variable {h:AHeap}{L:Mem}{e:TypeId}{id i:Nat}{bs news r:List Int}{c:Int}{s:ByteArray}
variable {cf:CallF}{f:FuncId}
end
def jn {α β:Type}(b:α→Option β)(a:(α→Option β)→Option β):Option β:=a b
theorem kX {α β:Type}{b:α→Option β}{a:(α→Option β)→Option β}{out:β}(H:jn b a=some out):∃j:α→Option β,(∀x,j x=b x)∧a j=some out:=⟨b,fun _=>rfl,H⟩
section
variable {P:Program}{cf:CallF}{A:bX}{m:Nat}{s:St}{Q:Ex→St→Prop}
theorem er {c:Code}(fs:List (AV × AHeap))(zs:NF)(lK:St)(p:Prop)(h:qu P cf A c fs zs s=some (p,lK))(hp:p)(hQ:Q .norm lK):dB P cf A m c s Q:=Dv h hp hQ
end
theorem aQ {α β:Type}{o:Option α}{f:α→Option β}{b:β}(h:o.bind f=some b):∃a,o=some a∧f a=some b:=ae0.1 h
theorem ifp {α:Type}{c:Bool}{a b z:α}(h:c=true)(H:(if c=true then a else b)=z):a=z:=(if_pos h).symm.trans H
theorem ifn {α:Type}{c:Bool}{a b z:α}(h:c=false)(H:(if c=true then a else b)=z):b=z:=(if_neg (Og h)).symm.trans H
abbrev mU (l:List AV):List AV:=.any :: .any :: .any::l
abbrev lW (l:List AV):List AV:=.any::mU l
abbrev wz (l:List AV):List AV:=.any::lW l
abbrev yh (l:List AV):List AV:=.any::wz l
abbrev EY (l:List AV):List AV:=.any::yh l
abbrev wA (l:List AV):List AV:=.any::EY l
abbrev Ot (l:List AV):List AV:=.any::wA l
abbrev zB (l:List AV):List AV:=.any::Ot l
abbrev ss (l:List AV):List AV:=.any::zB l
abbrev BI (l:List AV):List AV:=.any::ss l
abbrev DC (l:List AV):List AV:=.any::BI l
abbrev yi (l:List AV):List AV:=.any::DC l
abbrev Q2 (l:List AV):List AV:=.any::yi l
abbrev FF (l:List AV):List AV:=.any::Q2 l
abbrev Q3 (l:List AV):List AV:=.any::FF l
abbrev Q9 (l:List AV):List AV:=.any::Q3 l
abbrev Ra (l:List AV):List AV:=.any::Q9 l
abbrev Uj (l:List AV):List AV:=.any::Ra l
abbrev Rb (l:List AV):List AV:=.any::Uj l
abbrev Uk (l:List AV):List AV:=.any::Rb l
abbrev Ul (l:List AV):List AV:=.any::Uk l
abbrev Xl (l:List AV):List AV:=.any::Ul l
abbrev Rc (l:List AV):List AV:=.any::Xl l
abbrev Um (l:List AV):List AV:=.any::Rc l
abbrev Re (l:List AV):List AV:=.any::Um l
abbrev Xm (l:List AV):List AV:=.any::Re l
abbrev Un (l:List AV):List AV:=.any::Xm l
abbrev Xn (l:List AV):List AV:=.any::Un l
abbrev Xo (l:List AV):List AV:=.any::Xn l
abbrev Xp (l:List AV):List AV:=.any::Xo l
abbrev Xq (l:List AV):List AV:=.any::Xp l
abbrev Xr (l:List AV):List AV:=.any::Xq l
end Go.R
namespace Go.R
open Go
def zC {X:Type}(F:CallF→Option X):Prop:=∀cf x,F cf=some x→∃l:List (FuncId × List AV × AHeap × (AV × AHeap)),(∀e∈l,cf e.1 e.2.1 e.2.2.1=some e.2.2.2)∧∀G3:CallF,(∀e∈l,G3 e.1 e.2.1 e.2.2.1=some e.2.2.2)→F G3=some x
theorem bT {X:Type}(x:Option X):zC fun _=>x:=by
 intro cf y h
 refine⟨[],?_,fun _ _=>h⟩
 intro e he; cases he
theorem KZ (f:FuncId)(args:List AV)(h:AHeap):zC fun cf=>cf f args h:=by
 intro cf x hx
 refine⟨[(f,args,h,x)],?_,fun G3 h'=>h' (f,args,h,x) (afd.2 rfl)⟩
 intro e he; cases (afd.1 he); exact hx
theorem fR {X Y:Type}{F:CallF→Option X}{G:X→CallF→Option Y}(hF:zC F)(hG:∀y,zC (G y)):zC fun cf=>(F cf).bind fun y=>G y cf:=fun cf z hz=>by
 obtain⟨y,h1,h2⟩:=ae0.1 hz
 obtain⟨l1,a1,b1⟩:=hF cf y h1
 obtain⟨l2,a2,b2⟩:=hG y cf z h2
 refine⟨l1++l2,fun e he=>(afk.1 he).elim (a1 e) (a2 e),fun G3 h'=>?_⟩
 have e1:=b1 G3 fun e he=>h' e (afE _ he)
 have e2:=b2 G3 fun e he=>h' e (List.mem_append_right _ he)
 show (F G3).bind _=_
 rw [e1,aeZ,e2]
theorem BJ {X Y:Type}{F:CallF→Option X}{g:X→Y}(hF:zC F):zC fun cf=>(F cf).map g:=by
 intro cf x hx
 obtain⟨y,h1,h2⟩:=ae1.1 hx
 obtain⟨l,a,b⟩:=hF cf y h1
 refine⟨l,a,fun G3 h'=>?_⟩
 show (F G3).map g=some x
 rw [b G3 h',ae6,h2]
theorem me {X:Type}{c:Prop}[Decidable c]{F G:CallF→Option X}(hF:zC F)(hG:zC G):zC fun cf=>if c then F cf else G cf:=by
 by_cases h:c
 ·simp only [h,if_true]; exact hF
 ·simp only [h,if_false]; exact hG
section
variable {P:Program}{aS ds:List Nat}
theorem tz {X:Type}{F:CallF→Option X}(h:∀cf G3,F cf=F G3):zC F:=by
 intro cf x hx
 refine⟨[],?_,fun G3 _=>(h G3 cf).trans hx⟩
 intro e he; cases he
theorem G4 (e:Operand→AV)(s:RS)(o:Oper):zC fun cf=>E9 P cf aS ds e s o:=by
 obtain⟨dst,op,type,pos,after,guard⟩:=o
 cases op with
 | call c=>
  obtain⟨callee,args,at_⟩:=c
  cases callee with
  | value f=>
   simp only [E9]
   cases e f with
   | fn f cap=>exact me (BJ (fR (KZ _ _ _) fun y=>bT _)) (bT _)
   | _=>exact bT _
  | _=>exact tz fun _ _=>rfl
 | makeFunc fn first cap=>cases fn<;>exact tz fun _ _=>rfl
 | makeMap t r=>cases r<;>exact tz fun _ _=>rfl
 | _=>exact tz fun _ _=>rfl
theorem Jc (ops:List Oper)(s:RS)(o:Oper):zC fun cf=>pY P cf aS ops s o:=by
 refine fR (bT (jN ops s.ρ o)) fun w=>?_
 exact me (G4 _ _ _) (bT _)
theorem DD (ops:List Oper):∀(os:List Oper) (s:RS),zC fun cf=>wi P cf aS ops s os
 | [],s=>bT _
 | o::os,s=>fR (Jc ops s o) fun s'=>DD ops os s'
theorem DE (ops:List Oper):∀(os:List Oper) (s:RS),zC fun cf=>sU P cf aS ops s os
 | [],s=>bT _
 | o::os,s=>fR (bT (jN ops s.ρ o)) fun w=>fR (me (G4 _ _ _) (bT _)) fun s1=>BJ (DE ops os s1)
theorem FG (ops:Array Oper)(s:RS):zC fun cf=>mu P cf aS ops s:=by
 unfold mu
 exact me (fR (DE _ _ _) fun x=>bT _) (bT _)
theorem Aj {f:CallF→St→Option (Ex × St)}(hf:∀s,zC fun cf=>f cf s):∀(n:Nat) (s:St),zC fun cf=>nL (f cf) n s
 | 0,s=>bT _
 | n+1,s=>fR (hf s) fun x=>by
  obtain⟨x,s'⟩:=x
  cases x with
  | norm=>exact Aj hf n s'
  | _=>exact bT _
theorem lA (A:bX)(n:Nat):∀(c:Code) (s:St),zC fun cf=>cb P cf A n c s
 | .skip,s=>by simp only [cb]; exact bT _
 | .label _,s=>by simp only [cb]; exact bT _
 | .ret,s=>by simp only [cb]; exact bT _
 | .exit _,s=>by simp only [cb]; exact bT _
 | .seq a b,s=>by
  simp only [cb]
  exact fR (lA A n a s) fun x=>by
   obtain⟨x,s'⟩:=x
   cases x with
   | norm=>exact lA A n b s'
   | _=>exact bT _
 | .cond k x y,s=>by
  simp only [cb]
  exact fR (bT _) fun t=>me (lA A n x s) (lA A n y s)
 | .block id b,s=>by simp only [cb]; exact BJ (lA A n b s)
 | .loop b,s=>by simp only [cb]; exact Aj (fun s=>lA A n b s) n s
 | .region r ops draw,s=>by
  simp only [cb]
  exact fR (bT _) fun s=>fR (me (FG _ _) (DD _ _ _)) fun s'=>bT _
 | .rangeFunc ..,s=>by simp only [cb]; exact bT _
 | .scope _,s=>by simp only [cb]; exact bT _
 | .goto _,s=>by simp only [cb]; exact bT _
 | .refuse _,s=>by simp only [cb]; exact bT _
theorem mj (aX:FuncId→bX)(m:Nat)(f:FuncId)(args:List AV)(h:AHeap):zC fun cf=>ba P aX cf m f args h:=by
 unfold ba
 refine fR (bT _) fun fn=>fR (bT _) fun c=>me (fR (lA _ _ _ _) fun x=>bT _) (bT _)
end
def vR (P:Program)(T:rM)(m:Nat)(cf:CallF):CallF:=fun f args h=>
 match T.intr f with
 | some g=>g args h
 | none=>
  match T.pure f with
  | some deep=>if T.gm f then (bK h deep args).bind fun us=>(ba P T.aX cf m f us bC).bind fun x=>(eC h.next x.1).map fun r=>(r,h.gm x.2) else
    if dH args then (ba P T.aX cf m f (en args) bC).bind fun x=>(cK x.2 deep x.1).map fun r=>(r,h) else
    match bK h deep args with
    | some zs=>(ba P T.aX cf m f zs bC).bind fun x=>(iT x.2 deep x.1).map fun r=>(r,h)
    | none=>ba P T.aX cf m f (args.map aP) h
  | none=>ba P T.aX cf m f (args.map aP) h
section
variable {P:Program}{T:rM}{m:Nat}
theorem Ak (f:FuncId)(args:List AV)(h:AHeap):zC fun cf=>vR P T m cf f args h:=by
 unfold vR
 cases T.intr f with
 | some g=>exact bT _
 | none=>
  cases T.pure f with
  | none=>exact mj _ _ _ _ _
  | some deep=>
   refine me (fR (bT _) fun us=>fR (mj _ _ _ _ _) fun x=>bT _) ?_
   refine me (fR (mj _ _ _ _ _) fun x=>bT _) ?_
   cases bK h deep args with
   | none=>exact mj _ _ _ _ _
   | some zs=>exact fR (mj _ _ _ _ _) fun x=>bT _
theorem yj:∀(n:Nat) (f:FuncId) (args:List AV) (h:AHeap) (x:AV × AHeap),gK P T m n f args h=some x→gK P T m (n+1) f args h=some x
 | 0,f,args,h,x,hc=>by simp [gK] at hc
 | n+1,f,args,h,x,hc=>by
  obtain⟨l,h1,h2⟩:=Ak (P:=P) (T:=T) (m:=m) f args h _ _ hc
  exact h2 (gK P T m (n+1)) fun e he=>yj n _ _ _ _ (h1 e he)
theorem tA {n k:Nat}(hk:n≤k){f:FuncId}{args:List AV}{h:AHeap}{x:AV × AHeap}(hc:gK P T m n f args h=some x):gK P T m k f args h=some x:=by
 induction hk with
 | refl=>exact hc
 | step _ ih=>exact yj _ _ _ _ _ ih
open Classical in
noncomputable def lk (P:Program)(T:rM)(m:Nat):CallF:=fun f args h=>if H:∃x n,gK P T m n f args h=some x then some (Classical.choose H) else none
theorem nT {f:FuncId}{args:List AV}{h:AHeap}{x:AV × AHeap}:lk P T m f args h=some x↔∃n,gK P T m n f args h=some x:=by
 have key:∀(H:∃x n,gK P T m n f args h=some x) (n:Nat),gK P T m n f args h=some x→Classical.choose H=x:=fun H n hn=>by
  obtain⟨k,hk⟩:=Classical.choose_spec H
  have h1:=tA (Nat.le_max_left n k) hn
  have h2:=tA (Nat.le_max_right n k) hk
  rw [h1] at h2
  exact (afB h2).symm
 unfold lk
 constructor
 ·intro hc
  split at hc
  ·rename_i H
   obtain⟨n,hn⟩:=Classical.choose_spec H
   cases hc
   exact⟨n,hn⟩
  ·cases hc
 ·rintro⟨n,hn⟩
  have H:∃x n,gK P T m n f args h=some x:=⟨x,n,hn⟩
  rw [dif_pos H,key H n hn]
theorem Jd (l:List (FuncId × List AV × AHeap × (AV × AHeap)))(hl:∀e∈l,lk P T m e.1 e.2.1 e.2.2.1=some e.2.2.2):∃n,∀e∈l,gK P T m n e.1 e.2.1 e.2.2.1=some e.2.2.2:=by
 induction l with
 | nil=>exact⟨0,fun e he=>by cases he⟩
 | cons a l ih=>
  obtain⟨n,hn⟩:=ih fun e he=>hl e (agj _ he)
  obtain⟨k,hk⟩:=nT.1 (hl a List.mem_cons_self)
  refine⟨max n k,fun e he=>?_⟩
  rcases afq.1 he with rfl | he
  ·exact tA (Nat.le_max_right n k) hk
  ·exact tA (Nat.le_max_left n k) (hn e he)
theorem nU {f:FuncId}{args:List AV}{h:AHeap}{x:AV × AHeap}(hc:vR P T m (lk P T m) f args h=some x):lk P T m f args h=some x:=by
 obtain⟨l,h1,h2⟩:=Ak (P:=P) (T:=T) (m:=m) f args h _ _ hc
 obtain⟨n,hn⟩:=Jd l h1
 exact nT.2 ⟨n+1,h2 (gK P T m n) hn⟩
theorem La (hP:Fit P)(vM:IntrOK P T.intr):CallOK P (lk P T m):=fun f args h r h' hc=>by
 obtain⟨n,hn⟩:=nT.1 hc
 exact tm hP vM m n f args h r h' hn
theorem aW:Has bC []:=⟨fun j i c h=>by simp at h,fun j j' i c c' h=>by simp at h,agD⟩
end
section
variable {P:Program}{T:rM}{m f deep:Nat}{h:AHeap}{xs ys:List AV}{y:AV}{x:AV × AHeap}
theorem BK (h1:T.intr f=none)(h2:T.pure f=some deep)(h3:T.gm f=false)(hd:jx+b5≤deep)(hx:yc xs ys)(hb:∃r h',ba P T.aX (lk P T m) m f ys bC=some (r,h')∧Oh h' r y):lk P T m f xs h=some (y,h):=by
 obtain⟨r,h',hb,hf⟩:=hb
 refine nU ?_
 have hd:jx+4503599627370496≤deep:=afV (Nat.add_le_add_left (by decide) _) hd
 simp only [vR,h1,h2,h3,afa,if_false,hx.1,if_true,hx.2,hb,aeZ,hf deep hd,ae6]
theorem bj (h1:T.intr f=none)(h2:T.pure f=some deep)(h3:T.gm f=false)(hd:jx+b5≤deep)(hx:aZ b5 h xs ys)(hb:∃r h',ba P T.aX (lk P T m) m f ys bC=some (r,h')∧fG h' r y):lk P T m f xs h=some (y,h):=by
 have h4:=hx deep hd
 have NA:jx+4503599627370496≤deep:=afV (Nat.add_le_add_left (by decide) _) hd
 by_cases hn:dH xs=true
 ·have:=jB deep xs ys hn h4
  obtain⟨r,h',hb,hf⟩:=hb
  exact BK h1 h2 h3 hd ⟨hn,this.symm⟩ ⟨r,h',hb,hf.JP⟩
 ·obtain⟨r,h',hb,hf⟩:=hb
  refine nU ?_
  simp only [vR,h1,h2,h3,afa,if_false,hn,h4,hb,aeZ,hf deep NA,ae6]
theorem gG (h1:T.intr f=none)(h2:T.pure f=none)(hx:xs.map aP=ys)(hb:ba P T.aX (lk P T m) m f ys h=some x):lk P T m f xs h=some x:=by
 refine nU ?_
 simp only [vR,h1,h2,hx,hb]
theorem Ou {g:List AV→AHeap→Option (AV × AHeap)}(h1:T.intr f=some g)(hx:g xs h=some x):lk P T m f xs h=some x:=by
 refine nU ?_
 simp only [vR,h1,hx]
theorem yk {g:List AV→AHeap→Option (AV × AHeap)}(h1:T.intr f=some g):lk P T m f xs h=g xs h:=by
 cases hg:g xs h with
 | some x=>exact Ou h1 hg
 | none=>
  cases hc:lk P T m f xs h with
  | none=>rfl
  | some x=>
   obtain⟨n,hn⟩:=nT.1 hc
   cases n with
   | zero=>simp [gK] at hn
   | succ n=>simp only [gK,h1,hg] at hn; cases hn
end
end Go.R
namespace Go.R
open Go
def bl:List ai→List Nat→List (ai × Nat)
 | [],_=>[]
 | n::ns,ids=>(n,ids.headD 0)::bl ns ids.tail
def JU (ids:List Nat)(i:Int):Nat:=ids.getD i.toNat 0
def BL (ns:List ai)(ids:List Nat):List Nat:=(bl ns ids).map fun p=>p.2
def eM:bY (ai × Nat):={n:=4,f:=fun x=>[.int .i64 x.1.kind,.int .i64 x.1.int,.str x.1.label,.rs x.2 0 x.1.args.length 1],len:=fun _=>rfl,pos:=by decide,flat:=false,pure:=fun _ h=>(by cases h),canon:=fun _=>rfl}
def DF (p:ai × Nat):Nat × Ct:=(p.2,.sl p.1.args.length 1 (ae.l p.1.args))
def fQ (ns:List ai)(ids:List Nat):Mem:=(bl ns ids).map DF
theorem fH:∀(ns:List ai) (ids:List Nat),(bl ns ids).length=ns.length
 | [],_=>rfl
 | n::ns,ids=>by simp [bl,fH ns]
theorem yl (ids:List Nat):ids.headD 0=ids.getD 0 0:=by cases ids<;>rfl
theorem Al (ids:List Nat)(i:Nat):ids.tail.getD i 0=ids.getD (i+1) 0:=by cases ids<;>simp
theorem qz:∀(ns:List ai) (ids:List Nat) (i:Nat) (n:ai),ns[i]? = some n→(bl ns ids)[i]? = some (n,ids.getD i 0)
 | [],_,i,n,h=>by simp at h
 | a::ns,ids,0,n,h=>by
  simp only [afK,ae2] at h
  subst h
  show (some (a,ids.headD 0):Option (ai × Nat))=some (a,ids.getD 0 0)
  rw [yl]
 | a::ns,ids,i+1,n,h=>by
  simp only [af1] at h
  have:=qz ns ids.tail i n h
  simp only [bl,af1,this,Al]
theorem kn {ns:List ai}{ids:List Nat}{i:Int}{n:ai}(h:ix ns i=some n):ix (bl ns ids) i=some (n,JU ids i):=by
 obtain⟨h0,h1,h2⟩:=iV h
 unfold ix JU
 rw [if_pos h0,qz ns ids _ _ h2]
theorem ym:∀(ns:List ai) (ids:List Nat) (n:ai) (ad:Nat),bl (ns++[n]) (BL ns ids++[ad])=bl ns ids++[(n,ad)]
 | [],ids,n,ad=>rfl
 | a::ns,ids,n,ad=>by
  have:=ym ns ids.tail n ad
  simp only [BL,bl,afs,afF,List.headD_cons,List.tail_cons] at this ⊢
  rw [this]
theorem yn:∀(ns:List ai) (ids:List Nat) (i:Nat) (n:ai),bl (ns.set i n) ids=(bl ns ids).set i (n,ids.getD i 0)
 | [],_,_,_=>rfl
 | a::ns,ids,0,n=>by
  show (n,ids.headD 0)::bl ns ids.tail=(n,ids.getD 0 0)::bl ns ids.tail
  rw [yl]
 | a::ns,ids,i+1,n=>by
  have:=yn ns ids.tail i n
  simp only [List.set_cons_succ,bl,this,Al]
theorem Ov (ns:List ai)(ids:List Nat)(n:ai)(ad:Nat):fQ (ns++[n]) (BL ns ids++[ad])=fQ ns ids++[DF (n,ad)]:=by
 unfold fQ; rw [ym,afo]; rfl
theorem Ow (ns:List ai)(ids:List Nat)(i:Nat)(n:ai):fQ (ns.set i n) ids=(fQ ns ids).set i (DF (n,ids.getD i 0)):=by
 unfold fQ; rw [yn,List.map_set]
theorem Has.perm {h:AHeap}{K K':Mem}(o:Has h K)(p:K'.Perm K):Has h K':=by
 have hP:K.Pairwise fun a b=>a.1≠0→a.1≠b.1:=by
  rw [List.pairwise_iff_getElem]
  intro i j hi hj CN h0 he
  have:=o.nd i j K[i].1 K[i].2 K[j].2 (by rw [ae8 hi]) (by rw [ae8 hj,he]) h0
  omega
 have Xs:K'.Pairwise fun a b=>a.1≠0→a.1≠b.1:=(p.pairwise_iff (fun {a b} h h0 he=>h (by rw [←he]; exact h0) he.symm)).2 hP
 rw [List.pairwise_iff_getElem] at Xs
 refine⟨fun j i c hj=>?_,fun j j' i c c' hj EX h0=>?_,o.pos⟩
 ·obtain⟨j',EX⟩:=af4 (p.mem_iff.1 (afj hj))
  exact o.at_ j' i c EX
 ·obtain⟨a1,a2⟩:=ae5.1 hj
  obtain⟨b1,b2⟩:=ae5.1 EX
  rcases Nat.lt_trichotomy j j' with hl | hl | hl
  ·have:=Xs j j' a1 b1 hl
   rw [a2,b2] at this
   exact absurd rfl (this h0)
  ·exact hl
  ·have:=Xs j' j b1 a1 hl
   rw [a2,b2] at this
   exact absurd rfl (this h0)
section
variable {P:Program}{t t2 tf:TypeId}{h:AHeap}{pre L:Mem}{ns r:List ai}{ids:List Nat}{i ad k n2:Nat}{j a v:Int}{n:ai}
theorem uF (hx:ix ns j=some n):(pre++(fQ ns ids++L))[pre.length+j.toNat]? = some (JU ids j,.sl n.args.length 1 (ae.l n.args)):=by
 obtain⟨h0,h1,h2⟩:=iV hx
 rw [afg (by omega),afX]
 have hl:j.toNat<(fQ ns ids).length:=by unfold fQ; rw [afl,fH]; omega
 rw [afm hl]
 unfold fQ
 rw [afv,qz ns ids _ _ h2]
 rfl
theorem Has.gone (o:Has h (pre++(fQ ns ids++L))):Has h (pre++L):=by
 refine o.sub (fun q=>if q<pre.length then q else q+(fQ ns ids).length) (fun q p hq=>?_) (fun q q' he=>?_)
 ·by_cases hl:q<pre.length
  ·rw [afm hl] at hq
   rw [if_pos hl,afm hl]; exact hq
  ·rw [afg (by omega)] at hq
   rw [if_neg hl,afg (by omega),afg (by omega),←hq]
   congr 1; omega
 ·split at he<;>split at he<;>omega
theorem Lb {b:Nat}{kind int:Int}{label:ByteArray}{args:List Int}{x:AV}(T:zA P t 4 b=true)(o:Has h ((i,.sl k 4 (eM.l (bl ns ids)))::(ad,.sl n2 1 (ae.l args))::(pre++(fQ ns ids++L))))
  (hx:eY h 4 x=some ([.int .i64 kind,.int .i64 int,.str label,.rs ad 0 n2 1],1)) (iD:kB P t2 x=true) (hr:app b ns [⟨kind,int,label,args⟩]=some r) :
  ∃i' Uo h',dM P h t t2 (.rs i 0 k 4) x=some (.rs i' 0 r.length 4,h')∧Has h' ((i',.sl r.length 4 (eM.l (bl r Uo)))::(pre++(fQ r Uo++L))):=by
 have hn:n2=args.length:=dN (E:=ae) o (q:=1) rfl
 subst hn
 obtain⟨_,_,rfl⟩:=xZ hr
 have Dh:app b (bl ns ids) [((⟨kind,int,label,args⟩:ai),ad)]=some (bl ns ids++[((⟨kind,int,label,args⟩:ai),ad)]):=by
  unfold app at hr ⊢
  rw [fH]
  split at hr
  ·rename_i hh
   simp only [afc,afi] at hh ⊢
   rw [if_pos hh]
  ·cases hr
 have N1:eY h eM.n x=some (eM.l [((⟨kind,int,label,args⟩:ai),ad)],[((⟨kind,int,label,args⟩:ai),ad)].length):=hx
 obtain⟨i',h',e,o'⟩:=dY (E:=eM) (l:=bl ns ids) (q:=0) T o rfl N1 iD Dh
 have e:dM P h t t2 (.rs i 0 k 4) x=some (.rs i' 0 (bl ns ids++[((⟨kind,int,label,args⟩:ai),ad)]).length 4,h'):=e
 refine⟨i',BL ns ids++[ad],h',?_,?_⟩
 ·rw [e,afb,afb,fH]; rfl
 ·rw [Ov,ym]
  have o':Has h' ((i',.sl (bl ns ids++[((⟨kind,int,label,args⟩:ai),ad)]).length 4 (eM.l (bl ns ids++[((⟨kind,int,label,args⟩:ai),ad)])))::DF (⟨kind,int,label,args⟩,ad)::(pre++(fQ ns ids++L))):=o'
  have el:(ns++[(⟨kind,int,label,args⟩:ai)]).length=(bl ns ids++[((⟨kind,int,label,args⟩:ai),ad)]).length:=by
   rw [afb,afb,fH]; rfl
  rw [el]
  refine o'.perm (List.Perm.cons _ ?_)
  have k1:pre++((fQ ns ids++[DF ((⟨kind,int,label,args⟩:ai),ad)])++L)=(pre++fQ ns ids)++DF (⟨kind,int,label,args⟩,ad)::L:=by simp
  have k2:pre++(fQ ns ids++L)=(pre++fQ ns ids)++L:=by simp
  rw [k1,k2]
  exact List.perm_middle
theorem Rf {old:Int}(o:Has h ((i,.sl k 4 (eM.l (bl ns ids)))::(pre++(fQ ns ids++L))))(hs:hH P tf=some 1)(hx:ix ns j=some n)(hk:ix n.args a=some old) :
  ∃h',kU P h tf (.ptr (JU ids j) (0+a.toNat*1)) (.int .i64 v)=some h'∧
   Has h' ((i,.sl k 4 (eM.l (bl (ns.set j.toNat ⟨n.kind,n.int,n.label,n.args.set a.toNat v⟩) ids)))::(pre++(fQ (ns.set j.toNat ⟨n.kind,n.int,n.label,n.args.set a.toNat v⟩) ids++L))):=by
 obtain⟨h0,h1,h2⟩:=iV hx
 have hq:=uF (pre:=(i,.sl k 4 (eM.l (bl ns ids)))::pre) (L:=L) (ids:=ids) hx
 obtain⟨h',e,o'⟩:=dJ (P:=P) (tf:=tf) (E:=ae) (l:=n.args) (v:=v) (x:=.int .i64 v) o hq hs hk rfl rfl
 refine⟨h',e,?_⟩
 have hl:j.toNat<(fQ ns ids).length:=by unfold fQ; rw [afl,fH]; omega
 have e1:eM.l (bl (ns.set j.toNat ⟨n.kind,n.int,n.label,n.args.set a.toNat v⟩) ids)=eM.l (bl ns ids):=by
  rw [yn]
  have hz:=qz ns ids _ _ h2
  have:=bY.KK (E:=eM) (l:=bl ns ids) (i:=j.toNat) (a:=(n,ids.getD j.toNat 0)) (b:=(⟨n.kind,n.int,n.label,n.args.set a.toNat v⟩,ids.getD j.toNat 0)) hz []
  have h3:=bY.KK (E:=eM) (l:=bl ns ids) (i:=j.toNat) (a:=(n,ids.getD j.toNat 0)) (b:=(n,ids.getD j.toNat 0)) hz []
  have hf:eM.f (⟨n.kind,n.int,n.label,n.args.set a.toNat v⟩,ids.getD j.toNat 0)=eM.f (n,ids.getD j.toNat 0):=by
   show [AV.int .i64 n.kind,.int .i64 n.int,.str n.label,.rs (ids.getD j.toNat 0) 0 (n.args.set a.toNat v).length 1]=_
   rw [afJ]; rfl
  rw [hf,h3] at this
  rw [afZ,afZ] at this
  rw [←this]
  congr 1
  obtain⟨g1,g2⟩:=ae5.1 hz
  rw [←g2,List.set_getElem_self]
 rw [e1,Ow]
 have e2:((((i,Ct.sl k 4 (eM.l (bl ns ids)))::pre)++(fQ ns ids++L)).set (((i,Ct.sl k 4 (eM.l (bl ns ids)))::pre).length+j.toNat) (JU ids j,.sl n.args.length ae.n (ae.l (n.args.set a.toNat v)))) =
   ((i,Ct.sl k 4 (eM.l (bl ns ids)))::pre)++((fQ ns ids).set j.toNat (DF (⟨n.kind,n.int,n.label,n.args.set a.toNat v⟩,ids.getD j.toNat 0))++L):=by
  rw [agf _ _ (by omega),afX,List.set_append_left _ _ hl]
  show _=((i,Ct.sl k 4 (eM.l (bl ns ids)))::pre)++((fQ ns ids).set j.toNat (ids.getD j.toNat 0,.sl (n.args.set a.toNat v).length 1 (ae.l (n.args.set a.toNat v)))++L)
  rw [afJ]; rfl
 have o2:Has h' ((((i,Ct.sl k 4 (eM.l (bl ns ids)))::pre)++(fQ ns ids++L)).set (((i,Ct.sl k 4 (eM.l (bl ns ids)))::pre).length+j.toNat) (JU ids j,.sl n.args.length ae.n (ae.l (n.args.set a.toNat v)))):=o'
 rw [e2] at o2
 exact o2
def dK:Nat:=2251799813685248
theorem DG:∀(ns:List ai) (ids:List Nat),(bl ns ids).map (fun p=>p.1)=ns
 | [],_=>rfl
 | n::ns,ids=>by simp [bl,DG ns]
theorem G5:∀(zs:List (ai × Nat)),(∀p∈zs,∀n,jx≤n→cK h n (.rs p.2 0 p.1.args.length 1)=some (ae.fz p.1.args))→∀n,jx+4*zs.length+1≤n→bK h n (eM.l zs)=some (af.l (zs.map fun p=>p.1))
 | [],_,n,hn=>by
  obtain⟨m,rfl⟩:∃m,n=m+1:=⟨n - 1,by omega⟩
  rfl
 | p::zs,hz,n,hn=>by
  obtain⟨m,rfl⟩:∃m,n=m+4+1:=⟨n - 5,by simp only [afc] at hn; simp only [jx] at hn; omega⟩
  simp only [afc] at hn
  have h1:=G5 zs (fun q hq=>hz q (by simp [hq])) (m+1) (by omega)
  have h2:=hz p (by simp) (m+1) (by omega)
  show bK h (m+4+1) (.int .i64 p.1.kind :: .int .i64 p.1.int :: .str p.1.label :: .rs p.2 0 p.1.args.length 1::eM.l zs)=some (.int .i64 p.1.kind :: .int .i64 p.1.int :: .str p.1.label::ae.fz p.1.args::af.l (zs.map fun p=>p.1))
  have a1:∀(n:Nat) (k:IntKind) (z:Int),cK h (n+1) (.int k z)=some (.int k z):=fun _ _ _=>rfl
  have a2:∀(n:Nat) (s:ByteArray),cK h (n+1) (.str s)=some (.str s):=fun _ _=>rfl
  rw [show m+4+1=(m+1+1+1+1)+1 by omega]
  simp only [bK,a1,a2,aeZ,h1,h2,ae6]
theorem Lc {q:Nat}(o:Has h (pre++(fQ ns ids++L)))(hq:(pre++(fQ ns ids++L))[q]? = some (i,.sl k 4 (eM.l (bl ns ids)))):mc dK h (.rs i 0 k 4) (af.fz ns):=by
 intro m hm
 have hk:k=(bl ns ids).length:=dN (E:=eM) o hq
 rw [fH] at hk
 subst hk
 obtain⟨⟨⟨hlen,uf⟩,nf⟩,hlt⟩:=o.at_ _ _ _ hq
 have hlen:(eM.l (bl ns ids)).length=ns.length*4:=hlen
 obtain⟨k,rfl,hk⟩:=oM (show jx≤m by omega)
 simp only [cK]
 rcases nf with⟨h0,h1⟩| ⟨h0,rest,h1⟩
 ·have:ns=[]:=by simpa using h1
  subst this
  simp [h0,bY.fz,bY.l]
 ·rw [if_neg h0,h1]
  simp only [aeZ]
  have e1:((eM.l (bl ns ids)++rest).drop 0).take (ns.length*4)=eM.l (bl ns ids):=by
   rw [afw,afy (by omega),afA (by omega)]
  rw [if_pos (by rw [afb,hlen]; omega),e1,G5 (bl ns ids) (fun p hp n hn=>?_) k (by rw [fH]; simp only [jx,dK] at hm ⊢; omega),DG]
  ·rfl
  ·obtain⟨j,hj,e⟩:=List.getElem_of_mem hp
   have T7:(pre++(fQ ns ids++L))[pre.length+j]? = some (p.2,.sl p.1.args.length 1 (ae.l p.1.args)):=by
    have hl:j<(fQ ns ids).length:=by unfold fQ; rw [afl]; exact hj
    rw [afg (by omega),afX,afm hl]
    unfold fQ
    rw [afv,ae8 hj,e]; rfl
   exact b4 (E:=ae) (l:=p.1.args) o T7 (fun _=>rfl) rfl n hn
end
end Go.R
namespace Go.R
open Go
inductive CO
 | b (i:Nat) {x y:Bool} (h:x=y)
 | v (i:Nat) {e:Option AV} {z:AV} (h:e=some z)
 | w (i:Nat) {e:Option AHeap} {g:AHeap} (h:e=some g)
 | a (i:Nat) {e:Option (AV × AHeap)} {z:AV} {g:AHeap} (h:e=some (z,g))
 | m (i:Nat) {e:AV × AHeap} {z:AV} {g:AHeap} (h:e=(z,g))
def CO.orc:CO→Nat × AV × Option AHeap
 | @b i x y h=>(i,.bool y,none)
 | @v i e z h=>(i,z,none)
 | @w i e g h=>(i,.any,some g)
 | @a i e z g h=>(i,z,some g)
 | @m i e z g h=>(i,z,some g)
def CO.fr:CO→AV × AHeap
 | @a i e z g h=>(z,g)
 | _=>(.any,bC)
def CO.p:CO→Prop
 | @b i x y h=>AV.bool x=AV.bool y
 | @v i e z h=>e=some z
 | @w i e g h=>e=some g
 | @a i e z g h=>e=some (z,g)
 | @m i e z g h=>e=(z,g)
theorem CO.ok:∀g:CO,g.p
 | @b i x y h=>congrArg AV.bool h
 | @v i e z h=>h
 | @w i e g h=>h
 | @a i e z g h=>h
 | @m i e z g h=>h
def DH:List CO→NF
 | []=>[]
 | g::gs=>g.orc::DH gs
def Je:List CO→List (AV × AHeap)
 | []=>[]
 | g::gs=>g.fr::Je gs
def ps:List CO→Prop
 | []=>True
 | g::gs=>g.p∧ps gs
theorem DI:∀gs,ps gs
 | []=>trivial
 | g::gs=>⟨g.ok,DI gs⟩
def cA:Code→Code
 | .seq a _=>a
 | .cond _ a _=>a
 | .block _ a=>a
 | .loop a=>a
 | _=>.skip
def cB:Code→Code
 | .seq _ b=>b
 | .cond _ _ b=>b
 | _=>.skip
def kd:Code→Nat
 | .skip=>0
 | .ret=>1
 | .seq _ _=>2
 | .loop _=>3
 | _=>9
def Xt:Code→Option Nat
 | .exit i=>some i
 | _=>none
def Xu:Code→Option Nat
 | .block i _=>some i
 | _=>none
def Xv (A:bX)(c:Code)(s:St):Option AV:=
 match c with
 | .cond k _ _=>some (ck (s.open A).ρ k)
 | _=>none
def nx (P:Program)(cf:CallF)(A:bX)(c:Code)(fs gs:List CO)(s:St):St:=((qu P cf A c (Je fs) (DH gs) s).map (·.2)).getD s
section
variable {P:Program}{cf:CallF}{A:bX}{m:Nat}{c:Code}{s:St}{Q R:Ex→St→Prop}
theorem JV (fs gs:List CO)(hQ:Q .norm (nx P cf A c fs gs s))(h:(qu P cf A c (Je fs) (DH gs) s).map (·.1)=some (ps fs∧ps gs):=by kernel_rfl):dB P cf A m c s Q:=by
 unfold nx at hQ
 obtain⟨⟨p,s'⟩,h1,rfl⟩:=ae1.1 h
 rw [h1] at hQ
 exact Dv h1 ⟨DI fs,DI gs⟩ hQ
theorem qr (gs:List CO)(hQ:Q .norm (nx P cf A c [] gs s))(h:(qu P cf A c [] (DH gs) s).map (·.1)=some (True∧ps gs):=by kernel_rfl):dB P cf A m c s Q:=JV [] gs hQ h
theorem q0 (hQ:Q .norm (nx P cf A c [] [] s))(h:(qu P cf A c [] [] s).map (·.1)=some (True∧True):=by kernel_rfl):dB P cf A m c s Q:=JV [] [] hQ h
theorem isq (h:kd c=2):c = .seq (cA c) (cB c):=by cases c<;>first | rfl | cases h
theorem qq (hQ:dB P cf A m (cA c) s (QS (fun s'=>dB P cf A m (cB c) s' Q) Q))(h:kd c=2:=by kernel_rfl):dB P cf A m c s Q:=by rw [isq h]; exact Du hQ
theorem qsf (fs gs:List CO)(hQ:dB P cf A m (cB c) (nx P cf A (cA c) fs gs s) Q)(h:kd c=2:=by kernel_rfl)(h2:(qu P cf A (cA c) (Je fs) (DH gs) s).map (·.1)=some (ps fs∧ps gs):=by kernel_rfl):dB P cf A m c s Q:=qq (JV fs gs hQ h2) h
theorem qs (gs:List CO)(hQ:dB P cf A m (cB c) (nx P cf A (cA c) [] gs s) Q)(h:kd c=2:=by kernel_rfl)(h2:(qu P cf A (cA c) [] (DH gs) s).map (·.1)=some (True∧ps gs):=by kernel_rfl):dB P cf A m c s Q:=qsf [] gs hQ h h2
theorem q1 (hQ:dB P cf A m (cB c) (nx P cf A (cA c) [] [] s) Q)(h:kd c=2:=by kernel_rfl)(h2:(qu P cf A (cA c) [] [] s).map (·.1)=some (True∧True):=by kernel_rfl):dB P cf A m c s Q:=qsf [] [] hQ h h2
theorem qk (hQ:Q .norm s)(h:kd c=0:=by kernel_rfl):dB P cf A m c s Q:=by
 have:c = .skip:=by cases c<;>first | rfl | cases h
 rw [this]; exact I1 hQ
theorem qt (hQ:Q .ret s)(h:kd c=1:=by kernel_rfl):dB P cf A m c s Q:=by
 have:c = .ret:=by cases c<;>first | rfl | cases h
 rw [this]; exact KG hQ
theorem qx (i:Nat)(hQ:Q (.exit i) s)(h:Xt c=some i:=by kernel_rfl):dB P cf A m c s Q:=by
 have:c = .exit i:=by cases c<;>first | (cases h; rfl) | cases h
 rw [this]; exact I2 hQ
theorem qb (i:Nat)(hQ:dB P cf A m (cA c) s (Xf i Q))(h:Xu c=some i:=by kernel_rfl):dB P cf A m c s Q:=by
 have:c = .block i (cA c):=by cases c<;>first | (cases h; rfl) | cases h
 rw [this]; exact Fz hQ
theorem qc {α:Type}{b:Bool}{x y z:Option α}(H:(if b=true then x else y)=z)(ht:b=true→x=z→dB P cf A m (cA c) s Q)(hf:b=false→y=z→dB P cf A m (cB c) s Q)(h:Xv A c s=some (.bool b):=by kernel_rfl):dB P cf A m c s Q:=by
 cases c<;>first | cases h | skip
 rename_i k a e
 exact uB b (afB h) (fun hb=>ht hb (ifp hb H)) (fun hb=>hf hb (ifn hb H))
theorem rW (hQ:dB P cf A m (cA c) s Q)(h:Xv A c s=some (.bool true):=by kernel_rfl):dB P cf A m c s Q:=by
 cases c<;>first | cases h | skip
 exact uB true (afB h) (fun _=>hQ) (fun hb=>by cases hb)
theorem zD (hQ:dB P cf A m (cB c) s Q)(h:Xv A c s=some (.bool false):=by kernel_rfl):dB P cf A m c s Q:=by
 cases c<;>first | cases h | skip
 exact uB false (afB h) (fun hb=>by cases hb) (fun _=>hQ)
theorem ql {c':Code}(h:dB P cf A m c' s Q)(k:∀e s',Q e s'→R e s')(hc:c=c':=by kernel_rfl):dB P cf A m c s R:=by rw [hc]; exact Ag h k
theorem qj {α β:Type}{S:α→St→Prop}(f:α→Option β){out:β}{z:Option β}(h0:z=some out)(hB:∀σ s,S σ s→f σ=some out→dB P cf A m (cB c) s Q)
  (hA:(∀σ s,S σ s→f σ=some out→dB P cf A m (cB c) s Q)→dB P cf A m (cA c) s (QS (fun s'=>dB P cf A m (cB c) s' Q) Q)) (h:kd c=2:=by kernel_rfl):dB P cf A m c s Q:=by
 rw [isq h]; exact Du (hA hB)
end
def cd {S O:Type}(P:Program)(cf:CallF)(A:bX)(m:Nat)(c:Code)(l:Nat→S→Option O)(R:S→St→Prop)(Q:O→Ex→St→Prop):Prop:=∀σ s out,R σ s→l m σ=some out→dB P cf A m (.loop c) s (Q out)
theorem jW {S O:Type}{P:Program}{cf:CallF}{A:bX}{m:Nat}{c:Code}{l:Nat→S→Option O}{R:S→St→Prop}{Q:O→Ex→St→Prop}(h0:∀σ,l 0 σ=none)
  (step:∀k σ s out,R σ s→l (k+1) σ=some out→dB P cf A m c s (KH l R Q k out)):cd P cf A m c l R Q:=fun _ _ _ hr H=>I3 l R Q h0 step hr H (fun _ _ _ h=>h)
def Rh:Nat→List Nat→List Nat
 | _,[]=>[]
 | k,x::xs=>bif afN (k % 2) 1 then x::Rh (k / 2) xs else Rh (k / 2) xs
def Up (keep:List Nat):Nat→List Nat→List (Nat × List Nat)
 | _,[]=>[]
 | r,k::ks=>(r,Rh k keep)::Up keep (r+1) ks
def gP (keep aS ms:List Nat)(JP Fa:List (Nat × List (Nat × Option Nat × Nat))):bX:={keep:=keep,aS:=aS,dead:=Up keep 0 ms,JP:=JP,Fa:=Fa}
theorem dZ {α:Type}{b:Bool}{x y z:α}(H:(if b=true then x else y)=z):(b=true∧x=z)∨(b=false∧y=z):=by
 cases b with
 | true=>exact .inl ⟨rfl,H⟩
 | false=>exact .inr ⟨rfl,H⟩
theorem oi {α:Type}{a b:α}(h:some a=some b):a=b:=afB h
theorem yo {P:Program}{A:bX}{s:St}{rs:List ResultVar}{y:AV}(av:AV)(g:AHeap)(h:fG g av y)(h1:aM P (s.open A) rs=some av:=by kernel_rfl)(h2:s.h=g:=by kernel_rfl):∃av,aM P (s.open A) rs=some av∧fG s.h av y:=⟨av,h1,h2 ▸ h⟩
theorem Xw {P:Program}{A:bX}{s:St}{rs:List ResultVar}{y:AV}(av:AV)(g:AHeap)(h:Oh g av y)(h1:aM P (s.open A) rs=some av:=by kernel_rfl)(h2:s.h=g:=by kernel_rfl):∃av,aM P (s.open A) rs=some av∧Oh s.h av y:=⟨av,h1,h2 ▸ h⟩
theorem he {g g':AHeap}{K:Mem}(o:Has g K)(h:g'=g:=by kernel_rfl):Has g' K:=h ▸ o
end Go.R
namespace Go.R
open Go Go.Proofs Go.Shelf Go.RowKit Go.Sort
def su:List AV→Option (List Int)
 | []=>some []
 | .int .i64 z::xs=>(su xs).map fun l=>z::l
 | _=>none
theorem qA:∀{xs:List AV} {l:List Int},su xs=some l→xs=l.map fun z=>.int .i64 z
 | [],l,h=>by cases h; rfl
 | x::xs,l,h=>by
  unfold su at h
  split at h
  ·rename_i e; cases e
  ·rename_i z ys e
   obtain⟨rfl,rfl⟩:=List.cons.inj e
   obtain⟨l',h1,rfl⟩:=ae1.1 h
   rw [qA h1]; rfl
  ·cases h
theorem yp:∀l:List Int,su (l.map fun z=>.int .i64 z)=some l
 | []=>rfl
 | z::l=>by simp only [afs,su,yp l,ae6]
def kG (l:List Int):List Int:=l.mergeSort fun x y=>decide (x≤y)
noncomputable def Ri (args:List AV)(h:AHeap):Option (AV × AHeap):=
 match args with
 | [.rs id 0 n 1]=>if n=0 then some (.tup [],h) else (h.get id).bind fun
  | .cells cs=>if n≤cs.length∧n<4611686018427387904 then (su (cs.take n)).map fun l=>(.tup [],h.put id (.cells ((kG l).map (fun z=>.int .i64 z)++cs.drop n))) else none
  | _=>none
 | _=>none
theorem Jf:∀args h r h',Ri args h=some (r,h')→Steady h h':=by
 intro args h r h' hs
 unfold Ri at hs
 split at hs
 ·split at hs
  ·cases hs; exact Steady.refl _
  ·rw [ae0] at hs
   obtain⟨o,_,hs⟩:=hs
   split at hs
   ·split at hs
    ·obtain⟨l,_,hs⟩:=ae1.1 hs
     cases hs; exact Steady.put _ _ _
    ·cases hs
   ·cases hs
 ·cases hs
section
variable {c:Cx}{L0:Nat→Prop}
theorem Jg (hrel:HRel c L0){id n:Nat}{cs:List AV}{l:List Int}(hid:c.h.get id=some (.cells cs))(hl:su (cs.take n)=some l):Holds (Value.int .i64) c.w (c.β id).1 (c.β id).2 l.toArray:=by
 obtain⟨m,⟨C,T,hC,hn⟩,hle,hcl⟩:=hrel.obj _ _ hid
 intro j hj
 have hj:j<l.length:=by simpa using hj
 have hx:cs[j]? = some (.int .i64 l[j]):=by
  have h1:(cs.take n)[j]? = some (.int .i64 l[j]):=by rw [qA hl,afv,ae8 hj]; rfl
  rw [List.getElem?_take] at h1
  split at h1
  ·exact h1
  ·cases h1
 obtain⟨v,h1,_,h3⟩:=hcl.get' j _ hx
 simp only [VR] at h3
 subst h3
 refine⟨by rw [h1]; simp [hj],by simp [World.frozen?,hC]⟩
theorem Ox (hrel:HRel c L0)(hbs:c.base≤c.w.heap.size){id n:Nat}{cs:List AV}{new:List Int}(hid:c.h.get id=some (.cells cs))(hn:n≤cs.length)(hnew:new.length=n)(q:Nat)(os:Array Obj) :
  let w':=grow (putRow (Value.int .i64) (Sort.ahead c.w q) (c.β id).1 (c.β id).2 new.toArray) os
  let c':Cx:=⟨c.β,c.h.put id (.cells (new.map (fun z=>.int .i64 z)++cs.drop n)),w',c.base⟩
  HRel c' L0∧Ext c none0 c' none0∧c'.len (c.β id).1=c.len (c.β id).1:=by
 intro w' c'
 have hun:un L0 none0=L0:=by funext b; simp [un,none0]
 have f:=Fr.none hrel
 obtain⟨m,⟨C,T,hC,hm⟩,hle,hcl⟩:=hrel.obj _ _ hid
 have hlive:Live c.h id:=⟨hrel.lt _ _ hid,by rw [hid]; rfl⟩
 have hblt:(c.β id).1<c.w.heap.size:=(afH.1 hC).1
 have wo:∀k,k<c.w.heap.size→w'.heap[k]? = if k=(c.β id).1 then some (.cells (putCells (Value.int .i64) (c.β id).2 new.toArray C) T (0,0)) else c.w.heap[k]?:=fun k hk=>by
  show (grow _ os).heap[k]? = _
  rw [heap_grow_old _ _ (by simp [putRow,mapBlock,Sort.ahead]; exact hk)]
  by_cases h:k=(c.β id).1
  ·subst h; simp [putRow,mapBlock,Sort.ahead,age,hC,onCells]
  ·have h2:(c.β id).1≠k:=fun e=>h e.symm
   simp [putRow,mapBlock,Sort.ahead,age,h,h2]
 have zi:w'.heap[(c.β id).1]? = some (.cells (putCells (Value.int .i64) (c.β id).2 new.toArray C) T (0,0)):=by rw [wo _ hblt,if_pos rfl]
 have hsz:(putCells (Value.int .i64) (c.β id).2 new.toArray C).size=C.size:=by simp [putCells]
 have hlen:((w'.shape? (c.β id).1).map (·.2)).getD 0=c.len (c.β id).1:=by
  simp only [Cx.len,World.shape?,zi,hC,ae6,af6,hsz]
 have Uq:c.w.heap.size≤w'.heap.size:=by
  show _≤(grow _ os).heap.size
  simp [grow,putRow,mapBlock,Sort.ahead]
 obtain⟨e2,f2⟩:=f.upd (w':=w') (β':=c.β) (h':=c.h.put id (.cells (new.map (fun z=>.int .i64 z)++cs.drop n))) id (.cells (new.map (fun z=>.int .i64 z)++cs.drop n)) (Steady.put _ _ _) (agx hlive.1) (by simp [AHeap.put,beq_nat])
  (fun j hj=>.inr ⟨by simp [AHeap.put,beq_nat,hj],rfl⟩) (fun _=>⟨hlive,rfl⟩) (.inr ⟨id,hlive,rfl,.inl rfl⟩)
  (fun _=>hlen) (fun k hk hne=>by rw [wo k hk,if_neg hne]) (fun k hk hne=>by rw [wo k (by omega),if_neg hne]) Uq hbs rfl rfl rfl
  (fun ee=>by
   refine⟨C.size,⟨_,T,zi,hsz⟩,by rw [afb,afl,List.length_drop,hnew]; omega,?_⟩
   rw [Cells.iff]
   intro i x hx
   show ∃v,w'.cell? _=some v∧_
   rw [cell_of_block zi]
   have hi:i<cs.length:=by
    have:=(ae5.1 hx).1
    rw [afb,afl,List.length_drop,hnew] at this; omega
   have hC2:(putCells (Value.int .i64) (c.β id).2 new.toArray C)[(c.β id).2+i]? = C[(c.β id).2+i]?.map fun x=>if (c.β id).2≤(c.β id).2+i∧(c.β id).2+i<(c.β id).2+new.toArray.size then Value.int .i64 new.toArray[(c.β id).2+i - (c.β id).2]! else x:=by
    unfold putCells; rw [Array.getElem?_mapIdx]
   rw [hC2]
   by_cases h:i<n
   ·rw [afm (by rw [afl,hnew]; exact h),afv,ae8 (by omega)] at hx
    simp only [ae6,ae2] at hx
    subst hx
    have hCi:(c.β id).2+i<C.size:=by omega
    rw [Array.getElem?_eq_getElem hCi]
    refine⟨.int .i64 new[i],?_,rfl,by simp [VR]⟩
    simp only [ae6,ae2]
    rw [if_pos ⟨by omega,by simp [hnew]; exact h⟩,afX]
    simp [show i<new.length by omega]
   ·rw [afg (by rw [afl,hnew]; omega),afl,hnew,List.getElem?_drop,show n+(i - n)=i by omega] at hx
    obtain⟨v,v1,v2,v3⟩:=hcl.get' i x hx
    rw [cell_of_block hC] at v1
    refine⟨v,?_,v2,?_⟩
    ·rw [v1]
     simp only [ae6,ae2]
     rw [if_neg (by simp [hnew]; omega)]
    ·have:=VR.ext ee (L0:=L0) x v (by rw [hun]; exact v3)
     exact this)
 exact⟨by have:=f2.rel; rwa [hun] at this,e2,hlen⟩
end
section
variable {P:Program}{ρ:Ren}
theorem Ur (L:Lays.n189 P ρ)(henter:∀(vs:Array Value) (w:World),(callFunc (ρ.f 189) vs).run P w = .ok (.enter (ρ.f 189) vs) w) :
  CallOK P fun f' args h=>if f'=ρ.f 189 then Ri args h else none:=by
 intro f args h r h' hc
 dsimp only at hc
 split at hc
 rotate_left
 ·cases hc
 rename_i hf
 subst hf
 refine⟨henter,fun L0 c vs hh hb0 hrel hargs=>?_⟩
 subst hh
 unfold Ri at hc
 split at hc
 rotate_left
 ·cases hc
 rename_i id n
 match vs,hargs with
 | [v1],⟨q1,_⟩=>
 split at hc
 ·rename_i hn
  subst hn
  cases hc
  have hs:∃a cap,v1 = .slice a 0 cap:=by
   simp only [VR] at q1
   rcases q1 with⟨_,_,_,a,rfl⟩| ⟨_,_,a,cap,rfl,_⟩
   ·exact⟨a,0,rfl⟩
   ·exact⟨a,cap,rfl⟩
  obtain⟨a,cap,rfl⟩:=hs
  refine (Any.slices_Sort_int_none L a cap c.w).mono ?_
  rintro e w' ⟨rfl,rfl⟩
  exact⟨c,_,rfl,rfl,rfl,by simp only [VR]; exact⟨#[],rfl,trivial⟩,hrel,Ext.refl _ _⟩
 ·rename_i hn
  rw [ae0] at hc
  obtain⟨o,hid,hc⟩:=hc
  split at hc
  rotate_left
  ·cases hc
  rename_i cs
  split at hc
  rotate_left
  ·cases hc
  rename_i hle
  obtain⟨l,hl,he⟩:=ae1.1 hc
  simp only [ae9] at he
  obtain⟨rfl,rfl⟩:=he
  have hlive:Live c.h id:=⟨hrel.lt _ _ hid,by rw [hid]; rfl⟩
  have hll:l.length=n:=by
   have:=congrArg List.length (qA hl)
   rw [afl,afO] at this; omega
  simp only [VR] at q1
  rcases q1 with⟨_,_,h0,_⟩| ⟨_,_,a,cap,rfl,h1,h2,h3⟩
  ·exact absurd h0 hn
  rcases h3 hlive with⟨rfl,h4⟩| h4
  rotate_left
  ·omega
  have hc:=Any.slices_Sort_int L (c.β id).1 (c.β id).2 cap l c.w (Jg hrel hid hl) (hrel.block hlive) (by omega)
  rw [hll] at hc
  refine hc.mono ?_
  rintro e w' ⟨rfl,q,os,rfl⟩
  have hsl:(kG l).length=n:=by unfold kG; rw [List.length_mergeSort,hll]
  obtain⟨g1,g2,_⟩:=Ox hrel hb0 hid hle.1 hsl q os
  exact⟨_,_,rfl,rfl,rfl,by simp only [VR]; exact⟨#[],rfl,trivial⟩,g1,g2⟩
end
end Go.R
namespace Go.R
open Go
def PO (cf:CallF)(f:FuncId):Prop:=∀args h,cf f args h=Ri args h
theorem uG (l:List Int):ae.l l=l.map fun z=>.int .i64 z:=by
 induction l with
 | nil=>rfl
 | cons a l ih=>rw [bY.gy,ih]; rfl
theorem rv (l:List Int):(kG l).length=l.length:=by unfold kG; rw [List.length_mergeSort]
section
variable {h:AHeap}{L:Mem}{i n:Nat}{l:List Int}{cf:CallF}{f:FuncId}
theorem Oy (o:Has h ((i,.sl n 1 (ae.l l))::L))(hn:n≠0):n=l.length∧i≠0∧l.length<4611686018427387904∧∃rest,h.get i=some (.cells (l.map (fun z=>.int .i64 z)++rest)):=by
 obtain⟨⟨⟨h1,h2⟩,h3⟩,_⟩:=o.at_ 0 _ _ rfl
 have hl:(ae.l l).length=l.length:=by rw [uG,afl]
 rw [hl] at h1 h2
 rcases h3 with⟨_,h⟩| ⟨h,rest,h4⟩
 ·exact absurd h hn
 ·rw [uG] at h4
  exact⟨by omega,h,by omega,rest,h4⟩
theorem Rj (o:Has h ((i,.sl 0 1 (ae.l l))::L)):l=[]:=by
 obtain⟨⟨⟨h1,_⟩,_⟩,_⟩:=o.at_ 0 _ _ rfl
 rw [uG,afl] at h1
 exact afG (by omega)
theorem Rk (S:PO cf f)(o:Has h ((i,.sl n 1 (ae.l l))::L)):∃h',cf f [.rs i 0 n 1] h=some (.tup [],h')∧Has h' ((i,.sl n 1 (ae.l (kG l)))::L):=by
 rw [S]
 by_cases hn:n=0
 ·subst hn
  have:=Rj o
  subst this
  have e:kG []=[]:=by simp [kG]
  exact⟨h,rfl,by rw [e]; exact o⟩
 ·obtain⟨h1,h2,h3,rest,h4⟩:=Oy o hn
  subst h1
  have et:(l.map (fun z=>AV.int .i64 z)++rest).take l.length=l.map fun z=>AV.int .i64 z:=by
   rw [afy (by simp),afA (by simp)]
  have ed:(l.map (fun z=>AV.int .i64 z)++rest).drop l.length=rest:=by
   have:=List.drop_left (l₁:=l.map fun z=>AV.int .i64 z) (l₂:=rest)
   rwa [afl] at this
  refine⟨h.put i (.cells ((kG l).map (fun z=>.int .i64 z)++rest)),?_,?_⟩
  ·unfold Ri
   simp only
   rw [if_neg hn,h4,aeZ]
   simp only
   rw [if_pos ⟨by simp,h3⟩,et,yp,ae6,ed]
  ·refine mb (q:=0) o rfl (ob:=.cells ((kG l).map (fun z=>.int .i64 z)++rest)) (c':=.sl l.length 1 (ae.l (kG l))) ⟨⟨?_,?_⟩,.inr ⟨h2,rest,by rw [dC,if_pos rfl,uG]⟩⟩
   ·rw [uG,afl,rv]; omega
   ·have:=(o.at_ 0 _ _ rfl).1.1.2
    rw [uG,afl] at this ⊢
    rw [rv]; exact this
end
end Go.R
namespace Go.R
open Go
def EZ (z:Nat)(args:List AV)(h:AHeap):Option (AV × AHeap):=
 match args with
 | [.nils]=>some (.rs 0 0 0 z,h)
 | [.fz cs n _]=>if n=0 then some (.rs 0 0 0 z,h) else if cs.length=n*z∧n*1024≤1099511627776 then some (.rs h.next 0 n z,h.alloc (.cells (cs.map mo))) else none
 | [.rs id 0 n z']=>if n=0 then some (.rs 0 0 0 z,h) else (h.get id).bind fun
  | .cells cs=>if z'=z∧n*z≤cs.length∧n*1024≤1099511627776 then some (.rs h.next 0 n z,h.alloc (.cells ((cs.take (n*z)).map mo))) else none
  | _=>none
 | _=>none
def Ld (cf:CallF)(f:FuncId)(z:Nat):Prop:=∀args h,cf f args h=EZ z args h
def NG (z:Nat){α:Type}(l:List α):Option (List α):=if l.length*1024≤1099511627776 then some l else none
theorem Le {z:Nat}{α:Type}{l r:List α}(h:NG z l=some r):l.length*1024≤1099511627776∧r=l:=by
 unfold NG at h
 split at h
 ·rename_i g; cases h; exact⟨g,rfl⟩
 ·cases h
section
variable {h:AHeap}{K:Mem}{i n q:Nat}{α:Type}{E:bY α}{l r:List α}{cf:CallF}{f:FuncId}
theorem Rl (o:Has h K)(hl:l≠[])(hb:l.length*1024≤1099511627776):Has (h.alloc (.cells (E.l l))) ((h.next,.sl l.length E.n (E.l l))::K):=
 o.new (fun k hk=>by rw [AHeap.alloc,dC,if_neg (by omega)]) (agb _) (.inr (ae4 _)) (afL _) ⟨⟨bY.b9,bY.oK (by omega)⟩,.inr ⟨by have:=o.pos; omega,[],by rw [AHeap.alloc,dC,if_pos rfl]; simp⟩⟩
theorem Oz (o:Has h K):Has h ((0,.sl ([]:List α).length E.n (E.l []))::K):=Has.nil o E.n
theorem Lf (S:Ld cf f E.n)(o:Has h K)(hr:NG E.n l=some r):∃i h',cf f [E.fz l] h=some (.rs i 0 r.length E.n,h')∧Has h' ((i,.sl r.length E.n (E.l r))::K):=by
 obtain⟨hb,rfl⟩:=Le hr
 rw [S]
 by_cases hl:r=[]
 ·subst hl
  exact⟨0,h,rfl,Oz o⟩
 ·have hn:r.length≠0:=fun e=>hl (afG e)
  refine⟨h.next,_,?_,Rl o hl hb⟩
  show EZ E.n [.fz (E.l r) r.length false] h=_
  unfold EZ
  simp only
  rw [if_neg hn,if_pos ⟨bY.b9,hb⟩,bY.xe]
end
end Go.R
namespace Go.R
open Go
section
variable {h:AHeap}{K:Mem}{i q off k:Nat}{cs ys:List AV}
theorem da (o:Has h K)(hq:K[q]? = some (i,.ob cs))(f:aZ k h cs ys):mc (k+1) h (.ptr i off) (.fp ys off):=fun n hn=>by
 obtain⟨m,rfl⟩:∃m,n=m+1:=⟨n - 1,by simp only [jx] at hn; omega⟩
 obtain⟨⟨_,h2⟩,_⟩:=o.at_ _ _ _ hq
 simp only [cK,h2,aeZ]
 rw [f m (by omega)]; rfl
theorem oT (hp:dH cs=true∧en cs=cs):(AV.fp cs off).fK=true∧(AV.fp cs off).lH = .fp cs off:=⟨by simpa [AV.fK] using hp.1,by show AV.fp (en cs) off=_; rw [hp.2]⟩
theorem gT (hp:dH cs=true∧en cs=cs):mc 0 h (.fp cs off) (.fp cs off):=nk (oT hp).1 (fun _=>rfl) (oT hp).2
end
def Jh {α:Type}(o:Option α)(i:Nat):AV:=
 match o with
 | none=>.rF
 | some _=>.ptr i 0
def Ji {α:Type}(o:Option α)(f:α→Mem):Mem:=
 match o with
 | none=>[]
 | some y=>f y
def Lg {α β:Type}(o:Option α)(n:Option β)(s:α→Option β):Option β:=
 match o with
 | none=>n
 | some y=>s y
theorem uH {α β:Type}{o:Option α}{n:Option β}{s:α→Option β}{z:Option β}(h:Lg o n s=z):(o=none∧n=z)∨∃y,o=some y∧s y=z:=by
 cases o with
 | none=>exact .inl ⟨rfl,h⟩
 | some y=>exact .inr ⟨y,rfl,h⟩
end Go.R
namespace Go.R
open Go
def wB:List (AHeap × AHeap × Nat)→Prop
 | []=>True
 | (h,h',i)::l=>h.ver i=h'.ver i∧wB l
theorem tB:∀{a b:List (AHeap × AHeap × Nat)},wB (a++b)→wB a∧wB b
 | [],b,h=>⟨trivial,h⟩
 | (_,_,_)::a,b,h=>by
  have:=tB (a:=a) h.2
  exact⟨⟨h.1,this.1⟩,this.2⟩
theorem DJ:∀{l:List Nat} {h h':AHeap},wB (l.map fun id=>(h,h',id))→∀id∈l,h.ver id=h'.ver id
 | i::l,h,h',hp,id,hm=>by
  rcases afq.1 hm with rfl | hm
  ·exact hp.1
  ·exact DJ hp.2 id hm
def Rm (x y:pD):Bool:=
 match x.f.wb with
 | some k=>!y.f.rb.contains k&&y.f.wb != some k
 | none=>true
def BM (x y:pD):Option (List (AHeap × AHeap × Nat)):=
 bif Rm x y then (bif x.f.wh then (bif y.f.wh then none else some (y.f.rh.map fun id=>(x.s.h,x.s'.h,id))) else some []) else none
theorem Am {x y:pD}{l:List (AHeap × AHeap × Nat)}(h:BM x y=some l)(hp:wB l):x.lQ y=true:=by
 have he:x.lQ y=(Rm x y&&(!x.f.wh||(!y.f.wh&&y.f.rh.all fun id=>afN (x.s.h.ver id) (x.s'.h.ver id)))):=rfl
 rw [he]
 unfold BM at h
 cases h1:Rm x y with
 | false=>rw [h1] at h; cases h
 | true=>
  rw [h1,cond_true] at h
  cases hw:x.f.wh with
  | false=>rfl
  | true=>
   rw [hw,cond_true] at h
   cases hy:y.f.wh with
   | true=>rw [hy] at h; cases h
   | false=>
    rw [hy,cond_false] at h
    cases h
    simp only [afT,Bool.false_or,Bool.not_false,afP,afr]
    intro id hid
    rw [DJ hp id hid,Nat.beq_refl]
def DK (ms:List Nat)(x:pD)(i:Nat):List (pD × Nat)→Option (List (AHeap × AHeap × Nat))
 | []=>some []
 | y::l=>bif agB y.2 i||(ms.getD y.2 0).testBit i then DK ms x i l else (BM x y.1).bind fun a=>(BM y.1 x).bind fun b=>(DK ms x i l).map fun c=>a++(b++c)
theorem Lh {ms:List Nat}{x:pD}{i:Nat}(l:List (pD × Nat)):∀{v:List (AHeap × AHeap × Nat)},DK ms x i l=some v→wB v→∀p∈l,(agB p.2 i||(ms.getD p.2 0).testBit i||(x.lQ p.1&&p.1.lQ x))=true:=by
 induction l with
 | nil=>intro v _ _ p hm; cases hm
 | cons y l ih=>
  intro v h hp p hm
  simp only [DK] at h
  cases hc:(agB y.2 i||(ms.getD y.2 0).testBit i) with
  | true=>
   rw [hc,cond_true] at h
   rcases afq.1 hm with rfl | hm
   ·rw [hc,Bool.true_or]
   ·exact ih h hp p hm
  | false=>
   rw [hc,cond_false] at h
   simp only [ae0,ae1] at h
   obtain⟨a,ha,b,hb,c,hc,rfl⟩:=h
   obtain⟨p1,p2⟩:=tB hp
   obtain⟨p2,p3⟩:=tB p2
   rcases afq.1 hm with rfl | hm
   ·rw [Am ha p1,Am hb p2,Bool.and_self,Bool.or_true]
   ·exact ih hc p3 p hm
def G6 (ms:List Nat)(all:List (pD × Nat)):List (pD × Nat)→Option (List (AHeap × AHeap × Nat))
 | []=>some []
 | x::l=>(DK ms x.1 x.2 all).bind fun a=>(G6 ms all l).map fun b=>a++b
theorem Li {ms:List Nat}{all:List (pD × Nat)}(l:List (pD × Nat)):∀{v:List (AHeap × AHeap × Nat)},G6 ms all l=some v→wB v→∀x∈l,∀p∈all,(agB p.2 x.2||(ms.getD p.2 0).testBit x.2||(x.1.lQ p.1&&p.1.lQ x.1))=true:=by
 induction l with
 | nil=>intro v _ _ x hm; cases hm
 | cons y l ih=>
  intro v h hp x hm
  simp only [G6,ae0,ae1] at h
  obtain⟨a,ha,b,hb,rfl⟩:=h
  obtain⟨p1,p2⟩:=tB hp
  rcases afq.1 hm with rfl | hm
  ·exact Lh all ha p1
  ·exact ih hb p2 x hm
def Rn (ops:List Oper)(arr:Array Oper)(s:RS)(es:List pD):Option (List (AHeap × AHeap × Nat)):=
 let ms:=lR [] ops
 let is:=es.zipIdx
 let A9:=is.filter fun (x,_)=>!x.f.quiet
 if rf arr ms&&A9.all (fun (x,i)=>w5 ms (ops.filterMap (·.dst)) s is x i) then G6 ms A9 A9 else none
theorem OA {P:Program}{cf:CallF}{aS:List Nat}{ops:Array Oper}{s r:RS}{es:List pD}{l:List (AHeap × AHeap × Nat)}(h:Rn ops.toList ops s es=some l)(hp:wB l)(hr:sU P cf aS ops.toList s ops.toList=some (es,r)):mu P cf aS ops s=some r:=by
 unfold Rn at h
 simp only at h
 split at h
 rotate_left
 ·cases h
 rename_i hc
 simp only [ae3] at hc
 obtain⟨h1,h2⟩:=hc
 unfold mu
 simp only [h1,if_true,hr,aeZ]
 rw [if_pos]
 rw [afr] at h2 ⊢
 intro x hx
 have a:=h2 x hx
 simp only [ae3] at a ⊢
 refine⟨a,?_⟩
 rw [afr]
 intro y hy
 exact Li _ h hp x hx y hy
def G7 (P:Program)(cf:CallF)(A:bX)(c:Code)(fs:List (AV × AHeap))(zs:NF)(st:St):Option ((Prop × Prop) × St):=
 match c with
 | .region id ops draw=>(wv (st.open A) (iS id A.JP) fs).bind fun (s0,p0)=>(wu P cf A.aS ops.toList s0 0 ops.toList zs).bind fun (es,r,p)=>
   bif draw then (Rn ops.toList ops s0 es).bind fun l=>(nK r (iS id A.Fa)).map fun r2=>((p0∧p,wB l),r2.pZ A id) else none
 | _=>none
theorem Lj {P:Program}{cf:CallF}{A:bX}{m:Nat}{c:Code}{fs:List (AV × AHeap)}{zs:NF}{st lK:St}{p q:Prop}(h:G7 P cf A c fs zs st=some ((p,q),lK))(hp:p)(hq:q):cb P cf A m c st=some (.norm,lK):=by
 unfold G7 at h
 split at h
 rotate_left
 ·cases h
 rename_i id ops draw
 simp only [ae0] at h
 obtain⟨⟨s0,p0⟩,h0,⟨es,r,p1⟩,h1,h⟩:=h
 cases draw with
 | false=>cases h
 | true=>
  simp only [cond_true,ae0,ae1,ae9] at h
  obtain⟨l,hl,r2,h2,⟨rfl,rfl⟩,rfl⟩:=h
  obtain⟨g1,g2⟩:=BA h1 hp.2
  have g0:=xc h0 hp.1
  simp only [cb,g0,aeZ,if_true,OA hl hq g1,h2,ae6]
inductive Vg
 | mk {h h':AHeap} {i:Nat} (e:h.ver i=h'.ver i)
def Vg.t:Vg→AHeap × AHeap × Nat
 | @mk h h' i e=>(h,h',i)
theorem Lk:∀vs:List Vg,wB (vs.map Vg.t)
 | []=>trivial
 | @Vg.mk h h' i e::vs=>⟨e,Lk vs⟩
def nxD (P:Program)(cf:CallF)(A:bX)(c:Code)(fs gs:List CO)(s:St):St:=((G7 P cf A c (Je fs) (DH gs) s).map (·.2)).getD s
section
variable {P:Program}{cf:CallF}{A:bX}{m:Nat}{c:Code}{s:St}{Q R:Ex→St→Prop}
theorem Ro (fs gs:List CO)(vs:List Vg)(hQ:Q .norm (nxD P cf A c fs gs s))(h:(G7 P cf A c (Je fs) (DH gs) s).map (·.1)=some (ps fs∧ps gs,wB (vs.map Vg.t)):=by kernel_rfl):dB P cf A m c s Q:=by
 unfold nxD at hQ
 obtain⟨⟨p,s'⟩,h1,rfl⟩:=ae1.1 h
 rw [h1] at hQ
 exact⟨.norm,s',Lj h1 ⟨DI fs,DI gs⟩ (Lk vs),hQ⟩
end
section
variable {P:Program}{h h':AHeap}{K:Mem}{i j n z q q2:Nat}{c:Ct}{cs:List AV}{x y:AV}{t t2:TypeId}
theorem BN {o:AObj}(hj:j≠i):h.ver j=(h.put i o).ver j:=by
 simp only [AHeap.put,beq_nat]
 simp [hj]
theorem DL (hj:j≠i):h.ver j=(h.kill i).ver j:=by
 simp only [AHeap.kill,beq_nat]
 simp [hj]
theorem OB {s:AV}(e:dM P h t t2 s x=some (y,h'))(hs:∀i off n z,s = .rs i off n z→j≠i)(hj:j≠h.next):h.ver j=h'.ver j:=by
 have ha:∀o:AObj,h.ver j=(h.alloc o).ver j:=fun o=>BN hj
 unfold dM at e
 simp only [ae0] at e
 obtain⟨u,hu,e⟩:=e
 split at e
 rotate_left
 ·cases e
 simp only [ae0] at e
 obtain⟨inf,hi,⟨new,m⟩,hc,e⟩:=e
 split at e
 ·cases e
 split at e
 ·split at e
  ·cases e
  ·split at e
   ·cases e; rfl
   ·cases e; exact ha _
 ·split at e
  ·cases e
  ·split at e
   ·split at e<;>(cases e; rfl)
   ·cases e; exact ha _
 ·rename_i id off len kA
  have hne:=hs _ _ _ _ rfl
  split at e
  ·split at e
   ·cases e
   ·split at e
    ·cases e; rfl
    ·cases e; exact ha _
  ·simp only [ae0] at e
   obtain⟨ob,ho,e⟩:=e
   split at e
   rotate_left
   ·cases e
   split at e
   ·cases e
   ·split at e
    ·cases e; rfl
    ·cases e
     exact (DL hne).trans (BN hj)
 ·cases e
theorem yq (o:Has h K)(hq:K[q]? = some (i,c))(Ll:K[q2]? = some (j,.ob cs))(hne:q≠q2)(e:dM P h t t2 (.rs i 0 n z) x=some (y,h')):h.ver j=h'.ver j:=by
 obtain⟨⟨h1,_⟩,h2⟩:=o.at_ _ _ _ Ll
 refine OB e (fun i' _ _ _ he=>?_) (by omega)
 cases he
 intro hji
 subst hji
 exact hne (o.nd _ _ _ _ _ hq Ll h1)
end
theorem Lm {cf:CallF}{f:FuncId}{z:Nat}{h h':AHeap}{K:Mem}{q2 j:Nat}{cs:List AV}{x y:AV}(S:Ld cf f z)(o:Has h K)(Ll:K[q2]? = some (j,.ob cs))(e:cf f [x] h=some (y,h')):h.ver j=h'.ver j:=by
 obtain⟨⟨h1,_⟩,h2⟩:=o.at_ _ _ _ Ll
 have ha:∀o:AObj,h.ver j=(h.alloc o).ver j:=fun o=>BN (Nat.ne_of_lt h2)
 rw [S] at e
 unfold EZ at e
 split at e
 ·cases e; rfl
 ·split at e
  ·cases e; rfl
  ·split at e
   ·cases e; exact ha _
   ·cases e
 ·split at e
  ·cases e; rfl
  ·rw [ae0] at e
   obtain⟨ob,ho,e⟩:=e
   split at e
   ·split at e
    ·cases e; exact ha _
    ·cases e
   ·cases e
 ·cases e
theorem Us {x:Option (AV × AHeap)}{a:AV}{h:AHeap}{z:AV × AHeap}(h1:x=some (a,h))(h2:kP 0 h a=some z):x.bind (fun x=>kP 0 x.2 x.1)=some z:=by rw [h1]; exact h2
theorem Rp {P:Program}{h:AHeap}{K:Mem}{q i t e n:Nat}{inf:TypeInfo}{l:List Int}{j:Int}(ht:P.underlying t=some (.slice e))(hi:P.info? e=some inf)(hs:inf.size=1)(hz:jX P e=some (.int .i64 0))(o:Has h K)(hq:K[q]? = some (i,.sl n 1 (ae.l l)))(h0:0≤j)(h1:j≤(l.length:Int)) :
  ∃h',oB P h t (.rs i (0+j.toNat*1) (n - j.toNat) 1)=some h'∧Has h' (K.set q (i,.sl n 1 (ae.l (l.take j.toNat++afh (l.length - j.toNat) 0)))):=by
 have hn:n=l.length:=dN (E:=ae) o hq
 subst hn
 have hll:(l.take j.toNat++afh (l.length - j.toNat) 0).length=l.length:=by simp; omega
 unfold oB
 rw [ht,aeZ]
 simp only
 by_cases hl:l.length - j.toNat=0
 ·refine⟨h,by rw [if_pos hl],?_⟩
  have:l.take j.toNat++afh (l.length - j.toNat) 0=l:=by rw [hl,List.replicate_zero,afZ,afA (by omega)]
  rw [this]
  have hK:K.set q (i,.sl l.length 1 (ae.l l))=K:=by
   obtain⟨g1,g2⟩:=ae5.1 hq
   rw [←g2,List.set_getElem_self]
  rw [hK]; exact o
 ·rw [if_neg hl]
  obtain⟨⟨⟨hlen,uf⟩,nf⟩,hlt⟩:=o.at_ _ _ _ hq
  rcases nf with⟨_,h5⟩| ⟨h5,rest,h6⟩
  ·omega
  rw [if_neg h5]
  simp only [hi,hz,h6,aeZ,hs]
  have hr1:jU [AV.int .i64 0] (l.length - j.toNat)=ae.l (afh (l.length - j.toNat) 0):=by
   generalize l.length - j.toNat=k
   induction k with
   | zero=>rfl
   | succ k ih=>show [AV.int .i64 0]++jU [AV.int .i64 0] k=_; rw [ih]; rfl
  rw [if_pos ⟨trivial,rfl,by decide,rfl,by rw [afb,hlen]; omega⟩]
  refine⟨_,rfl,?_⟩
  refine mb o hq ?_
  have Gy:(ae.l (l.take j.toNat++afh (l.length - j.toNat) 0)).length=l.length*1:=(bY.b9 (E:=ae)).trans (by rw [hll]; rfl)
  refine⟨⟨Gy,by rw [Gy]; rw [hlen] at uf; exact uf⟩,.inr ⟨h5,rest,?_⟩⟩
  rw [dC,if_pos rfl]
  congr 2
  show eO (ae.l l++rest) (0+j.toNat*1) (jU [AV.int .i64 0] (l.length - j.toNat))=_
  rw [hr1,bY.j7]
  have Rq:=ka (ae.l (l.drop j.toNat)) (ae.l (afh (l.length - j.toNat) 0)) (ae.l (l.take j.toNat)) rest (by
   rw [bY.b9,bY.b9]; simp)
  rw [←bY.j7,agu] at Rq
  have hp:(ae.l (l.take j.toNat)).length=0+j.toNat*1:=by
   rw [bY.b9]; show _*1=_; simp; omega
  rw [hp] at Rq
  exact Rq
end Go.R
namespace Go.R
open Go
def aas (P:Program)(t:TypeId):Bool:=
 match P.underlying t with
 | some (.map kt et)=>(P.underlying kt matches some (.int .i64))&&(match jX P et with | some (.bool b)=>!b | _=>false)
 | _=>false
structure uI where
 a0:Int
 a1:Int
def xh:bY uI:={n:=2,f:=fun x=>[.int .i64 x.a0,.int .i64 x.a1],len:=fun _=>rfl,pos:=by decide,pure:=fun x _=>pure_cons eu (pure_cons eu pure_nil),canon:=fun _=>rfl}
section
variable {P:Program}{h:AHeap}{K:Mem}{i q n b:Nat}{t t2:TypeId}{α:Type}{E:bY α}{l r s:List α}{x:AV}
def Ut {α:Type}(l s:List α):Option (List α):=if s.length≤l.length then some (s++l.drop s.length) else none
theorem OC (T:zA P t E.n b=true)(o:Has h K)(hq:K[q]? = some (i,.sl n E.n (E.l l)))(hc:fi h E.n x=some (E.l s,s.length))(iD:kB P t2 x=true)(sK:(E.l s).all AV.cL=true)(hr:Ut l s=some r) :
  ∃h',vu P h t t2 (.rs i 0 n E.n) x=some (.int .i64 s.length,h')∧Has h' (K.set q (i,.sl n E.n (E.l r))):=by
 have hn:=dN o hq
 subst hn
 unfold Ut at hr
 split at hr
 rotate_left
 ·cases hr
 rename_i hle
 cases hr
 obtain⟨e,inf,g1,g2,g3,g4,g5,g6⟩:=kV T
 obtain⟨⟨⟨hlen,uf⟩,nf⟩,hlt⟩:=o.at_ _ _ _ hq
 have hll:(s++l.drop s.length).length=l.length:=by simp; omega
 simp only [vu,g1,aeZ,g2,g3,hc,iD,Bool.true_eq_false,if_false]
 rcases nf with⟨h0,h1⟩| ⟨h0,rest,h1⟩
 ·have hl0:l=[]:=by simpa using h1
  subst hl0
  have hs0:s=[]:=by cases s with | nil=>rfl | cons _ _=>simp at hle
  subst hs0
  refine⟨h,by simp [h0],?_⟩
  have hK:K.set q (i,.sl ([]:List α).length E.n (E.l ([]++([]:List α).drop ([]:List α).length)))=K:=by
   obtain⟨g1,g2⟩:=ae5.1 hq
   show K.set q (i,.sl ([]:List α).length E.n (E.l []))=K
   rw [←g2,List.set_getElem_self]
  rw [hK]; exact o
 ·rw [if_neg h0,h1]
  simp only [aeZ]
  rw [if_pos ⟨trivial,hle,by
   rw [afb,hlen,aft]
   exact afV (af2 _ hle) (Nat.le_add_right _ _)⟩]
  refine⟨_,rfl,mb o hq ⟨⟨by rw [bY.b9,hll],by rw [bY.b9,hll,←hlen]; exact uf⟩,.inr ⟨h0,rest,?_⟩⟩⟩
  rw [dC,if_pos rfl]
  congr 2
  have Rq:=ka (E.l (l.take s.length)) (E.l s) [] (E.l (l.drop s.length)++rest) (by rw [bY.b9,bY.b9,afO,agC hle])
  simp only [afz,afi] at Rq
  rw [←afn,←bY.j7,agu] at Rq
  rw [Rq,bY.j7,afn]
theorem Rr:fi h E.n (E.fz l)=some (E.l l,l.length):=by
 simp only [fi,bY.fz]
 rw [if_pos bY.b9]
end
theorem Uu:∀l:List Int,(ae.l l).all AV.cL=true:=fun l=>by
 induction l with
 | nil=>rfl
 | cons a l ih=>rw [bY.gy,List.all_append,ih]; rfl
section
variable {P:Program}{h:AHeap}{K:Mem}{i q n b:Nat}{t:TypeId}{α:Type}{E:bY α}{l:List α}{j:Int}{k:IntKind}
def SY (l:List Int)(j:Int):Option (List Int):=if 0≤j∧j≤l.length then some (l.take j.toNat++afh (l.length - j.toNat) 0) else none
theorem yr {l r:List Int}{j:Int}(h:SY l j=some r):0≤j∧j≤l.length∧r=l.take j.toNat++afh (l.length - j.toNat) 0:=by
 unfold SY at h
 split at h
 ·rename_i g; cases h; exact⟨g.1,g.2,rfl⟩
 ·cases h
theorem Rs (T:zA P t E.n b=true)(o:Has h K)(hq:K[q]? = some (i,.sl n E.n (E.l l)))(h0:0≤j)(h1:j≤(l.length:Int)):oz P t (.rs i 0 n E.n) (some (.int k j)) none none=some (.rs i (0+j.toNat*E.n) (n - j.toNat) E.n):=by
 have hn:=dN o hq
 subst hn
 obtain⟨e,inf,g1,g2,g3,g4,g5,g6⟩:=kV T
 simp only [oz,g1,aeZ,g6,if_true,mY]
 rw [if_pos ⟨h0,by omega⟩]
 simp only [aeZ,ae6,ae7]
def Xx (P:Program)(t:TypeId):Bool:=
 match P.underlying t with
 | some (.slice e)=>(match P.info? e with | some inf=>inf.size==1 | none=>false)&&(match jX P e with | some (.int .i64 z)=>z==0 | _=>false)
 | _=>false
theorem Rt {l r:List Int}(T:Xx P t=true)(o:Has h K)(hq:K[q]? = some (i,.sl n 1 (ae.l l)))(hr:SY l j=some r) :
  ∃h',(oB P h t (.rs i (0+j.toNat*1) (n - j.toNat) 1)).map (fun h=>(AV.tup [],h))=some (AV.tup [],h')∧Has h' (K.set q (i,.sl n 1 (ae.l r))):=by
 obtain⟨h0,h1,rfl⟩:=yr hr
 unfold Xx at T
 split at T
 rotate_left
 ·cases T
 rename_i e ht
 simp only [ae3] at T
 obtain⟨T1,T2⟩:=T
 split at T1
 rotate_left
 ·cases T1
 rename_i inf hi
 split at T2
 rotate_left
 ·cases T2
 rename_i z hz
 simp only [beq_iff_eq] at T1 T2
 subst T2
 obtain⟨h',e1,o1⟩:=Rp ht hi T1 hz o hq h0 h1
 exact⟨h',by rw [e1]; rfl,o1⟩
end
section
variable {h:AHeap}{f k k2:Nat}{cs ys:List AV}
theorem yt (g:aZ k h cs ys):mc (k+1) h (.fn f cs) (.fn f ys):=fun n hn=>by
 obtain⟨m,rfl⟩:∃m,n=m+1:=⟨n - 1,by simp only [jx] at hn; omega⟩
 simp only [cK]
 rw [g m (by omega)]; rfl
theorem aZ.mono {k k':Nat}{x y:List AV}(hk:k≤k')(f:aZ k h x y):aZ k' h x y:=fun n hn=>f n (by omega)
theorem ll {xs:List AV}(f:aZ k h xs ys)(hk:k≤dK:=by decide):aZ dK h xs ys:=aZ.mono hk f
theorem Ln:∀{us bs cs ys:List AV} {k1 k2:Nat},aZ k1 h us bs→aZ k2 h cs ys→aZ (k1+k2+us.length+1) h (us++cs) (bs++ys)
 | [],bs,cs,ys,k1,k2,f,g=>fun n hn=>by
  have:=f (jx+k1) (ae4 _)
  have hb:bs=[]:=by
   cases hm:jx+k1 with
   | zero=>simp [jx] at hm
   | succ m=>rw [hm] at this; simp only [bK,ae2] at this; exact this.symm
  subst hb
  exact g n (by omega)
 | a::us,bs,cs,ys,k1,k2,f,g=>fun n hn=>by
  have h1:=f (jx+k1) (ae4 _)
  obtain⟨m,rfl⟩:∃m,n=m+1:=⟨n - 1,by simp only [jx] at hn; omega⟩
  have hb:∃b Uv,bs=b::Uv:=by
   cases hm:jx+k1 with
   | zero=>simp [jx] at hm
   | succ m=>
    rw [hm] at h1
    simp only [bK,ae0,ae1] at h1
    obtain⟨y,_,zs,_,e⟩:=h1
    exact⟨y,zs,e.symm⟩
  obtain⟨b,Uv,rfl⟩:=hb
  have key:∀n',jx+k1≤n'+1→cK h n' a=some b∧bK h n' us=some Uv:=fun n' WX=>by
   have:=f (n'+1) WX
   simp only [bK,ae0,ae1] at this
   obtain⟨y,hy,zs,hz,e⟩:=this
   cases e
   exact⟨hy,hz⟩
  have f2:aZ k1 h us Uv:=fun n' WX=>(key n' (by omega)).2
  have:=Ln f2 g m (by simp only [afc] at hn; omega)
  show bK h (m+1) (a::(us++cs))=some (b::(Uv++ys))
  simp only [bK]
  rw [(key m (by omega)).1,this]
  rfl
theorem PQ {us bs:List AV}{k:Nat}(f:aZ k h us bs)(g:aZ dK h cs ys)(hk:k≤500:=by decide)(hl:us.length≤400:=by simp):aZ b5 h (us++cs) (bs++ys):=(Ln f g).mono (by
 have:k+dK+us.length+1≤dK+1001:=by omega
 exact afV this (by decide))
end
theorem Lp {α:Type}{E:bY α}{l:List α}{h h':AHeap}{K:Mem}{q q2 i j n:Nat}{cs:List AV}{y:AV}(o:Has h K)(hq:K[q]? = some (i,.sl n E.n (E.l l)))(Ll:K[q2]? = some (j,.ob cs))(e:kP 0 h (.rs i 0 n E.n)=some (y,h'))(hp:E.flat=true:=by rfl):h.ver j=h'.ver j:=by
 have hn:=dN o hq
 subst hn
 obtain⟨⟨⟨hlen,uf⟩,nf⟩,hlt⟩:=o.at_ _ _ _ hq
 obtain⟨⟨hj,_⟩,_⟩:=o.at_ _ _ _ Ll
 have hne:j≠i:=by
  intro he
  subst he
  have:=o.nd _ _ _ _ _ hq Ll hj
  subst this
  rw [hq] at Ll
  cases Ll
 simp only [kP] at e
 rcases nf with⟨h0,h1⟩| ⟨h0,rest,h1⟩
 ·rw [if_pos h0,if_pos h1] at e
  cases e; rfl
 ·rw [if_neg h0,h1] at e
  simp only [aeZ] at e
  have e1:((E.l l++rest).drop 0).take (l.length*E.n)=E.l l:=by
   rw [afw,afy (by rw [hlen]; exact ae4 _),afA (by rw [hlen]; exact ae4 _)]
  rw [e1,if_pos (by rw [afb,hlen]; omega),rm (bY.so hp).1] at e
  cases e
  exact DL hne
end Go.R
namespace Go.R
open Go
def rX (k i:Nat):Nat:=if i=0 then 0 else i+k
theorem An {k i off n z:Nat}:eC k (.rs i off n z)=some (.rs (rX k i) off n z):=by
 unfold eC rX
 split<;>rfl
theorem tC {k:Nat}:dA k []=some []:=rfl
theorem iE {k:Nat}{x y:AV}{xs ys:List AV}(a:eC k x=some y)(b:dA k xs=some ys):dA k (x::xs)=some (y::ys):=by
 simp only [dA,a,b,aeZ,ae6]
theorem Lq {k:Nat}{xs ys:List AV}(b:dA k xs=some ys):eC k (.agg xs)=some (.agg ys):=by
 simp only [eC,b,ae6]
theorem Lr {k:Nat}{xs ys:List AV}(b:dA k xs=some ys):eC k (.tup xs)=some (.tup ys):=by
 simp only [eC,b,ae6]
theorem qB {k:Nat}:∀{a a' b b':List AV},dA k a=some a'→dA k b=some b'→dA k (a++b)=some (a'++b')
 | [],a',b,b',h1,h2=>by simp only [dA,ae2] at h1; subst h1; exact h2
 | x::a,a',b,b',h1,h2=>by
  simp only [dA,ae0,ae1] at h1
  obtain⟨y,h3,ys,h4,rfl⟩:=h1
  exact iE h3 (qB h4 h2)
theorem sv {k:Nat}:∀{a a':List AV} (r:List AV),dA k a=some a'→iB k (a++r)=a'++iB k r
 | [],a',r,h1=>by simp only [dA,ae2] at h1; subst h1; rfl
 | x::a,a',r,h1=>by
  simp only [dA,ae0,ae1] at h1
  obtain⟨y,h3,ys,h4,rfl⟩:=h1
  have e:iB k (x::(a++r))=y::iB k (a++r):=by rw [iB,h3]
  show iB k (x::(a++r))=(y::ys)++iB k r
  rw [e,sv r h4]; rfl
theorem vS {k:Nat}:∀{a a':List AV},dA k a=some a'→a'.length=a.length
 | [],a',h1=>by simp only [dA,ae2] at h1; subst h1; rfl
 | x::a,a',h1=>by
  simp only [dA,ae0,ae1] at h1
  obtain⟨y,h3,ys,h4,rfl⟩:=h1
  rw [afc,afc,vS h4]
def Xy (k:Nat):Nat × Ct→Nat × Ct→Prop
 | (i,.sl n z cs),b=>∃gF,dA k cs=some gF∧b=(rX k i,.sl n z gF)
 | (i,.ob cs),b=>∃gF,dA k cs=some gF∧b=(rX k i,.ob gF)
 | _,_=>False
inductive JW (k:Nat)(L:Mem):Mem→Mem→Prop
 | nil:JW k L [] L
 | cons {a b:Nat × Ct} {K K':Mem} (e:Xy k a b) (g:JW k L K K'):JW k L (a::K) (b::K')
section
variable {k i n z:Nat}{L K K':Mem}{α:Type}{E:bY α}{l:List α}
theorem Uw (hE:∀a,dA k (E.f a)=some (E.f a)):∀l:List α,dA k (E.l l)=some (E.l l)
 | []=>rfl
 | a::l=>by rw [bY.gy]; exact qB (hE a) (Uw hE l)
theorem G8 (hE:∀a,dA k (E.f a)=some (E.f a))(g:JW k L K K'):JW k L ((i,.sl n z (E.l l))::K) ((rX k i,.sl n z (E.l l))::K'):=.cons ⟨_,Uw hE l,rfl⟩ g
theorem Ls:∀(ns:List ai) (ids:List Nat),dA k (eM.l (bl ns ids))=some (eM.l (bl ns (ids.map (rX k))))
 | [],_=>rfl
 | a::ns,ids=>by
  have h1:(ids.map (rX k)).headD 0=rX k (ids.headD 0):=by cases ids<;>rfl
  have h2:(ids.map (rX k)).tail=ids.tail.map (rX k):=by cases ids<;>rfl
  show dA k (eM.f (a,ids.headD 0)++eM.l (bl ns ids.tail))=some (eM.f (a,(ids.map (rX k)).headD 0)++eM.l (bl ns (ids.map (rX k)).tail))
  rw [h1,h2]
  exact qB (iE rfl (iE rfl (iE rfl (iE An tC)))) (Ls ns ids.tail)
theorem PR {ns:List ai}{ids:List Nat}(g:JW k L K K'):JW k L ((i,.sl n z (eM.l (bl ns ids)))::K) ((rX k i,.sl n z (eM.l (bl ns (ids.map (rX k)))))::K'):=.cons ⟨_,Ls ns ids,rfl⟩ g
theorem FH:∀{ns:List ai} {ids:List Nat},JW k L K K'→JW k L (fQ ns ids++K) (fQ ns (ids.map (rX k))++K')
 | [],_,g=>g
 | a::ns,ids,g=>by
  have h1:(ids.map (rX k)).headD 0=rX k (ids.headD 0):=by cases ids<;>rfl
  have h2:(ids.map (rX k)).tail=ids.tail.map (rX k):=by cases ids<;>rfl
  show JW k L (DF (a,ids.headD 0)::(fQ ns ids.tail++K)) (DF (a,(ids.map (rX k)).headD 0)::(fQ ns (ids.map (rX k)).tail++K'))
  rw [h1,h2]
  exact G8 (E:=ae) (fun _=>rfl) (FH g)
end
theorem Ru {k:Nat}{L K K':Mem}(g:JW k L K K'):∃K2,K'=K2++L∧K2.length=K.length∧∀(j:Nat) b,K2[j]? = some b→∃a,K[j]? = some a∧Xy k a b:=by
 induction g with
 | nil=>exact⟨[],rfl,rfl,fun j b h=>by simp at h⟩
 | cons e g ih=>
  rename_i a b K K'
  obtain⟨K2,rfl,h2,h3⟩:=ih
  refine⟨b::K2,rfl,by rw [afc,afc,h2],fun j c hj=>?_⟩
  cases j with
  | zero=>simp only [afK,ae2] at hj; subst hj; exact⟨a,rfl,e⟩
  | succ j=>simp only [af1] at hj ⊢; exact h3 j c hj
theorem BO {k i i':Nat}{c c':Ct}(e:Xy k (i,c) (i',c')):i'=rX k i:=by
 cases c with
 | sl n z cs=>obtain⟨_,_,h⟩:=e; cases h; rfl
 | ob cs=>obtain⟨_,_,h⟩:=e; cases h; rfl
 | mp es=>exact e.elim
 | row t cs=>exact e.elim
theorem Has.gm {h h1:AHeap}{K1 K2 L:Mem}(o:Has h L)(o1:Has h1 K1)(g:JW h.next L K1 K2):Has (h.gm h1) K2:=by
 obtain⟨K3,rfl,hlen,GA⟩:=Ru g
 have hnx:(h.gm h1).next=h.next+h1.next:=rfl
 have Nz:∀{i:Nat},i≠0→rX h.next i=i+h.next:=fun hi=>if_neg hi
 have hget:∀{i:Nat} {cs:List AV},i≠0→h1.get i=some (.cells cs)→(h.gm h1).get (rX h.next i)=some (.cells (iB h.next cs)):=fun {i cs} hi hg=>by
  rw [Nz hi,(mF (Nat.le_add_left _ _)).1,Nat.add_sub_cancel,hg]; rfl
 have hidlt:∀{i:Nat},i<h1.next→rX h.next i<(h.gm h1).next:=fun {i} hi=>by
  rw [hnx]
  by_cases h0:i=0
  ·subst h0; show 0<_; have:=o.pos; omega
  ·rw [Nz h0]; omega
 refine⟨fun j i c hj=>?_,fun j j' i c c' hj EX hi=>?_,by rw [hnx]; have:=o.pos; omega⟩
 ·by_cases hl:j<K3.length
  ·rw [afm hl] at hj
   obtain⟨⟨i1,c1⟩,ha,he⟩:=GA j _ hj
   obtain⟨w1,w2⟩:=o1.at_ _ _ _ ha
   cases c1 with
   | sl n z cs=>
    obtain⟨gF,h3,h4⟩:=he
    cases h4
    refine⟨⟨by rw [vS h3]; exact w1.1,?_⟩,hidlt w2⟩
    rcases w1.2 with⟨h5,h6⟩| ⟨h5,rest,h6⟩
    ·left; subst h5; exact⟨rfl,h6⟩
    ·right
     refine⟨by rw [Nz h5]; omega,iB h.next rest,?_⟩
     rw [hget h5 h6,sv rest h3]
   | ob cs=>
    obtain⟨gF,h3,h4⟩:=he
    cases h4
    refine⟨⟨by rw [Nz w1.1]; have:=w1.1; omega,?_⟩,hidlt w2⟩
    rw [hget w1.1 w1.2]
    have:=sv [] h3
    rw [afZ] at this
    rw [this]; simp [iB]
   | mp es=>exact he.elim
   | row t cs=>exact he.elim
  ·rw [afg (by omega)] at hj
   obtain⟨w1,w2⟩:=o.at_ _ _ _ hj
   exact⟨sq (fun _=>(lN w2).1) w1,by rw [hnx]; omega⟩
 ·by_cases hl:j<K3.length<;>by_cases rN:j'<K3.length
  ·rw [afm hl] at hj
   rw [afm rN] at EX
   obtain⟨⟨i1,c1⟩,ha,he⟩:=GA j _ hj
   obtain⟨⟨i2,c2⟩,ha',he'⟩:=GA j' _ EX
   have e1:=BO he
   have e2:=BO he'
   have n1:i1≠0:=fun h0=>hi (by rw [e1,h0]; rfl)
   have n2:i2≠0:=fun h0=>hi (by rw [e2,h0]; rfl)
   rw [Nz n1] at e1
   rw [Nz n2] at e2
   have:i2=i1:=by omega
   subst this
   exact o1.nd _ _ _ _ _ ha ha' n1
  ·rw [afm hl] at hj
   rw [afg (by omega)] at EX
   obtain⟨⟨i1,c1⟩,ha,he⟩:=GA j _ hj
   have e1:=BO he
   have n1:i1≠0:=fun h0=>hi (by rw [e1,h0]; rfl)
   rw [Nz n1] at e1
   have:=(o.at_ _ _ _ EX).2
   omega
  ·rw [afg (by omega)] at hj
   rw [afm rN] at EX
   obtain⟨⟨i1,c1⟩,ha,he⟩:=GA j' _ EX
   have e1:=BO he
   have n1:i1≠0:=fun h0=>hi (by rw [e1,h0]; rfl)
   rw [Nz n1] at e1
   have:=(o.at_ _ _ _ hj).2
   omega
  ·rw [afg (by omega)] at hj EX
   have:=o.nd _ _ _ _ _ hj EX hi
   omega
theorem nV (h h1:AHeap):∀j,j<h.next→h.ver j=(h.gm h1).ver j:=fun j hj=>(lN hj).2.symm
theorem qC {P:Program}{T:rM}{m f deep:Nat}{h h':AHeap}{xs ys:List AV}{r y:AV}(h1:T.intr f=none)(h2:T.pure f=some deep)(h3:T.gm f=true)(hd:jx+b5≤deep)(hx:aZ b5 h xs ys)(hb:ba P T.aX (lk P T m) m f ys bC=some (r,h'))(hg:eC h.next r=some y):lk P T m f xs h=some (y,h.gm h'):=by
 refine nU ?_
 simp only [vR,h1,h2,h3,if_true,hx deep hd,aeZ,hb,hg,ae6]
theorem OD {P:Program}{t:TypeId}{a b c d:Int}(h:∀a b c d:Int,pX P .eql t (.agg [.int .i64 a,.int .i64 b]) (.agg [.int .i64 c,.int .i64 d])=some (.bool (iw (.agg [.int .i64 a,.int .i64 b]) (.agg [.int .i64 c,.int .i64 d])==true))) :
  pX P .eql t (.agg [.int .i64 a,.int .i64 b]) (.agg [.int .i64 c,.int .i64 d])=some (.bool (a==c&&b==d)):=by
 rw [h]
 congr 2
 have:=oS [a,b] [c,d]
 have e:iw (.agg [.int .i64 a,.int .i64 b]) (.agg [.int .i64 c,.int .i64 d])=oA (ae.l [a,b]) (ae.l [c,d]):=rfl
 rw [e,this]
 by_cases h1:a=c<;>by_cases h2:b=d<;>simp [h1,h2]
theorem Has.DM {h:AHeap}{pre mid N L:Mem}(o:Has h (pre++(mid++(N++L)))):Has h (pre++(N++(mid++L))):=by
 refine o.perm (List.Perm.append_left _ ?_)
 rw [←afn,←afn]
 exact List.Perm.append_right _ List.perm_append_comm
def FI (ns:List ai)(ids:List Nat)(j:Int)(ad:Nat):List Nat:=(BL ns ids).set j.toNat ad
theorem Ao:∀(ns:List ai) (ids:List Nat),bl ns (BL ns ids)=bl ns ids
 | [],_=>rfl
 | a::ns,ids=>by
  have:=Ao ns ids.tail
  simp only [BL,bl,afs,List.headD_cons,List.tail_cons] at this ⊢
  rw [this]
theorem Ap:∀(ns:List ai) (ids:List Nat) (i:Nat) (n:ai) (ad:Nat),ns.length=ids.length→bl (ns.set i n) (ids.set i ad)=(bl ns ids).set i (n,ad)
 | [],_,_,_,_,_=>rfl
 | a::ns,[],_,_,_,h=>by simp at h
 | a::ns,j::ids,0,n,ad,_=>rfl
 | a::ns,j::ids,i+1,n,ad,h=>by
  have:=Ap ns ids i n ad (by simpa using h)
  simp only [List.set_cons_succ,bl,List.headD_cons,List.tail_cons,this]
theorem Aq (ns:List ai)(ids:List Nat)(j:Int)(n:ai)(ad:Nat):bl (ns.set j.toNat n) (FI ns ids j ad)=(bl ns ids).set j.toNat (n,ad):=by
 unfold FI
 rw [Ap ns (BL ns ids) j.toNat n ad (by unfold BL; rw [afl,fH]),Ao]
section
variable {P:Program}{tf:TypeId}{h:AHeap}{pre L:Mem}{ns:List ai}{ids:List Nat}{i ad k n2 q:Nat}{j:Int}{n:ai}{args:List Int}
theorem OE (o:Has h ((i,.sl k 4 (eM.l (bl ns ids)))::(ad,.sl n2 1 (ae.l args))::(pre++(fQ ns ids++L))))(hs:hH P tf=some 1)(hx:ix ns j=some n) :
  ∃h',kU P h tf (.ptr i (0+j.toNat*4+3)) (.rs ad 0 n2 1)=some h'∧
   Has h' ((i,.sl k 4 (eM.l (bl (ns.set j.toNat ⟨n.kind,n.int,n.label,args⟩) (FI ns ids j ad))))::(pre++(fQ (ns.set j.toNat ⟨n.kind,n.int,n.label,args⟩) (FI ns ids j ad)++L))):=by
 have hn:n2=args.length:=dN (E:=ae) o (q:=1) rfl
 subst hn
 obtain⟨h0,h1,h2⟩:=iV hx
 obtain⟨h',e,o'⟩:=Of (P:=P) (tf:=tf) (E:=eM) (l:=bl ns ids) (q:=0) (off:=3) (v:=((⟨n.kind,n.int,n.label,args⟩:ai),ad)) (x:=.rs ad 0 args.length 1) o rfl hs (kn hx) rfl rfl (by decide) rfl
 refine⟨h',e,?_⟩
 have e1:(bl ns ids).set j.toNat ((⟨n.kind,n.int,n.label,args⟩:ai),ad)=bl (ns.set j.toNat ⟨n.kind,n.int,n.label,args⟩) (FI ns ids j ad):=(Aq ns ids j _ ad).symm
 have e2:fQ (ns.set j.toNat ⟨n.kind,n.int,n.label,args⟩) (FI ns ids j ad)=(fQ ns ids).set j.toNat (DF (⟨n.kind,n.int,n.label,args⟩,ad)):=by
  unfold fQ; rw [Aq,List.map_set]
 rw [←e1,e2]
 have o2:Has h' ((i,.sl k 4 (eM.l ((bl ns ids).set j.toNat ((⟨n.kind,n.int,n.label,args⟩:ai),ad))))::DF (⟨n.kind,n.int,n.label,args⟩,ad)::(pre++(fQ ns ids++L))):=o'
 have hl:j.toNat<(fQ ns ids).length:=by unfold fQ; rw [afl,fH]; omega
 have e3:(fQ ns ids).set j.toNat (DF (⟨n.kind,n.int,n.label,args⟩,ad))=(fQ ns ids).take j.toNat++DF (⟨n.kind,n.int,n.label,args⟩,ad)::(fQ ns ids).drop (j.toNat+1):=by
  rw [List.set_eq_take_append_cons_drop,if_pos hl]
 have e4:fQ ns ids=(fQ ns ids).take j.toNat++(fQ ns ids)[j.toNat]::(fQ ns ids).drop (j.toNat+1):=by
  conv=>lhs; rw [←agu j.toNat (fQ ns ids),afe hl]
 rw [e3]
 generalize hA:(fQ ns ids).take j.toNat=A at *
 generalize hB:(fQ ns ids).drop (j.toNat+1)=B at *
 rw [e4] at o2
 have o3:=(o2.del (pre.length+A.length+2))
 have e5:((i,Ct.sl k 4 (eM.l ((bl ns ids).set j.toNat ((⟨n.kind,n.int,n.label,args⟩:ai),ad))))::DF (⟨n.kind,n.int,n.label,args⟩,ad)::(pre++((A++(fQ ns ids)[j.toNat]::B)++L))).eraseIdx (pre.length+A.length+2)=(i,Ct.sl k 4 (eM.l ((bl ns ids).set j.toNat ((⟨n.kind,n.int,n.label,args⟩:ai),ad))))::DF (⟨n.kind,n.int,n.label,args⟩,ad)::(pre++((A++B)++L)):=by
  show _::_::(pre++((A++(fQ ns ids)[j.toNat]::B)++L)).eraseIdx (pre.length+A.length)=_
  congr 2
  rw [List.eraseIdx_append_of_length_le (by omega),afX,afn,List.eraseIdx_append_of_length_le (by omega),aga]
  simp
 rw [e5] at o3
 refine o3.perm (List.Perm.cons _ ?_)
 have k1:pre++((A++DF ((⟨n.kind,n.int,n.label,args⟩:ai),ad)::B)++L)=(pre++A)++DF (⟨n.kind,n.int,n.label,args⟩,ad)::(B++L):=by simp
 have k2:pre++((A++B)++L)=(pre++A)++(B++L):=by simp
 rw [k1,k2]
 exact List.perm_middle
theorem ry:∀(ns:List ai) (ids:List Nat) (k:Nat),bl (ns.drop k) (ids.drop k)=(bl ns ids).drop k
 | ns,ids,0=>rfl
 | [],_,k+1=>by simp [bl]
 | a::ns,[],k+1=>by
  have:=ry ns [] k
  simpa [bl] using this
 | a::ns,j::ids,k+1=>by
  have:=ry ns ids k
  simpa [bl] using this
theorem Lt (o:Has h (pre++(fQ (ns.drop j.toNat) (ids.drop j.toNat)++L)))(hq:pre[q]? = some (i,.sl k 4 (eM.l (bl ns ids))))(hx:ix ns j=some n) :
  Has h ((JU ids j,.sl n.args.length 1 (ae.l n.args))::(pre++(fQ (ns.drop (IntKind.i64.wrap (j+(1:Int))).toNat) (ids.drop (IntKind.i64.wrap (j+(1:Int))).toNat)++L))):=by
 obtain⟨h0,h1,h2⟩:=iV hx
 have hql:q<pre.length:=(ae5.1 hq).1
 have Bi:(pre++(fQ (ns.drop j.toNat) (ids.drop j.toNat)++L))[q]? = some (i,.sl k 4 (eM.l (bl ns ids))):=by rw [afm hql]; exact hq
 obtain⟨⟨⟨_,uf⟩,_⟩,_⟩:=o.at_ _ _ _ Bi
 have uf:(eM.l (bl ns ids)).length≤1125899906842624:=uf
 rw [bY.b9,fH] at uf
 have uf:ns.length*4≤1125899906842624:=uf
 have hw:(IntKind.i64.wrap (j+(1:Int))).toNat=j.toNat+1:=by
  have hm:(j+1) % 18446744073709551616=j+1:=Int.emod_eq_of_lt (by omega) (by omega)
  have:IntKind.i64.wrap (j+(1:Int))=j+1:=by
   show (if true&&decide ((j+1) % 18446744073709551616≥9223372036854775808) then (j+1) % 18446744073709551616 - 18446744073709551616 else (j+1) % 18446744073709551616)=j+1
   rw [hm]
   have:decide (j+1≥9223372036854775808)=false:=by rw [decide_eq_false_iff_not]; omega
   rw [this]; rfl
  rw [this]; omega
 rw [hw]
 have e:fQ (ns.drop j.toNat) (ids.drop j.toNat)=(JU ids j,.sl n.args.length 1 (ae.l n.args))::fQ (ns.drop (j.toNat+1)) (ids.drop (j.toNat+1)):=by
  unfold fQ
  rw [ry,ry]
  have hz:=qz ns ids _ _ h2
  have hl:j.toNat<(bl ns ids).length:=by rw [fH]; omega
  rw [afe hl]
  have:(bl ns ids)[j.toNat]=(n,ids.getD j.toNat 0):=(ae5.1 hz).2
  rw [this]
  rfl
 rw [e] at o
 refine o.perm ?_
 exact List.perm_middle.symm
end
end Go.R
namespace Go.R
open Go
abbrev AV.i (n:Int):AV:=.int .i64 n
universe u
theorem Ux {α:Type u}{l:List α}{i:Nat}{a:α}:(l.set i a).length=l.length:=afJ
theorem dte {p:Prop}[Decidable p]:(decide p=true)=p:=decide_eq_true_eq
theorem kr {α:Sort u}{a b:α}(h:a=b:=by kernel_rfl):a=b:=h
theorem om {p:Prop}(h:p:=by omega):p:=h
theorem dm {p:Prop}(h:p:=by simp only [dte]; omega):p:=h
theorem ld {α:Sort u}{a b:α}(h:a=b:=by (try (conv=>rhs; simp only [Ux])); try kernel_rfl):a=b:=h
theorem bN {h:AHeap}{K:Mem}(o:Has h K)(q:Nat){p:Nat × Ct}(hq:K[q]? = some p:=by rfl):Has h (p::K.eraseIdx q):=Has.front o q hq
theorem jV {h:AHeap}{K:Mem}(o:Has h K)(q:Nat):Has h (K.eraseIdx q):=Has.del o q
theorem rz {h:AHeap}{K K':Mem}(o:Has h K)(e:K=K':=by (try (conv=>rhs; simp only [Ux])); try kernel_rfl):Has h K':=e ▸ o
theorem fq {h:AHeap}{k:Nat}{ys:List AV}(f:aZ k h ys ys:=by repeat' (first | exact aJ | apply ao | exact bP | exact dD | exact oN | exact kF | apply oO | apply FC))(hk:k≤b5:=by decide):aZ b5 h ys ys:=km f hk
theorem cq {p:Prop}(h:p:=by repeat' (first | exact oR | refine cZ ?_ ?_ | rfl | assumption | refine kW ?_ | exact iW | exact Om | exact oQ | exact KV | refine nz ?_ | refine cz ?_ ?_ | exact lU)):p:=h
section
variable {P:Program}{A:bX}{s:St}{rs:List ResultVar}
theorem fB {b:Bool}{o:Bool}(H:some b=some o)(h1:aM P (s.open A) rs=some (.bool b):=by kernel_rfl):(Ex.ret = .ret∨Ex.ret = .norm)∧∃av,aM P (s.open A) rs=some av∧fG s.h av (.bool o):=by
 cases H; exact⟨.inl rfl,_,h1,vP kl⟩
theorem fI {b:Int}{o:Int}{k:IntKind}(H:some b=some o)(h1:aM P (s.open A) rs=some (.int k b):=by kernel_rfl):(Ex.ret = .ret∨Ex.ret = .norm)∧∃av,aM P (s.open A) rs=some av∧fG s.h av (.int k o):=by
 cases H; exact⟨.inl rfl,_,h1,vP jC⟩
end
end Go.R
namespace Go.Proofs.YtifafejidnjckaaGreat
open Go Go.R
open Go.IntKind (i64 u64 u8 u32)
structure cH where
 fN:Int
 pV:Int
 zE:Int
 cP:ByteArray
 fO:List Int
 rY:bm
structure ab where
 aA:Bool
 aa:List ai
 an:List Int
structure aj where
 ah:List ai
 au:List Int
 aK:Bool
structure bV where
 mV:Int
 ox:Int
def fa:bY cH:={n:=7,f:=fun x=>[.int .i64 x.fN,.int .i64 x.pV,.int .i64 x.zE,.str x.cP,ae.fz x.fO,af.fz x.rY.nodes,.int .i64 x.rY.root],len:=fun _=>rfl,pos:=by decide,pure:=fun x _=>pure_cons eu (pure_cons eu (pure_cons eu (pure_cons mG (pure_cons bY.bz (pure_cons bY.bz (pure_cons eu (pure_nil))))))),canon:=fun _=>rfl}
def fZ:bY bV:={n:=2,f:=fun x=>[.int .i64 x.mV,.int .i64 x.ox],len:=fun _=>rfl,pos:=by decide,pure:=fun x _=>pure_cons eu (pure_cons eu (pure_nil)),canon:=fun _=>rfl}
theorem de:zA Tryz.prog 22 1 8=true:=by kernel_rfl
theorem lF:zA Tryz.prog 23 4 56=true:=by kernel_rfl
theorem Xz:zA Tryz.prog 29 7 96=true:=by kernel_rfl
theorem NH:zA Tryz.prog 99 1 1=true:=by kernel_rfl
theorem Rv:zA Tryz.prog 111 2 16=true:=by kernel_rfl
theorem Rw:zA Tryz.prog 117 2 16=true:=by kernel_rfl
theorem A3:iQ Tryz.prog 3=some false:=by kernel_rfl
theorem A4:iQ Tryz.prog 4=some false:=by kernel_rfl
theorem SZ:iQ Tryz.prog 22=some false:=by kernel_rfl
theorem A23:iQ Tryz.prog 23=some false:=by kernel_rfl
theorem sM:iQ Tryz.prog 57=some true:=by kernel_rfl
theorem Z3:hH Tryz.prog 3=some 1:=by kernel_rfl
theorem Z4:hH Tryz.prog 4=some 1:=by kernel_rfl
theorem Z22:hH Tryz.prog 22=some 1:=by kernel_rfl
theorem sN:hH Tryz.prog 57=some 4:=by kernel_rfl
theorem U9:Tryz.prog.underlying 9=some .string:=by kernel_rfl
theorem Uy:DA Tryz.prog 84=true:=by kernel_rfl
theorem G9:DB Tryz.prog 119 9=true:=by kernel_rfl
theorem Lu:Tryz.prog.underlying 119=some (.map 121 3):=by kernel_rfl
theorem Ar:Jb Tryz.prog 121 9=true:=by kernel_rfl
theorem XA:Xx Tryz.prog 22=true:=by kernel_rfl
theorem Uz:∀a b c d:Int,pX Tryz.prog .eql 110 (.agg [.int .i64 a,.int .i64 b]) (.agg [.int .i64 c,.int .i64 d])=some (.bool (iw (.agg [.int .i64 a,.int .i64 b]) (.agg [.int .i64 c,.int .i64 d])==true)):=by
 intro a b c d
 kernel_rfl
def qD.f (m:Nat):Option Bool:=some true
def S9 (cf:CallF)(m:Nat):Prop:=∀r:Bool,qD.f m=some r→∀h xs,aZ b5 h xs []→cf 9 xs h=some (.bool r,h)
def UA (cf:CallF)(m:Nat):Prop:=Ld cf 37 1
def S66 (cf:CallF)(m:Nat):Prop:=PO cf 66
def Lv:bX:=gP [0,2,3,7,26] [] [30,26,18,26,10,29,29] [] []
def cp.l0 (m:Nat)(l0:List cH):Nat→Int→Option (Sum Bool (Int))
 | 0,_=>none
 | k+1,i0=>if (decide (i0<(l0.length:Int)))=true then ((ix l0 i0).bind fun v0=>if (decide ((v0.rY.nodes.length:Int) > 40))=true then (some (.inl true)) else ((ix l0 i0).bind fun v1=>if (decide ((v1.fO.length:Int) > 40))=true then (some (.inl true)) else (cp.l0 m l0 k (i64.wrap (i0+1))))) else (some (.inr i0))
def cp.f (m:Nat)(l0:List cH):Option (Bool):=(cp.l0 m l0 m 0).bind fun bI=>match bI with | .inl r0=>some r0 | .inr i1=>some (decide ((l0.length:Int) > 60))
def cp.fin (L:Mem)(r:Bool)(s:St):Prop:=∃av,aM Tryz.prog (s.open Lv) Tryz.f8.results.toList=some av∧fG s.h av (.bool r)
def S8 (cf:CallF)(m:Nat):Prop:=∀(l0:List cH) (r:Bool),cp.f m l0=some r→∀h xs,aZ b5 h xs [fa.fz l0]→cf 8 xs h=some (.bool r,h)
section
variable {cf:CallF}{m:Nat}
theorem cp.cF (L:Mem)(l0:List cH)   : cd Tryz.prog cf Lv m (sub [1,0,1,0,0] (bA Tryz.f8)) (fun k (σ:Int)=>cp.l0 m l0 k σ) (fun σ s=>match σ with | i0=>∃h0,s=⟨[fa.fz l0,.any,.i i0,.any,.any],[],h0⟩∧Has h0 (L)) (fun out e s=>(e = .exit 0∧∃i0,.inr i0=out∧∃BP DN h0,s=⟨[fa.fz l0,.any,BP,DN,.any],[],h0⟩∧Has h0 (L))∨(e = .ret∧∃r,.inl r=out∧cp.fin L r s)):=by
 refine jW (fun _=>rfl) ?_
 rintro k i0 s out ⟨h0,rfl,o0⟩ H
 have H:cp.l0 m l0 (k+1) i0=some out:=H
 refine qq <| qq <| q0 <| qc H (fun c0 H=>?_) (fun c0 H=>?_)
 ·refine qk <| qq <| qb 1 <| qq ?_
  obtain⟨v0,e0,H⟩:=aQ H
  rcases dZ H with⟨c1,H⟩| ⟨c1,H⟩
  ·exact qr [.v 2 (bW (k:=.i64) (E:=fa) (l:=l0) Xz e0),.v 5 (lS  (E:=fa) (l:=l0) (off:=5) h0 A23 e0 rfl),.b 8 c1] <| rW <| qq <| q0 <| qt <| agv (⟨rfl,_,oi H,yo (.bool true) h0 (vP (kl))⟩)
  ·obtain⟨v1,e1,H⟩:=aQ H
   refine qr [.v 2 (bW (k:=.i64) (E:=fa) (l:=l0) Xz e0),.v 5 (lS  (E:=fa) (l:=l0) (off:=5) h0 A23 e0 rfl),.b 8 c1,.v 11 (bW (k:=.i64) (E:=fa) (l:=l0) Xz e1),.v 13 (lS  (E:=fa) (l:=l0) (off:=4) h0 SZ e1 rfl)] <| qc H (fun c3 H=>?_) (fun c3 H=>?_)
   ·exact q1 <| qt <| agv (⟨rfl,_,oi H,yo (.bool true) h0 (vP (kl))⟩)
   ·exact qk <| q0 <| ⟨i64.wrap (i0+1),⟨h0,kr,o0⟩,H⟩
 ·exact qx 0 <| Or.inl (⟨rfl,i0,oi H,.i i0,.bool (decide (i0<(l0.length:Int))),h0,kr,o0⟩)
theorem uJ {aX:FuncId→bX}(ha:aX 8=Lv)  (l0:List cH)(h:AHeap)(L:Mem)  (o:Has h (L)){out:Bool}(H:cp.f m l0=some out) :
  ∃r h',ba Tryz.prog aX cf m 8 [fa.fz l0] h=some (r,h')∧fG h' r (.bool out):=by
 refine ax (fn:=Tryz.f8) ha Tryz.func8 kr kr ?_
 refine aI (Q:=fun s=>cp.fin L out s) (fun _ _ h=>h) ?_
 have H:_=some out:=H
 unfold cp.f at H
 show dB _ cf Lv m _ ⟨fa.fz l0::lW [],[],h⟩ _
 refine q1 <| qq <| qq <| q0 <| qb 0 ?_
 obtain⟨bI,e2,H⟩:=aQ H
 refine ql (cp.cF L l0   0 _ _ ⟨h,kr,o⟩ e2) ?_
 rintro e s (⟨rfl,i1,rfl,g0,g1,h1,rfl,o1⟩| ⟨rfl,r0,rfl,sw⟩)
 ·try dsimp only at H
  exact q1 <| qt <| fB H
 ·try dsimp only at H
  obtain rfl:=oi H
  exact⟨.inl rfl,sw⟩
end
def Ha:bX:=gP [0] [14000000001] [1] [] []
def jP.f (m:Nat)  : Option (ab):=some (ab.mk true ([]:List ai) ([]:List Int))
def jP.fin (L:Mem)  (r:ab)(s:St):Prop:=∃du dv dw:Nat,aM Tryz.prog (s.open Ha) Tryz.f16.results.toList=some (.ptr du 0)∧Has s.h ((du,.ob [.bool r.aA,.rs dv 0 r.aa.length 4,.rs dw 0 r.an.length 1])::(dv,.sl r.aa.length 4 (af.l r.aa))::(dw,.sl r.an.length 1 (ae.l r.an))::L)
def S16 (cf:CallF)(m:Nat):Prop:=∀ (r:ab),jP.f m  = some r→∀h L,Has h (L)→∀xs,xs.map aP=[]→∃du dv dw h',cf 16 xs h=some (.ptr du 0,h')∧Has h' ((du,.ob [.bool r.aA,.rs dv 0 r.aa.length 4,.rs dw 0 r.an.length 1])::(dv,.sl r.aa.length 4 (af.l r.aa))::(dw,.sl r.an.length 1 (ae.l r.an))::L)
section
variable {cf:CallF}{m:Nat}
theorem yu {aX:FuncId→bX}(ha:aX 16=Ha)   (h:AHeap)(L:Mem)  (o:Has h (L)){out:ab}(H:jP.f m  = some out) :
  ∃r h',ba Tryz.prog aX cf m 16 [] h=some (r,h')∧∃du dv dw:Nat,r = .ptr du 0∧Has h' ((du,.ob [.bool out.aA,.rs dv 0 out.aa.length 4,.rs dw 0 out.an.length 1])::(dv,.sl out.aa.length 4 (af.l out.aa))::(dw,.sl out.an.length 1 (ae.l out.an))::L):=by
 refine ax (fn:=Tryz.f16) ha Tryz.func16 kr kr ?_
 refine aI (Q:=fun s=>jP.fin L out s) (fun _ _ ⟨h1,du,dv,dw,h2,h3⟩=>⟨h1,_,h2,du,dv,dw,rfl,h3⟩) ?_
 have H:_=some out:=H
 unfold jP.f at H
 show dB _ cf Ha m _ ⟨[.any],[none],h⟩ _
 refine q1 <| qq ?_
 have o0:Has h (((0),.sl (([]:List ai).length) 4 (af.l ([]:List ai)))::L):=Has.nil o 4
 have o1:Has h ((((0)),.sl (([]:List Int).length) 1 (ae.l ([]:List Int)))::((0),.sl (([]:List ai).length) 4 (af.l ([]:List ai)))::L):=Has.nil o0 1
 obtain⟨aV,h0,e0,o2⟩:=iX (cs:=[.bool true,.rs (0) 0 (([]:List ai).length) 4,.rs ((0)) 0 (([]:List Int).length) 1]) o1 kr
 obtain rfl:=oi H
 exact qr [.a 1 e0] <| qt <| ⟨.inl rfl,⟨aV,(0),((0)),kr,he (bN (bN (bN o2 1) 2) 2)⟩⟩
end
def Hb:bX:=gP [0] [1400000001] [1] [] []
def lB.f (m:Nat)  : Option (aj):=some (aj.mk ([]:List ai) ([]:List Int) true)
def lB.fin (L:Mem)  (r:aj)(s:St):Prop:=∃du dv dw:Nat,aM Tryz.prog (s.open Hb) Tryz.f17.results.toList=some (.ptr du 0)∧Has s.h ((du,.ob [.rs dv 0 r.ah.length 4,.rs dw 0 r.au.length 1,.bool r.aK])::(dv,.sl r.ah.length 4 (af.l r.ah))::(dw,.sl r.au.length 1 (ae.l r.au))::L)
def S17 (cf:CallF)(m:Nat):Prop:=∀ (r:aj),lB.f m  = some r→∀h L,Has h (L)→∀xs,xs.map aP=[]→∃du dv dw h',cf 17 xs h=some (.ptr du 0,h')∧Has h' ((du,.ob [.rs dv 0 r.ah.length 4,.rs dw 0 r.au.length 1,.bool r.aK])::(dv,.sl r.ah.length 4 (af.l r.ah))::(dw,.sl r.au.length 1 (ae.l r.au))::L)
section
variable {cf:CallF}{m:Nat}
theorem yv {aX:FuncId→bX}(ha:aX 17=Hb)   (h:AHeap)(L:Mem)  (o:Has h (L)){out:aj}(H:lB.f m  = some out) :
  ∃r h',ba Tryz.prog aX cf m 17 [] h=some (r,h')∧∃du dv dw:Nat,r = .ptr du 0∧Has h' ((du,.ob [.rs dv 0 out.ah.length 4,.rs dw 0 out.au.length 1,.bool out.aK])::(dv,.sl out.ah.length 4 (af.l out.ah))::(dw,.sl out.au.length 1 (ae.l out.au))::L):=by
 refine ax (fn:=Tryz.f17) ha Tryz.func17 kr kr ?_
 refine aI (Q:=fun s=>lB.fin L out s) (fun _ _ ⟨h1,du,dv,dw,h2,h3⟩=>⟨h1,_,h2,du,dv,dw,rfl,h3⟩) ?_
 have H:_=some out:=H
 unfold lB.f at H
 show dB _ cf Hb m _ ⟨[.any],[none],h⟩ _
 refine q1 <| qq ?_
 have o0:Has h (((0),.sl (([]:List ai).length) 4 (af.l ([]:List ai)))::L):=Has.nil o 4
 have o1:Has h ((((0)),.sl (([]:List Int).length) 1 (ae.l ([]:List Int)))::((0),.sl (([]:List ai).length) 4 (af.l ([]:List ai)))::L):=Has.nil o0 1
 obtain⟨aV,h0,e0,o2⟩:=iX (cs:=[.rs (0) 0 (([]:List ai).length) 4,.rs ((0)) 0 (([]:List Int).length) 1,.bool true]) o1 kr
 obtain rfl:=oi H
 exact qr [.a 1 e0] <| qt <| ⟨.inl rfl,⟨aV,(0),((0)),kr,he (bN (bN (bN o2 1) 2) 2)⟩⟩
end
end Go.Proofs.YtifafejidnjckaaGreat
