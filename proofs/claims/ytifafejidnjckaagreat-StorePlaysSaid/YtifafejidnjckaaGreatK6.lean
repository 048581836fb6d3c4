/- Part of the proof: RBuf1, RBuf2, RBuf3, RBuf4, RBuf5, RG9, RFix, RGN, RGL, RSrt, RGS, RGC, RPT, RDV, RMB, RGR, RGM, QW, Q8, Q16. -/
import Derived.Test.YtifafejidnjckaaGreatK5
import Derived.Shelf.LaysM
import Derived.Shelf.Bytes.GrowAt
import Derived.Lib.ByteType
import Derived.Lib.BufferAt
import Derived.Lib.BufferKept
import Derived.Lib.Walk
import Derived.Lib.BufferWrite
import Derived.Lib.Hide
import Derived.WalkKit
import Derived.BigCall
import Derived.BigGuard
import Derived.KernelRfl
import Derived.Shelf.Sort.Plain
import Derived.Shelf.Slices.In.SortNone
import Derived.Shelf.Slices.CompactI
import Derived.Test.YtifafejidnjckaaGreatProg
set_option linter.unusedVariables false
set_option linter.unusedSimpArgs false
set_option maxRecDepth 100000
open Array renaming getElem?_eq_some_iff → ajt, getElem?_modify → aj3
open Bool renaming and_eq_true → aiM, false_eq_true → aiW, not_true → ajA, true_and → ajC, not_eq_true' → ajX
open Int renaming toNat_natCast → aiP
open List renaming getElem?_eq_getElem → aiN, getElem?_eq_some_iff → aiO, mem_of_getElem? → aiS, length_append → aiT, mem_singleton → aiU, length_cons → aiX, length_map → aiY, drop_eq_getElem_cons → aiZ, getElem?_append_right → ai0, replicate → ai1, mem_append → ai3, length_nil → ai4, map_append → ai5, getElem?_append_left → ai6, append_assoc → ai7, map_cons → ai9, mem_cons → aja, all_eq_true → ajd, getElem?_map → aje, mem_append_left → ajh, drop_zero → aji, nil_append → ajj, take_append_of_le_length → ajl, length_take → ajo, take_of_length_le → ajp, eq_nil_of_length_eq_zero → ajs, cons_append → ajv, length_set → ajw, getElem?_cons_zero → ajx, getElem?_of_mem → ajH, append_nil → ajJ, set_append_right → ajM, getElem?_cons_succ → ajV, mem_cons_of_mem → aj7, take_append_drop → akd, mem_append_right → akq
open Nat renaming le_refl → aiQ, zero_add → ajf, beq → ajy, lt_succ_self → ajz, le_trans → ajF, sub_self → ajI, add_sub_cancel_left → ajK, mul_le_mul_right → ajN, le_succ → aj5, lt_succ_of_lt → akg, ble → akn, min_eq_left → ako, zero_lt_one → akp
open Option renaming bind_some → aiI, bind_eq_some_iff → aiJ, map_eq_some_iff → aiK, map_some → aiR, getD_some → ajR
open Option.some renaming injEq → aiL, inj → ajn
open Or renaming inr → ajW, inl → akl
open Prod.mk renaming injEq → aiV
namespace Go.R
open Go Go.Proofs Go.Shelf Go.RowKit
variable {P:Program}{ρ:Ren}
end Go.R
namespace Go.R
open Go Go.Proofs Go.Shelf Go.RowKit
variable {P:Program}{ρ:Ren}
end Go.R
namespace Go.R
open Go Go.Proofs Go.Shelf Go.RowKit
variable {P:Program}{ρ:Ren}
end Go.R
namespace Go.R
open Go Go.Proofs Go.Shelf Go.RowKit
theorem Fr.none {c:Cx}{L0:Nat→Prop}(hrel:HRel c L0):Fr L0 c none0 (fun _=>0) [] ⟨fun _=>.any,fun _=>none,c.h⟩ ⟨#[],[]⟩:=
 ⟨rfl,by rw [show un L0 none0=L0 from by funext b; simp [un,none0]]; exact hrel,fun t=>by simp [SR,VR],fun k cs h=>(by cases h),fun k k' h=>(by cases h),fun t k off _ h=>(by cases h),rfl,fun b h=>h.elim⟩
end Go.R
namespace Go.R
open Go Go.Proofs Go.Shelf Go.RowKit
theorem intr_cons {P:Program}{f0:FuncId}{g0:List AV→AHeap→Option (AV × AHeap)}{intr:FuncId→Option (List AV→AHeap→Option (AV × AHeap))}(h0:CallOK P fun f' args h=>if f'=f0 then g0 args h else none)
  (hs:∀args h r h',g0 args h=some (r,h')→Steady h h') (h:IntrOK P intr):IntrOK P fun f=>if f=f0 then some g0 else intr f:=by
 intro f g hg
 dsimp only at hg
 split at hg
 ·rename_i hf
  subst hf
  cases hg
  exact⟨h0,hs⟩
 ·exact h f g hg
end Go.R
namespace Go.R
open Go
section
variable {h:AHeap}{L:Mem}{e:TypeId}{id i:Nat}{bs news r:List Int}{c:Int}{s:ByteArray}
variable {cf:CallF}{f:FuncId}
end
def jn {α β:Type}(b:α→Option β)(a:(α→Option β)→Option β):Option β:=a b
theorem ov {α β:Type}{b:α→Option β}{a:(α→Option β)→Option β}{out:β}(H:jn b a=some out):∃j:α→Option β,(∀x,j x=b x)∧a j=some out:=⟨b,fun _=>rfl,H⟩
theorem aP {α β:Type}{o:Option α}{f:α→Option β}{b:β}(h:o.bind f=some b):∃a,o=some a∧f a=some b:=aiJ.1 h
theorem ifp {α:Type}{c:Bool}{a b z:α}(h:c=true)(H:(if c=true then a else b)=z):a=z:=(if_pos h).symm.trans H
theorem ifn {α:Type}{c:Bool}{a b z:α}(h:c=false)(H:(if c=true then a else b)=z):b=z:=(if_neg (QV h)).symm.trans H
abbrev nc (l:List AV):List AV:=.any :: .any :: .any::l
abbrev l9 (l:List AV):List AV:=.any::nc l
abbrev sO (l:List AV):List AV:=.any::l9 l
abbrev wF (l:List AV):List AV:=.any::sO l
abbrev B0 (l:List AV):List AV:=.any::wF l
abbrev tX (l:List AV):List AV:=.any::B0 l
abbrev NJ (l:List AV):List AV:=.any::tX l
abbrev wG (l:List AV):List AV:=.any::NJ l
abbrev vc (l:List AV):List AV:=.any::wG l
abbrev zN (l:List AV):List AV:=.any::vc l
abbrev Fg (l:List AV):List AV:=.any::zN l
abbrev zO (l:List AV):List AV:=.any::Fg l
abbrev Rb (l:List AV):List AV:=.any::zO l
abbrev HC (l:List AV):List AV:=.any::Rb l
abbrev Rc (l:List AV):List AV:=.any::HC l
abbrev Uk (l:List AV):List AV:=.any::Rc l
abbrev Ul (l:List AV):List AV:=.any::Uk l
abbrev Xg (l:List AV):List AV:=.any::Ul l
abbrev Um (l:List AV):List AV:=.any::Xg l
abbrev Xh (l:List AV):List AV:=.any::Um l
abbrev Xi (l:List AV):List AV:=.any::Xh l
abbrev aag (l:List AV):List AV:=.any::Xi l
abbrev Re (l:List AV):List AV:=.any::aag l
abbrev Xj (l:List AV):List AV:=.any::Re l
abbrev Un (l:List AV):List AV:=.any::Xj l
abbrev aah (l:List AV):List AV:=.any::Un l
abbrev Xk (l:List AV):List AV:=.any::aah l
abbrev aai (l:List AV):List AV:=.any::Xk l
abbrev aaj (l:List AV):List AV:=.any::aai l
abbrev aak (l:List AV):List AV:=.any::aaj l
abbrev aal (l:List AV):List AV:=.any::aak l
abbrev aam (l:List AV):List AV:=.any::aal l
end Go.R
namespace Go.R
open Go
def Bp {X:Type}(F:CallF→Option X):Prop:=∀cf x,F cf=some x→∃l:List (FuncId × List AV × AHeap × (AV × AHeap)),(∀e∈l,cf e.1 e.2.1 e.2.2.1=some e.2.2.2)∧∀I8:CallF,(∀e∈l,I8 e.1 e.2.1 e.2.2.1=some e.2.2.2)→F I8=some x
theorem cu {X:Type}(x:Option X):Bp fun _=>x:=by
 intro cf y h
 refine⟨[],?_,fun _ _=>h⟩
 intro e he; cases he
theorem NK (f:FuncId)(args:List AV)(h:AHeap):Bp fun cf=>cf f args h:=by
 intro cf x hx
 refine⟨[(f,args,h,x)],?_,fun I8 h'=>h' (f,args,h,x) (aiU.2 rfl)⟩
 intro e he; cases (aiU.1 he); exact hx
theorem gH {X Y:Type}{F:CallF→Option X}{G:X→CallF→Option Y}(hF:Bp F)(hG:∀y,Bp (G y)):Bp fun cf=>(F cf).bind fun y=>G y cf:=fun cf z hz=>by
 obtain⟨y,h1,h2⟩:=aiJ.1 hz
 obtain⟨l1,a1,b1⟩:=hF cf y h1
 obtain⟨l2,a2,b2⟩:=hG y cf z h2
 refine⟨l1++l2,fun e he=>(ai3.1 he).elim (a1 e) (a2 e),fun I8 h'=>?_⟩
 have e1:=b1 I8 fun e he=>h' e (ajh _ he)
 have e2:=b2 I8 fun e he=>h' e (akq _ he)
 show (F I8).bind _=_
 rw [e1,aiI,e2]
theorem Dp {X Y:Type}{F:CallF→Option X}{g:X→Y}(hF:Bp F):Bp fun cf=>(F cf).map g:=by
 intro cf x hx
 obtain⟨y,h1,h2⟩:=aiK.1 hx
 obtain⟨l,a,b⟩:=hF cf y h1
 refine⟨l,a,fun I8 h'=>?_⟩
 show (F I8).map g=some x
 rw [b I8 h',aiR,h2]
theorem ng {X:Type}{c:Prop}[Decidable c]{F G:CallF→Option X}(hF:Bp F)(hG:Bp G):Bp fun cf=>if c then F cf else G cf:=by
 by_cases h:c
 ·simp only [h,if_true]; exact hF
 ·simp only [h,if_false]; exact hG
section
variable {P:Program}{bb ds:List Nat}
theorem vd {X:Type}{F:CallF→Option X}(h:∀cf I8,F cf=F I8):Bp F:=by
 intro cf x hx
 refine⟨[],?_,fun I8 _=>(h I8 cf).trans hx⟩
 intro e he; cases he
theorem I9 (e:Operand→AV)(s:RS)(o:Oper):Bp fun cf=>G8 P cf bb ds e s o:=by
 obtain⟨dst,op,type,pos,after,guard⟩:=o
 cases op with
 | call c=>
  obtain⟨callee,args,at_⟩:=c
  cases callee with
  | value f=>
   simp only [G8]
   cases e f with
   | fn f cap=>exact ng (Dp (gH (NK _ _ _) fun y=>cu _)) (cu _)
   | _=>exact cu _
  | _=>exact vd fun _ _=>rfl
 | makeFunc fn first cap=>cases fn<;>exact vd fun _ _=>rfl
 | makeMap t r=>cases r<;>exact vd fun _ _=>rfl
 | _=>exact vd fun _ _=>rfl
theorem LF (ops:List Oper)(s:RS)(o:Oper):Bp fun cf=>rI P cf bb ops s o:=by
 refine gH (cu (kD ops s.ρ o)) fun w=>?_
 exact ng (I9 _ _ _) (cu _)
theorem Fh (ops:List Oper):∀(os:List Oper) (s:RS),Bp fun cf=>xY P cf bb ops s os
 | [],s=>cu _
 | o::os,s=>gH (LF ops s o) fun s'=>Fh ops os s'
theorem Fi (ops:List Oper):∀(os:List Oper) (s:RS),Bp fun cf=>uD P cf bb ops s os
 | [],s=>cu _
 | o::os,s=>gH (cu (kD ops s.ρ o)) fun w=>gH (ng (I9 _ _ _) (cu _)) fun s1=>Dp (Fi ops os s1)
theorem HD (ops:Array Oper)(s:RS):Bp fun cf=>nt P cf bb ops s:=by
 unfold nt
 exact ng (gH (Fi _ _ _) fun x=>cu _) (cu _)
theorem B1 {f:CallF→St→Option (Ex × St)}(hf:∀s,Bp fun cf=>f cf s):∀(n:Nat) (s:St),Bp fun cf=>oV (f cf) n s
 | 0,s=>cu _
 | n+1,s=>gH (hf s) fun x=>by
  obtain⟨x,s'⟩:=x
  cases x with
  | norm=>exact B1 hf n s'
  | _=>exact cu _
theorem mi (A:b4)(n:Nat):∀(c:Code) (s:St),Bp fun cf=>cW P cf A n c s
 | .skip,s=>by simp only [cW]; exact cu _
 | .label _,s=>by simp only [cW]; exact cu _
 | .ret,s=>by simp only [cW]; exact cu _
 | .exit _,s=>by simp only [cW]; exact cu _
 | .seq a b,s=>by
  simp only [cW]
  exact gH (mi A n a s) fun x=>by
   obtain⟨x,s'⟩:=x
   cases x with
   | norm=>exact mi A n b s'
   | _=>exact cu _
 | .cond k x y,s=>by
  simp only [cW]
  exact gH (cu _) fun t=>ng (mi A n x s) (mi A n y s)
 | .block id b,s=>by simp only [cW]; exact Dp (mi A n b s)
 | .loop b,s=>by simp only [cW]; exact B1 (fun s=>mi A n b s) n s
 | .region r ops draw,s=>by
  simp only [cW]
  exact gH (cu _) fun s=>gH (ng (HD _ _) (Fh _ _ _)) fun s'=>cu _
 | .rangeFunc ..,s=>by simp only [cW]; exact cu _
 | .scope _,s=>by simp only [cW]; exact cu _
 | .goto _,s=>by simp only [cW]; exact cu _
 | .refuse _,s=>by simp only [cW]; exact cu _
theorem nn (aW:FuncId→b4)(m:Nat)(f:FuncId)(args:List AV)(h:AHeap):Bp fun cf=>bj P aW cf m f args h:=by
 unfold bj
 refine gH (cu _) fun fn=>gH (cu _) fun c=>ng (gH (mi _ _ _ _) fun x=>cu _) (cu _)
end
def xK (P:Program)(T:tj)(m:Nat)(cf:CallF):CallF:=fun f args h=>
 match T.intr f with
 | some g=>g args h
 | none=>
  match T.pure f with
  | some deep=>if T.gr f then (b6 h deep args).bind fun us=>(bj P T.aW cf m f us bH).bind fun x=>(eY h.next x.1).map fun r=>(r,h.gr x.2) else
    if eL args then (bj P T.aW cf m f (fG args) bH).bind fun x=>(dk x.2 deep x.1).map fun r=>(r,h) else
    match b6 h deep args with
    | some zs=>(bj P T.aW cf m f zs bH).bind fun x=>(jO x.2 deep x.1).map fun r=>(r,h)
    | none=>bj P T.aW cf m f (args.map ba) h
  | none=>bj P T.aW cf m f (args.map ba) h
section
variable {P:Program}{T:tj}{m:Nat}
theorem B2 (f:FuncId)(args:List AV)(h:AHeap):Bp fun cf=>xK P T m cf f args h:=by
 unfold xK
 cases T.intr f with
 | some g=>exact cu _
 | none=>
  cases T.pure f with
  | none=>exact nn _ _ _ _ _
  | some deep=>
   refine ng (gH (cu _) fun us=>gH (nn _ _ _ _ _) fun x=>cu _) ?_
   refine ng (gH (nn _ _ _ _ _) fun x=>cu _) ?_
   cases b6 h deep args with
   | none=>exact nn _ _ _ _ _
   | some zs=>exact gH (nn _ _ _ _ _) fun x=>cu _
theorem zP:∀(n:Nat) (f:FuncId) (args:List AV) (h:AHeap) (x:AV × AHeap),iI P T m n f args h=some x→iI P T m (n+1) f args h=some x
 | 0,f,args,h,x,hc=>by simp [iI] at hc
 | n+1,f,args,h,x,hc=>by
  obtain⟨l,h1,h2⟩:=B2 (P:=P) (T:=T) (m:=m) f args h _ _ hc
  exact h2 (iI P T m (n+1)) fun e he=>zP n _ _ _ _ (h1 e he)
theorem ve {n k:Nat}(hk:n≤k){f:FuncId}{args:List AV}{h:AHeap}{x:AV × AHeap}(hc:iI P T m n f args h=some x):iI P T m k f args h=some x:=by
 induction hk with
 | refl=>exact hc
 | step _ ih=>exact zP _ _ _ _ _ ih
open Classical in
noncomputable def mb (P:Program)(T:tj)(m:Nat):CallF:=fun f args h=>if H:∃x n,iI P T m n f args h=some x then some (Classical.choose H) else none
theorem pd {f:FuncId}{args:List AV}{h:AHeap}{x:AV × AHeap}:mb P T m f args h=some x↔∃n,iI P T m n f args h=some x:=by
 have key:∀(H:∃x n,iI P T m n f args h=some x) (n:Nat),iI P T m n f args h=some x→Classical.choose H=x:=fun H n hn=>by
  obtain⟨k,hk⟩:=Classical.choose_spec H
  have h1:=ve (Nat.le_max_left n k) hn
  have h2:=ve (Nat.le_max_right n k) hk
  rw [h1] at h2
  exact (ajn h2).symm
 unfold mb
 constructor
 ·intro hc
  split at hc
  ·rename_i H
   obtain⟨n,hn⟩:=Classical.choose_spec H
   cases hc
   exact⟨n,hn⟩
  ·cases hc
 ·rintro⟨n,hn⟩
  have H:∃x n,iI P T m n f args h=some x:=⟨x,n,hn⟩
  rw [dif_pos H,key H n hn]
theorem LG (l:List (FuncId × List AV × AHeap × (AV × AHeap)))(hl:∀e∈l,mb P T m e.1 e.2.1 e.2.2.1=some e.2.2.2):∃n,∀e∈l,iI P T m n e.1 e.2.1 e.2.2.1=some e.2.2.2:=by
 induction l with
 | nil=>exact⟨0,fun e he=>by cases he⟩
 | cons a l ih=>
  obtain⟨n,hn⟩:=ih fun e he=>hl e (aj7 _ he)
  obtain⟨k,hk⟩:=pd.1 (hl a List.mem_cons_self)
  refine⟨max n k,fun e he=>?_⟩
  rcases aja.1 he with rfl | he
  ·exact ve (Nat.le_max_right n k) hk
  ·exact ve (Nat.le_max_left n k) (hn e he)
theorem pe {f:FuncId}{args:List AV}{h:AHeap}{x:AV × AHeap}(hc:xK P T m (mb P T m) f args h=some x):mb P T m f args h=some x:=by
 obtain⟨l,h1,h2⟩:=B2 (P:=P) (T:=T) (m:=m) f args h _ _ hc
 obtain⟨n,hn⟩:=LG l h1
 exact pd.2 ⟨n+1,h2 (iI P T m n) hn⟩
theorem NL (hP:Fit P)(xH:IntrOK P T.intr):CallOK P (mb P T m):=fun f args h r h' hc=>by
 obtain⟨n,hn⟩:=pd.1 hc
 exact uV hP xH m n f args h r h' hn
theorem aS:Has bH []:=⟨fun j i c h=>by simp at h,fun j j' i c c' h=>by simp at h,akp⟩
end
section
variable {P:Program}{T:tj}{m f deep:Nat}{h:AHeap}{xs ys:List AV}{y:AV}{x:AV × AHeap}
theorem sP (h1:T.intr f=none)(h2:T.pure f=some deep)(h3:T.gr f=false)(hd:ki+cd≤deep)(hx:tC xs ys)(hb:∃r h',bj P T.aW (mb P T m) m f ys bH=some (r,h')∧Hy h' r y):mb P T m f xs h=some (y,h):=by
 obtain⟨r,h',hb,hf⟩:=hb
 refine pe ?_
 have hd:ki+4503599627370496≤deep:=ajF (Nat.add_le_add_left (by decide) _) hd
 simp only [xK,h1,h2,h3,aiW,if_false,hx.1,if_true,hx.2,hb,aiI,hf deep hd,aiR]
theorem bn (h1:T.intr f=none)(h2:T.pure f=some deep)(h3:T.gr f=false)(hd:ki+cd≤deep)(hx:bl cd h xs ys)(hb:∃r h',bj P T.aW (mb P T m) m f ys bH=some (r,h')∧eX h' r y):mb P T m f xs h=some (y,h):=by
 have h4:=hx deep hd
 have Qe:ki+4503599627370496≤deep:=ajF (Nat.add_le_add_left (by decide) _) hd
 by_cases hn:eL xs=true
 ·have:=kp deep xs ys hn h4
  obtain⟨r,h',hb,hf⟩:=hb
  exact sP h1 h2 h3 hd ⟨hn,this.symm⟩ ⟨r,h',hb,hf.CO⟩
 ·obtain⟨r,h',hb,hf⟩:=hb
  refine pe ?_
  simp only [xK,h1,h2,h3,aiW,if_false,hn,h4,hb,aiI,hf deep Qe,aiR]
theorem iv (h1:T.intr f=none)(h2:T.pure f=none)(hx:xs.map ba=ys)(hb:bj P T.aW (mb P T m) m f ys h=some x):mb P T m f xs h=some x:=by
 refine pe ?_
 simp only [xK,h1,h2,hx,hb]
theorem Rf {g:List AV→AHeap→Option (AV × AHeap)}(h1:T.intr f=some g)(hx:g xs h=some x):mb P T m f xs h=some x:=by
 refine pe ?_
 simp only [xK,h1,hx]
theorem tY {g:List AV→AHeap→Option (AV × AHeap)}(h1:T.intr f=some g):mb P T m f xs h=g xs h:=by
 cases hg:g xs h with
 | some x=>exact Rf h1 hg
 | none=>
  cases hc:mb P T m f xs h with
  | none=>rfl
  | some x=>
   obtain⟨n,hn⟩:=pd.1 hc
   cases n with
   | zero=>simp [iI] at hn
   | succ n=>simp only [iI,h1,hg] at hn; cases hn
end
end Go.R
namespace Go.R
open Go
def bm:List ak→List Nat→List (ak × Nat)
 | [],_=>[]
 | n::ns,ids=>(n,ids.headD 0)::bm ns ids.tail
def Mw (ids:List Nat)(i:Int):Nat:=ids.getD i.toNat 0
def Dq (ns:List ak)(ids:List Nat):List Nat:=(bm ns ids).map fun p=>p.2
def dJ:bM (ak × Nat):={n:=4,f:=fun x=>[.int .i64 x.1.kind,.int .i64 x.1.int,.str x.1.label,.rs x.2 0 x.1.args.length 1],len:=fun _=>rfl,pos:=by decide,flat:=false,pure:=fun _ h=>(by cases h),canon:=fun _=>rfl}
def Fj (p:ak × Nat):Nat × Ct:=(p.2,.sl p.1.args.length 1 (ab.l p.1.args))
def fA (ns:List ak)(ids:List Nat):Mem:=(bm ns ids).map Fj
theorem gu:∀(ns:List ak) (ids:List Nat),(bm ns ids).length=ns.length
 | [],_=>rfl
 | n::ns,ids=>by simp [bm,gu ns]
theorem zQ (ids:List Nat):ids.headD 0=ids.getD 0 0:=by cases ids<;>rfl
theorem B3 (ids:List Nat)(i:Nat):ids.tail.getD i 0=ids.getD (i+1) 0:=by cases ids<;>simp
theorem rZ:∀(ns:List ak) (ids:List Nat) (i:Nat) (n:ak),ns[i]? = some n→(bm ns ids)[i]? = some (n,ids.getD i 0)
 | [],_,i,n,h=>by simp at h
 | a::ns,ids,0,n,h=>by
  simp only [ajx,aiL] at h
  subst h
  show (some (a,ids.headD 0):Option (ak × Nat))=some (a,ids.getD 0 0)
  rw [zQ]
 | a::ns,ids,i+1,n,h=>by
  simp only [ajV] at h
  have:=rZ ns ids.tail i n h
  simp only [bm,ajV,this,B3]
theorem lb {ns:List ak}{ids:List Nat}{i:Int}{n:ak}(h:ix ns i=some n):ix (bm ns ids) i=some (n,Mw ids i):=by
 obtain⟨h0,h1,h2⟩:=jQ h
 unfold ix Mw
 rw [if_pos h0,rZ ns ids _ _ h2]
theorem zR:∀(ns:List ak) (ids:List Nat) (n:ak) (ad:Nat),bm (ns++[n]) (Dq ns ids++[ad])=bm ns ids++[(n,ad)]
 | [],ids,n,ad=>rfl
 | a::ns,ids,n,ad=>by
  have:=zR ns ids.tail n ad
  simp only [Dq,bm,ai9,ajv,List.headD_cons,List.tail_cons] at this ⊢
  rw [this]
theorem zS:∀(ns:List ak) (ids:List Nat) (i:Nat) (n:ak),bm (ns.set i n) ids=(bm ns ids).set i (n,ids.getD i 0)
 | [],_,_,_=>rfl
 | a::ns,ids,0,n=>by
  show (n,ids.headD 0)::bm ns ids.tail=(n,ids.getD 0 0)::bm ns ids.tail
  rw [zQ]
 | a::ns,ids,i+1,n=>by
  have:=zS ns ids.tail i n
  simp only [List.set_cons_succ,bm,this,B3]
theorem Rh (ns:List ak)(ids:List Nat)(n:ak)(ad:Nat):fA (ns++[n]) (Dq ns ids++[ad])=fA ns ids++[Fj (n,ad)]:=by
 unfold fA; rw [zR,ai5]; rfl
theorem Ri (ns:List ak)(ids:List Nat)(i:Nat)(n:ak):fA (ns.set i n) ids=(fA ns ids).set i (Fj (n,ids.getD i 0)):=by
 unfold fA; rw [zS,List.map_set]
theorem Has.perm {h:AHeap}{K K':Mem}(o:Has h K)(p:K'.Perm K):Has h K':=by
 have hP:K.Pairwise fun a b=>a.1≠0→a.1≠b.1:=by
  rw [List.pairwise_iff_getElem]
  intro i j hi hj Er h0 he
  have:=o.nd i j K[i].1 K[i].2 K[j].2 (by rw [aiN hi]) (by rw [aiN hj,he]) h0
  omega
 have hP':K'.Pairwise fun a b=>a.1≠0→a.1≠b.1:=(p.pairwise_iff (fun {a b} h h0 he=>h (by rw [←he]; exact h0) he.symm)).2 hP
 rw [List.pairwise_iff_getElem] at hP'
 refine⟨fun j i c hj=>?_,fun j j' i c c' hj GV h0=>?_,o.pos⟩
 ·obtain⟨j',GV⟩:=ajH (p.mem_iff.1 (aiS hj))
  exact o.at_ j' i c GV
 ·obtain⟨a1,a2⟩:=aiO.1 hj
  obtain⟨b1,b2⟩:=aiO.1 GV
  rcases Nat.lt_trichotomy j j' with hl | hl | hl
  ·have:=hP' j j' a1 b1 hl
   rw [a2,b2] at this
   exact absurd rfl (this h0)
  ·exact hl
  ·have:=hP' j' j b1 a1 hl
   rw [a2,b2] at this
   exact absurd rfl (this h0)
section
variable {P:Program}{t t2 tf:TypeId}{h:AHeap}{pre L:Mem}{ns r:List ak}{ids:List Nat}{i ad k n2:Nat}{j a v:Int}{n:ak}
theorem wH (hx:ix ns j=some n):(pre++(fA ns ids++L))[pre.length+j.toNat]? = some (Mw ids j,.sl n.args.length 1 (ab.l n.args)):=by
 obtain⟨h0,h1,h2⟩:=jQ hx
 rw [ai0 (by omega),ajK]
 have hl:j.toNat<(fA ns ids).length:=by unfold fA; rw [aiY,gu]; omega
 rw [ai6 hl]
 unfold fA
 rw [aje,rZ ns ids _ _ h2]
 rfl
theorem Has.gone (o:Has h (pre++(fA ns ids++L))):Has h (pre++L):=by
 refine o.sub (fun q=>if q<pre.length then q else q+(fA ns ids).length) (fun q p hq=>?_) (fun q q' he=>?_)
 ·by_cases hl:q<pre.length
  ·rw [ai6 hl] at hq
   rw [if_pos hl,ai6 hl]; exact hq
  ·rw [ai0 (by omega)] at hq
   rw [if_neg hl,ai0 (by omega),ai0 (by omega),←hq]
   congr 1; omega
 ·split at he<;>split at he<;>omega
theorem NM {b:Nat}{kind int:Int}{label:ByteArray}{args:List Int}{x:AV}(T:BU P t 4 b=true)(o:Has h ((i,.sl k 4 (dJ.l (bm ns ids)))::(ad,.sl n2 1 (ab.l args))::(pre++(fA ns ids++L))))
  (hx:fN h 4 x=some ([.int .i64 kind,.int .i64 int,.str label,.rs ad 0 n2 1],1)) (jz:ly P t2 x=true) (hr:app b ns [⟨kind,int,label,args⟩]=some r) :
  ∃i' Xl h',eC P h t t2 (.rs i 0 k 4) x=some (.rs i' 0 r.length 4,h')∧Has h' ((i',.sl r.length 4 (dJ.l (bm r Xl)))::(pre++(fA r Xl++L))):=by
 have hn:n2=args.length:=dX (E:=ab) o (q:=1) rfl
 subst hn
 obtain⟨_,_,rfl⟩:=zG hr
 have EW:app b (bm ns ids) [((⟨kind,int,label,args⟩:ak),ad)]=some (bm ns ids++[((⟨kind,int,label,args⟩:ak),ad)]):=by
  unfold app at hr ⊢
  rw [gu]
  split at hr
  ·rename_i hh
   simp only [aiX,ai4] at hh ⊢
   rw [if_pos hh]
  ·cases hr
 have QF:fN h dJ.n x=some (dJ.l [((⟨kind,int,label,args⟩:ak),ad)],[((⟨kind,int,label,args⟩:ak),ad)].length):=hx
 obtain⟨i',h',e,o'⟩:=eu (E:=dJ) (l:=bm ns ids) (q:=0) T o rfl QF jz EW
 have e:eC P h t t2 (.rs i 0 k 4) x=some (.rs i' 0 (bm ns ids++[((⟨kind,int,label,args⟩:ak),ad)]).length 4,h'):=e
 refine⟨i',Dq ns ids++[ad],h',?_,?_⟩
 ·rw [e,aiT,aiT,gu]; rfl
 ·rw [Rh,zR]
  have o':Has h' ((i',.sl (bm ns ids++[((⟨kind,int,label,args⟩:ak),ad)]).length 4 (dJ.l (bm ns ids++[((⟨kind,int,label,args⟩:ak),ad)])))::Fj (⟨kind,int,label,args⟩,ad)::(pre++(fA ns ids++L))):=o'
  have el:(ns++[(⟨kind,int,label,args⟩:ak)]).length=(bm ns ids++[((⟨kind,int,label,args⟩:ak),ad)]).length:=by
   rw [aiT,aiT,gu]; rfl
  rw [el]
  refine o'.perm (List.Perm.cons _ ?_)
  have k1:pre++((fA ns ids++[Fj ((⟨kind,int,label,args⟩:ak),ad)])++L)=(pre++fA ns ids)++Fj (⟨kind,int,label,args⟩,ad)::L:=by simp
  have k2:pre++(fA ns ids++L)=(pre++fA ns ids)++L:=by simp
  rw [k1,k2]
  exact List.perm_middle
theorem Uo {old:Int}(o:Has h ((i,.sl k 4 (dJ.l (bm ns ids)))::(pre++(fA ns ids++L))))(hs:iR P tf=some 1)(hx:ix ns j=some n)(hk:ix n.args a=some old) :
  ∃h',lP P h tf (.ptr (Mw ids j) (0+a.toNat*1)) (.int .i64 v)=some h'∧
   Has h' ((i,.sl k 4 (dJ.l (bm (ns.set j.toNat ⟨n.kind,n.int,n.label,n.args.set a.toNat v⟩) ids)))::(pre++(fA (ns.set j.toNat ⟨n.kind,n.int,n.label,n.args.set a.toNat v⟩) ids++L))):=by
 obtain⟨h0,h1,h2⟩:=jQ hx
 have hq:=wH (pre:=(i,.sl k 4 (dJ.l (bm ns ids)))::pre) (L:=L) (ids:=ids) hx
 obtain⟨h',e,o'⟩:=dD (P:=P) (tf:=tf) (E:=ab) (l:=n.args) (v:=v) (x:=.int .i64 v) o hq hs hk rfl rfl
 refine⟨h',e,?_⟩
 have hl:j.toNat<(fA ns ids).length:=by unfold fA; rw [aiY,gu]; omega
 have e1:dJ.l (bm (ns.set j.toNat ⟨n.kind,n.int,n.label,n.args.set a.toNat v⟩) ids)=dJ.l (bm ns ids):=by
  rw [zS]
  have hz:=rZ ns ids _ _ h2
  have:=bM.Nw (E:=dJ) (l:=bm ns ids) (i:=j.toNat) (a:=(n,ids.getD j.toNat 0)) (b:=(⟨n.kind,n.int,n.label,n.args.set a.toNat v⟩,ids.getD j.toNat 0)) hz []
  have h3:=bM.Nw (E:=dJ) (l:=bm ns ids) (i:=j.toNat) (a:=(n,ids.getD j.toNat 0)) (b:=(n,ids.getD j.toNat 0)) hz []
  have hf:dJ.f (⟨n.kind,n.int,n.label,n.args.set a.toNat v⟩,ids.getD j.toNat 0)=dJ.f (n,ids.getD j.toNat 0):=by
   show [AV.int .i64 n.kind,.int .i64 n.int,.str n.label,.rs (ids.getD j.toNat 0) 0 (n.args.set a.toNat v).length 1]=_
   rw [ajw]; rfl
  rw [hf,h3] at this
  rw [ajJ,ajJ] at this
  rw [←this]
  congr 1
  obtain⟨g1,g2⟩:=aiO.1 hz
  rw [←g2,List.set_getElem_self]
 rw [e1,Ri]
 have e2:((((i,Ct.sl k 4 (dJ.l (bm ns ids)))::pre)++(fA ns ids++L)).set (((i,Ct.sl k 4 (dJ.l (bm ns ids)))::pre).length+j.toNat) (Mw ids j,.sl n.args.length ab.n (ab.l (n.args.set a.toNat v)))) =
   ((i,Ct.sl k 4 (dJ.l (bm ns ids)))::pre)++((fA ns ids).set j.toNat (Fj (⟨n.kind,n.int,n.label,n.args.set a.toNat v⟩,ids.getD j.toNat 0))++L):=by
  rw [ajM _ _ (by omega),ajK,List.set_append_left _ _ hl]
  show _=((i,Ct.sl k 4 (dJ.l (bm ns ids)))::pre)++((fA ns ids).set j.toNat (ids.getD j.toNat 0,.sl (n.args.set a.toNat v).length 1 (ab.l (n.args.set a.toNat v)))++L)
  rw [ajw]; rfl
 have o2:Has h' ((((i,Ct.sl k 4 (dJ.l (bm ns ids)))::pre)++(fA ns ids++L)).set (((i,Ct.sl k 4 (dJ.l (bm ns ids)))::pre).length+j.toNat) (Mw ids j,.sl n.args.length ab.n (ab.l (n.args.set a.toNat v)))):=o'
 rw [e2] at o2
 exact o2
def ez:Nat:=2251799813685248
theorem Fk:∀(ns:List ak) (ids:List Nat),(bm ns ids).map (fun p=>p.1)=ns
 | [],_=>rfl
 | n::ns,ids=>by simp [bm,Fk ns]
theorem Ja:∀(zs:List (ak × Nat)),(∀p∈zs,∀n,ki≤n→dk h n (.rs p.2 0 p.1.args.length 1)=some (ab.fz p.1.args))→∀n,ki+4*zs.length+1≤n→b6 h n (dJ.l zs)=some (af.l (zs.map fun p=>p.1))
 | [],_,n,hn=>by
  obtain⟨m,rfl⟩:∃m,n=m+1:=⟨n - 1,by omega⟩
  rfl
 | p::zs,hz,n,hn=>by
  obtain⟨m,rfl⟩:∃m,n=m+4+1:=⟨n - 5,by simp only [aiX] at hn; simp only [ki] at hn; omega⟩
  simp only [aiX] at hn
  have h1:=Ja zs (fun q hq=>hz q (by simp [hq])) (m+1) (by omega)
  have h2:=hz p (by simp) (m+1) (by omega)
  show b6 h (m+4+1) (.int .i64 p.1.kind :: .int .i64 p.1.int :: .str p.1.label :: .rs p.2 0 p.1.args.length 1::dJ.l zs)=some (.int .i64 p.1.kind :: .int .i64 p.1.int :: .str p.1.label::ab.fz p.1.args::af.l (zs.map fun p=>p.1))
  have a1:∀(n:Nat) (k:IntKind) (z:Int),dk h (n+1) (.int k z)=some (.int k z):=fun _ _ _=>rfl
  have a2:∀(n:Nat) (s:ByteArray),dk h (n+1) (.str s)=some (.str s):=fun _ _=>rfl
  rw [show m+4+1=(m+1+1+1+1)+1 by omega]
  simp only [b6,a1,a2,aiI,h1,h2,aiR]
theorem wI {q:Nat}(o:Has h (pre++(fA ns ids++L)))(hq:(pre++(fA ns ids++L))[q]? = some (i,.sl k 4 (dJ.l (bm ns ids)))):nF ez h (.rs i 0 k 4) (af.fz ns):=by
 intro m hm
 have hk:k=(bm ns ids).length:=dX (E:=dJ) o hq
 rw [gu] at hk
 subst hk
 obtain⟨⟨⟨hlen,wj⟩,oQ⟩,hlt⟩:=o.at_ _ _ _ hq
 have hlen:(dJ.l (bm ns ids)).length=ns.length*4:=hlen
 obtain⟨k,rfl,hk⟩:=pS (show ki≤m by omega)
 simp only [dk]
 rcases oQ with⟨h0,h1⟩| ⟨h0,rest,h1⟩
 ·have:ns=[]:=by simpa using h1
  subst this
  simp [h0,bM.fz,bM.l]
 ·rw [if_neg h0,h1]
  simp only [aiI]
  have e1:((dJ.l (bm ns ids)++rest).drop 0).take (ns.length*4)=dJ.l (bm ns ids):=by
   rw [aji,ajl (by omega),ajp (by omega)]
  rw [if_pos (by rw [aiT,hlen]; omega),e1,Ja (bm ns ids) (fun p hp n hn=>?_) k (by rw [gu]; simp only [ki,ez] at hm ⊢; omega),Fk]
  ·rfl
  ·obtain⟨j,hj,e⟩:=List.getElem_of_mem hp
   have W3:(pre++(fA ns ids++L))[pre.length+j]? = some (p.2,.sl p.1.args.length 1 (ab.l p.1.args)):=by
    have hl:j<(fA ns ids).length:=by unfold fA; rw [aiY]; exact hj
    rw [ai0 (by omega),ajK,ai6 hl]
    unfold fA
    rw [aje,aiN hj,e]; rfl
   exact cC (E:=ab) (l:=p.1.args) o W3 (fun _=>rfl) rfl n hn
end
end Go.R
namespace Go.R
open Go
inductive Et
 | b (i:Nat) {x y:Bool} (h:x=y)
 | v (i:Nat) {e:Option AV} {z:AV} (h:e=some z)
 | w (i:Nat) {e:Option AHeap} {g:AHeap} (h:e=some g)
 | a (i:Nat) {e:Option (AV × AHeap)} {z:AV} {g:AHeap} (h:e=some (z,g))
 | m (i:Nat) {e:AV × AHeap} {z:AV} {g:AHeap} (h:e=(z,g))
def Et.orc:Et→Nat × AV × Option AHeap
 | @b i x y h=>(i,.bool y,none)
 | @v i e z h=>(i,z,none)
 | @w i e g h=>(i,.any,some g)
 | @a i e z g h=>(i,z,some g)
 | @m i e z g h=>(i,z,some g)
def Et.fr:Et→AV × AHeap
 | @a i e z g h=>(z,g)
 | _=>(.any,bH)
def Et.p:Et→Prop
 | @b i x y h=>AV.bool x=AV.bool y
 | @v i e z h=>e=some z
 | @w i e g h=>e=some g
 | @a i e z g h=>e=some (z,g)
 | @m i e z g h=>e=(z,g)
theorem Et.ok:∀g:Et,g.p
 | @b i x y h=>congrArg AV.bool h
 | @v i e z h=>h
 | @w i e g h=>h
 | @a i e z g h=>h
 | @m i e z g h=>h
def Fl:List Et→QQ
 | []=>[]
 | g::gs=>g.orc::Fl gs
def LH:List Et→List (AV × AHeap)
 | []=>[]
 | g::gs=>g.fr::LH gs
def ps:List Et→Prop
 | []=>True
 | g::gs=>g.p∧ps gs
theorem Fm:∀gs,ps gs
 | []=>trivial
 | g::gs=>⟨g.ok,Fm gs⟩
def cA:Code→Code
 | .seq a _=>a
 | .cond _ a _=>a
 | .block _ a=>a
 | .loop a=>a
 | _=>.skip
def cB:Code→Code
 | .seq _ b=>b
 | .cond _ _ b=>b
 | _=>.skip
def kd:Code→Nat
 | .skip=>0
 | .ret=>1
 | .seq _ _=>2
 | .loop _=>3
 | _=>9
def aao:Code→Option Nat
 | .exit i=>some i
 | _=>none
def aap:Code→Option Nat
 | .block i _=>some i
 | _=>none
def cnd (A:b4)(c:Code)(s:St):Option AV:=
 match c with
 | .cond k _ _=>some (cZ (s.open A).ρ k)
 | _=>none
def nx (P:Program)(cf:CallF)(A:b4)(c:Code)(fs gs:List Et)(s:St):St:=((tA P cf A c (LH fs) (Fl gs) s).map (·.2)).getD s
section
variable {P:Program}{cf:CallF}{A:b4}{m:Nat}{c:Code}{s:St}{Q R:Ex→St→Prop}
theorem Jb (fs gs:List Et)(hQ:Q .norm (nx P cf A c fs gs s))(h:(tA P cf A c (LH fs) (Fl gs) s).map (·.1)=some (ps fs∧ps gs):=by kernel_rfl):dE P cf A m c s Q:=by
 unfold nx at hQ
 obtain⟨⟨p,s'⟩,h1,rfl⟩:=aiK.1 h
 rw [h1] at hQ
 exact Nr h1 ⟨Fm fs,Fm gs⟩ hQ
theorem qr (gs:List Et)(hQ:Q .norm (nx P cf A c [] gs s))(h:(tA P cf A c [] (Fl gs) s).map (·.1)=some (True∧ps gs):=by kernel_rfl):dE P cf A m c s Q:=Jb [] gs hQ h
theorem q0 (hQ:Q .norm (nx P cf A c [] [] s))(h:(tA P cf A c [] [] s).map (·.1)=some (True∧True):=by kernel_rfl):dE P cf A m c s Q:=Jb [] [] hQ h
theorem isq (h:kd c=2):c = .seq (cA c) (cB c):=by cases c<;>first | rfl | cases h
theorem qq (hQ:dE P cf A m (cA c) s (Ua (fun s'=>dE P cf A m (cB c) s' Q) Q))(h:kd c=2:=by kernel_rfl):dE P cf A m c s Q:=by rw [isq h]; exact E8 hQ
theorem qsf (fs gs:List Et)(hQ:dE P cf A m (cB c) (nx P cf A (cA c) fs gs s) Q)(h:kd c=2:=by kernel_rfl)(h2:(tA P cf A (cA c) (LH fs) (Fl gs) s).map (·.1)=some (ps fs∧ps gs):=by kernel_rfl):dE P cf A m c s Q:=qq (Jb fs gs hQ h2) h
theorem qs (gs:List Et)(hQ:dE P cf A m (cB c) (nx P cf A (cA c) [] gs s) Q)(h:kd c=2:=by kernel_rfl)(h2:(tA P cf A (cA c) [] (Fl gs) s).map (·.1)=some (True∧ps gs):=by kernel_rfl):dE P cf A m c s Q:=qsf [] gs hQ h h2
theorem q1 (hQ:dE P cf A m (cB c) (nx P cf A (cA c) [] [] s) Q)(h:kd c=2:=by kernel_rfl)(h2:(tA P cf A (cA c) [] [] s).map (·.1)=some (True∧True):=by kernel_rfl):dE P cf A m c s Q:=qsf [] [] hQ h h2
theorem qk (hQ:Q .norm s)(h:kd c=0:=by kernel_rfl):dE P cf A m c s Q:=by
 have:c = .skip:=by cases c<;>first | rfl | cases h
 rw [this]; exact Lw hQ
theorem qt (hQ:Q .ret s)(h:kd c=1:=by kernel_rfl):dE P cf A m c s Q:=by
 have:c = .ret:=by cases c<;>first | rfl | cases h
 rw [this]; exact Ns hQ
theorem qx (i:Nat)(hQ:Q (.exit i) s)(h:aao c=some i:=by kernel_rfl):dE P cf A m c s Q:=by
 have:c = .exit i:=by cases c<;>first | (cases h; rfl) | cases h
 rw [this]; exact Lx hQ
theorem qb (i:Nat)(hQ:dE P cf A m (cA c) s (Blk i Q))(h:aap c=some i:=by kernel_rfl):dE P cf A m c s Q:=by
 have:c = .block i (cA c):=by cases c<;>first | (cases h; rfl) | cases h
 rw [this]; exact Hw hQ
theorem qc {α:Type}{b:Bool}{x y z:Option α}(H:(if b=true then x else y)=z)(ht:b=true→x=z→dE P cf A m (cA c) s Q)(hf:b=false→y=z→dE P cf A m (cB c) s Q)(h:cnd A c s=some (.bool b):=by kernel_rfl):dE P cf A m c s Q:=by
 cases c<;>first | cases h | skip
 rename_i k a e
 exact wD b (ajn h) (fun hb=>ht hb (ifp hb H)) (fun hb=>hf hb (ifn hb H))
theorem Bb (hQ:dE P cf A m (cA c) s Q)(h:cnd A c s=some (.bool true):=by kernel_rfl):dE P cf A m c s Q:=by
 cases c<;>first | cases h | skip
 exact wD true (ajn h) (fun _=>hQ) (fun hb=>by cases hb)
theorem Dr (hQ:dE P cf A m (cB c) s Q)(h:cnd A c s=some (.bool false):=by kernel_rfl):dE P cf A m c s Q:=by
 cases c<;>first | cases h | skip
 exact wD false (ajn h) (fun hb=>by cases hb) (fun _=>hQ)
theorem ql {c':Code}(h:dE P cf A m c' s Q)(k:∀e s',Q e s'→R e s')(hc:c=c':=by kernel_rfl):dE P cf A m c s R:=by rw [hc]; exact BX h k
theorem qj {α β:Type}{S:α→St→Prop}(f:α→Option β){out:β}{z:Option β}(h0:z=some out)(hB:∀σ s,S σ s→f σ=some out→dE P cf A m (cB c) s Q)
  (hA:(∀σ s,S σ s→f σ=some out→dE P cf A m (cB c) s Q)→dE P cf A m (cA c) s (Ua (fun s'=>dE P cf A m (cB c) s' Q) Q)) (h:kd c=2:=by kernel_rfl):dE P cf A m c s Q:=by
 rw [isq h]; exact E8 (hA hB)
end
def b9 {S O:Type}(P:Program)(cf:CallF)(A:b4)(m:Nat)(c:Code)(l:Nat→S→Option O)(R:S→St→Prop)(Q:O→Ex→St→Prop):Prop:=∀σ s out,R σ s→l m σ=some out→dE P cf A m (.loop c) s (Q out)
theorem jF {S O:Type}{P:Program}{cf:CallF}{A:b4}{m:Nat}{c:Code}{l:Nat→S→Option O}{R:S→St→Prop}{Q:O→Ex→St→Prop}(h0:∀σ,l 0 σ=none)
  (step:∀k σ s out,R σ s→l (k+1) σ=some out→dE P cf A m c s (Nt l R Q k out)):b9 P cf A m c l R Q:=fun _ _ _ hr H=>Ly l R Q h0 step hr H (fun _ _ _ h=>h)
def Up:Nat→List Nat→List Nat
 | _,[]=>[]
 | k,x::xs=>bif ajy (k % 2) 1 then x::Up (k / 2) xs else Up (k / 2) xs
def Xm (keep:List Nat):Nat→List Nat→List (Nat × List Nat)
 | _,[]=>[]
 | r,k::ks=>(r,Up k keep)::Xm keep (r+1) ks
def gL (keep bb ms:List Nat)(CO G9:List (Nat × List (Nat × Option Nat × Nat))):b4:={keep:=keep,bb:=bb,dead:=Xm keep 0 ms,CO:=CO,G9:=G9}
theorem eV {α:Type}{b:Bool}{x y z:α}(H:(if b=true then x else y)=z):(b=true∧x=z)∨(b=false∧y=z):=by
 cases b with
 | true=>exact .inl ⟨rfl,H⟩
 | false=>exact .inr ⟨rfl,H⟩
theorem oi {α:Type}{a b:α}(h:some a=some b):a=b:=ajn h
theorem pX {P:Program}{A:b4}{s:St}{rs:List ResultVar}{y:AV}(av:AV)(g:AHeap)(h:eX g av y)(h1:aK P (s.open A) rs=some av:=by kernel_rfl)(h2:s.h=g:=by kernel_rfl):∃av,aK P (s.open A) rs=some av∧eX s.h av y:=⟨av,h1,h2 ▸ h⟩
theorem Qi {P:Program}{A:b4}{s:St}{rs:List ResultVar}{y:AV}(av:AV)(g:AHeap)(h:Hy g av y)(h1:aK P (s.open A) rs=some av:=by kernel_rfl)(h2:s.h=g:=by kernel_rfl):∃av,aK P (s.open A) rs=some av∧Hy s.h av y:=⟨av,h1,h2 ▸ h⟩
theorem he {g g':AHeap}{K:Mem}(o:Has g K)(h:g'=g:=by kernel_rfl):Has g' K:=h ▸ o
end Go.R
namespace Go.R
open Go Go.Proofs Go.Shelf Go.RowKit Go.Sort
def tZ:List AV→Option (List Int)
 | []=>some []
 | .int .i64 z::xs=>(tZ xs).map fun l=>z::l
 | _=>none
theorem r6:∀{xs:List AV} {l:List Int},tZ xs=some l→xs=l.map fun z=>.int .i64 z
 | [],l,h=>by cases h; rfl
 | x::xs,l,h=>by
  unfold tZ at h
  split at h
  ·rename_i e; cases e
  ·rename_i z ys e
   obtain⟨rfl,rfl⟩:=List.cons.inj e
   obtain⟨l',h1,rfl⟩:=aiK.1 h
   rw [r6 h1]; rfl
  ·cases h
theorem zT:∀l:List Int,tZ (l.map fun z=>.int .i64 z)=some l
 | []=>rfl
 | z::l=>by simp only [ai9,tZ,zT l,aiR]
def kK (l:List Int):List Int:=l.mergeSort fun x y=>decide (x≤y)
noncomputable def Uq (args:List AV)(h:AHeap):Option (AV × AHeap):=
 match args with
 | [.rs id 0 n 1]=>if n=0 then some (.tup [],h) else (h.get id).bind fun
  | .cells cs=>if n≤cs.length∧n<4611686018427387904 then (tZ (cs.take n)).map fun l=>(.tup [],h.put id (.cells ((kK l).map (fun z=>.int .i64 z)++cs.drop n))) else none
  | _=>none
 | _=>none
theorem LI:∀args h r h',Uq args h=some (r,h')→Steady h h':=by
 intro args h r h' hs
 unfold Uq at hs
 split at hs
 ·split at hs
  ·cases hs; exact Steady.refl _
  ·rw [aiJ] at hs
   obtain⟨o,_,hs⟩:=hs
   split at hs
   ·split at hs
    ·obtain⟨l,_,hs⟩:=aiK.1 hs
     cases hs; exact Steady.put _ _ _
    ·cases hs
   ·cases hs
 ·cases hs
section
variable {c:Cx}{L0:Nat→Prop}
theorem LJ (hrel:HRel c L0){id n:Nat}{cs:List AV}{l:List Int}(hid:c.h.get id=some (.cells cs))(hl:tZ (cs.take n)=some l):Holds (Value.int .i64) c.w (c.β id).1 (c.β id).2 l.toArray:=by
 obtain⟨m,⟨C,T,hC,hn⟩,hle,hcl⟩:=hrel.obj _ _ hid
 intro j hj
 have hj:j<l.length:=by simpa using hj
 have hx:cs[j]? = some (.int .i64 l[j]):=by
  have h1:(cs.take n)[j]? = some (.int .i64 l[j]):=by rw [r6 hl,aje,aiN hj]; rfl
  rw [List.getElem?_take] at h1
  split at h1
  ·exact h1
  ·cases h1
 obtain⟨v,h1,_,h3⟩:=hcl.get' j _ hx
 simp only [VR] at h3
 subst h3
 refine⟨by rw [h1]; simp [hj],by simp [World.frozen?,hC]⟩
theorem Rj (hrel:HRel c L0)(hbs:c.base≤c.w.heap.size){id n:Nat}{cs:List AV}{new:List Int}(hid:c.h.get id=some (.cells cs))(hn:n≤cs.length)(hnew:new.length=n)(q:Nat)(os:Array Obj) :
  let w':=grow (putRow (Value.int .i64) (Sort.ahead c.w q) (c.β id).1 (c.β id).2 new.toArray) os
  let c':Cx:=⟨c.β,c.h.put id (.cells (new.map (fun z=>.int .i64 z)++cs.drop n)),w',c.base⟩
  HRel c' L0∧Ext c none0 c' none0∧c'.len (c.β id).1=c.len (c.β id).1:=by
 intro w' c'
 have hun:un L0 none0=L0:=by funext b; simp [un,none0]
 have f:=Fr.none hrel
 obtain⟨m,⟨C,T,hC,hm⟩,hle,hcl⟩:=hrel.obj _ _ hid
 have hlive:Live c.h id:=⟨hrel.lt _ _ hid,by rw [hid]; rfl⟩
 have hblt:(c.β id).1<c.w.heap.size:=(ajt.1 hC).1
 have yb:∀k,k<c.w.heap.size→w'.heap[k]? = if k=(c.β id).1 then some (.cells (putCells (Value.int .i64) (c.β id).2 new.toArray C) T (0,0)) else c.w.heap[k]?:=fun k hk=>by
  show (grow _ os).heap[k]? = _
  rw [heap_grow_old _ _ (by simp [putRow,mapBlock,Sort.ahead]; exact hk)]
  by_cases h:k=(c.β id).1
  ·subst h; simp [putRow,mapBlock,Sort.ahead,aj3,hC,onCells]
  ·have h2:(c.β id).1≠k:=fun e=>h e.symm
   simp [putRow,mapBlock,Sort.ahead,aj3,h,h2]
 have Ba:w'.heap[(c.β id).1]? = some (.cells (putCells (Value.int .i64) (c.β id).2 new.toArray C) T (0,0)):=by rw [yb _ hblt,if_pos rfl]
 have hsz:(putCells (Value.int .i64) (c.β id).2 new.toArray C).size=C.size:=by simp [putCells]
 have hlen:((w'.shape? (c.β id).1).map (·.2)).getD 0=c.len (c.β id).1:=by
  simp only [Cx.len,World.shape?,Ba,hC,aiR,ajR,hsz]
 have Xn:c.w.heap.size≤w'.heap.size:=by
  show _≤(grow _ os).heap.size
  simp [grow,putRow,mapBlock,Sort.ahead]
 obtain⟨e2,f2⟩:=f.upd (w':=w') (β':=c.β) (h':=c.h.put id (.cells (new.map (fun z=>.int .i64 z)++cs.drop n))) id (.cells (new.map (fun z=>.int .i64 z)++cs.drop n)) (Steady.put _ _ _) (akg hlive.1) (by simp [AHeap.put,beq_nat])
  (fun j hj=>.inr ⟨by simp [AHeap.put,beq_nat,hj],rfl⟩) (fun _=>⟨hlive,rfl⟩) (.inr ⟨id,hlive,rfl,.inl rfl⟩)
  (fun _=>hlen) (fun k hk hne=>by rw [yb k hk,if_neg hne]) (fun k hk hne=>by rw [yb k (by omega),if_neg hne]) Xn hbs rfl rfl rfl
  (fun ee=>by
   refine⟨C.size,⟨_,T,Ba,hsz⟩,by rw [aiT,aiY,List.length_drop,hnew]; omega,?_⟩
   rw [Cells.iff]
   intro i x hx
   show ∃v,w'.cell? _=some v∧_
   rw [cell_of_block Ba]
   have hi:i<cs.length:=by
    have:=(aiO.1 hx).1
    rw [aiT,aiY,List.length_drop,hnew] at this; omega
   have hC2:(putCells (Value.int .i64) (c.β id).2 new.toArray C)[(c.β id).2+i]? = C[(c.β id).2+i]?.map fun x=>if (c.β id).2≤(c.β id).2+i∧(c.β id).2+i<(c.β id).2+new.toArray.size then Value.int .i64 new.toArray[(c.β id).2+i - (c.β id).2]! else x:=by
    unfold putCells; rw [Array.getElem?_mapIdx]
   rw [hC2]
   by_cases h:i<n
   ·rw [ai6 (by rw [aiY,hnew]; exact h),aje,aiN (by omega)] at hx
    simp only [aiR,aiL] at hx
    subst hx
    have hCi:(c.β id).2+i<C.size:=by omega
    rw [Array.getElem?_eq_getElem hCi]
    refine⟨.int .i64 new[i],?_,rfl,by simp [VR]⟩
    simp only [aiR,aiL]
    rw [if_pos ⟨by omega,by simp [hnew]; exact h⟩,ajK]
    simp [show i<new.length by omega]
   ·rw [ai0 (by rw [aiY,hnew]; omega),aiY,hnew,List.getElem?_drop,show n+(i - n)=i by omega] at hx
    obtain⟨v,v1,v2,v3⟩:=hcl.get' i x hx
    rw [cell_of_block hC] at v1
    refine⟨v,?_,v2,?_⟩
    ·rw [v1]
     simp only [aiR,aiL]
     rw [if_neg (by simp [hnew]; omega)]
    ·have:=VR.ext ee (L0:=L0) x v (by rw [hun]; exact v3)
     exact this)
 exact⟨by have:=f2.rel; rwa [hun] at this,e2,hlen⟩
end
section
variable {P:Program}{ρ:Ren}
theorem Xo (L:Lays.n189 P ρ)(henter:∀(vs:Array Value) (w:World),(callFunc (ρ.f 189) vs).run P w = .ok (.enter (ρ.f 189) vs) w) :
  CallOK P fun f' args h=>if f'=ρ.f 189 then Uq args h else none:=by
 intro f args h r h' hc
 dsimp only at hc
 split at hc
 rotate_left
 ·cases hc
 rename_i hf
 subst hf
 refine⟨henter,fun L0 c vs hh hb0 hrel hargs=>?_⟩
 subst hh
 unfold Uq at hc
 split at hc
 rotate_left
 ·cases hc
 rename_i id n
 match vs,hargs with
 | [v1],⟨q1,_⟩=>
 split at hc
 ·rename_i hn
  subst hn
  cases hc
  have hs:∃a cap,v1 = .slice a 0 cap:=by
   simp only [VR] at q1
   rcases q1 with⟨_,_,_,a,rfl⟩| ⟨_,_,a,cap,rfl,_⟩
   ·exact⟨a,0,rfl⟩
   ·exact⟨a,cap,rfl⟩
  obtain⟨a,cap,rfl⟩:=hs
  refine (Any.slices_Sort_int_none L a cap c.w).mono ?_
  rintro e w' ⟨rfl,rfl⟩
  exact⟨c,_,rfl,rfl,rfl,by simp only [VR]; exact⟨#[],rfl,trivial⟩,hrel,Ext.refl _ _⟩
 ·rename_i hn
  rw [aiJ] at hc
  obtain⟨o,hid,hc⟩:=hc
  split at hc
  rotate_left
  ·cases hc
  rename_i cs
  split at hc
  rotate_left
  ·cases hc
  rename_i hle
  obtain⟨l,hl,he⟩:=aiK.1 hc
  simp only [aiV] at he
  obtain⟨rfl,rfl⟩:=he
  have hlive:Live c.h id:=⟨hrel.lt _ _ hid,by rw [hid]; rfl⟩
  have hll:l.length=n:=by
   have:=congrArg List.length (r6 hl)
   rw [aiY,ajo] at this; omega
  simp only [VR] at q1
  rcases q1 with⟨_,_,h0,_⟩| ⟨_,_,a,cap,rfl,h1,h2,h3⟩
  ·exact absurd h0 hn
  rcases h3 hlive with⟨rfl,h4⟩| h4
  rotate_left
  ·omega
  have hc:=Any.slices_Sort_int L (c.β id).1 (c.β id).2 cap l c.w (LJ hrel hid hl) (hrel.block hlive) (by omega)
  rw [hll] at hc
  refine hc.mono ?_
  rintro e w' ⟨rfl,q,os,rfl⟩
  have hsl:(kK l).length=n:=by unfold kK; rw [List.length_mergeSort,hll]
  obtain⟨g1,g2,_⟩:=Rj hrel hb0 hid hle.1 hsl q os
  exact⟨_,_,rfl,rfl,rfl,by simp only [VR]; exact⟨#[],rfl,trivial⟩,g1,g2⟩
end
end Go.R
namespace Go.R
open Go
def SX (cf:CallF)(f:FuncId):Prop:=∀args h,cf f args h=Uq args h
theorem wJ (l:List Int):ab.l l=l.map fun z=>.int .i64 z:=by
 induction l with
 | nil=>rfl
 | cons a l ih=>rw [bM.iA,ih]; rfl
theorem pf (l:List Int):(kK l).length=l.length:=by unfold kK; rw [List.length_mergeSort]
section
variable {h:AHeap}{L:Mem}{i n:Nat}{l:List Int}{cf:CallF}{f:FuncId}
theorem Rk (o:Has h ((i,.sl n 1 (ab.l l))::L))(hn:n≠0):n=l.length∧i≠0∧l.length<4611686018427387904∧∃rest,h.get i=some (.cells (l.map (fun z=>.int .i64 z)++rest)):=by
 obtain⟨⟨⟨h1,h2⟩,h3⟩,_⟩:=o.at_ 0 _ _ rfl
 have hl:(ab.l l).length=l.length:=by rw [wJ,aiY]
 rw [hl] at h1 h2
 rcases h3 with⟨_,h⟩| ⟨h,rest,h4⟩
 ·exact absurd h hn
 ·rw [wJ] at h4
  exact⟨by omega,h,by omega,rest,h4⟩
theorem Ur (o:Has h ((i,.sl 0 1 (ab.l l))::L)):l=[]:=by
 obtain⟨⟨⟨h1,_⟩,_⟩,_⟩:=o.at_ 0 _ _ rfl
 rw [wJ,aiY] at h1
 exact ajs (by omega)
theorem NN (S:SX cf f)(o:Has h ((i,.sl n 1 (ab.l l))::L)):∃h',cf f [.rs i 0 n 1] h=some (.tup [],h')∧Has h' ((i,.sl n 1 (ab.l (kK l)))::L):=by
 rw [S]
 by_cases hn:n=0
 ·subst hn
  have:=Ur o
  subst this
  have e:kK []=[]:=by simp [kK]
  exact⟨h,rfl,by rw [e]; exact o⟩
 ·obtain⟨h1,h2,h3,rest,h4⟩:=Rk o hn
  subst h1
  have et:(l.map (fun z=>AV.int .i64 z)++rest).take l.length=l.map fun z=>AV.int .i64 z:=by
   rw [ajl (by simp),ajp (by simp)]
  have ed:(l.map (fun z=>AV.int .i64 z)++rest).drop l.length=rest:=by
   have:=List.drop_left (l₁:=l.map fun z=>AV.int .i64 z) (l₂:=rest)
   rwa [aiY] at this
  refine⟨h.put i (.cells ((kK l).map (fun z=>.int .i64 z)++rest)),?_,?_⟩
  ·unfold Uq
   simp only
   rw [if_neg hn,h4,aiI]
   simp only
   rw [if_pos ⟨by simp,h3⟩,et,zT,aiR,ed]
  ·refine mz (q:=0) o rfl (ob:=.cells ((kK l).map (fun z=>.int .i64 z)++rest)) (c':=.sl l.length 1 (ab.l (kK l))) ⟨⟨?_,?_⟩,.inr ⟨h2,rest,by rw [eF,if_pos rfl,wJ]⟩⟩
   ·rw [wJ,aiY,pf]; omega
   ·have:=(o.at_ 0 _ _ rfl).1.1.2
    rw [wJ,aiY] at this ⊢
    rw [pf]; exact this
end
end Go.R
namespace Go.R
open Go
def Fo (z:Nat)(args:List AV)(h:AHeap):Option (AV × AHeap):=
 match args with
 | [.nils]=>some (.rs 0 0 0 z,h)
 | [.fz cs n _]=>if n=0 then some (.rs 0 0 0 z,h) else if cs.length=n*z∧n*1024≤1099511627776 then some (.rs h.next 0 n z,h.alloc (.cells (cs.map nq))) else none
 | [.rs id 0 n z']=>if n=0 then some (.rs 0 0 0 z,h) else (h.get id).bind fun
  | .cells cs=>if z'=z∧n*z≤cs.length∧n*1024≤1099511627776 then some (.rs h.next 0 n z,h.alloc (.cells ((cs.take (n*z)).map nq))) else none
  | _=>none
 | _=>none
def Fp (cf:CallF)(f:FuncId)(z:Nat):Prop:=∀args h,cf f args h=Fo z args h
def GW (z:Nat){α:Type}(l:List α):Option (List α):=if l.length*1024≤1099511627776 then some l else none
theorem Fq {z:Nat}{α:Type}{l r:List α}(h:GW z l=some r):l.length*1024≤1099511627776∧r=l:=by
 unfold GW at h
 split at h
 ·rename_i g; cases h; exact⟨g,rfl⟩
 ·cases h
section
variable {h:AHeap}{K:Mem}{i n q:Nat}{α:Type}{E:bM α}{l r:List α}{cf:CallF}{f:FuncId}
theorem NO (o:Has h K)(hl:l≠[])(hb:l.length*1024≤1099511627776):Has (h.alloc (.cells (E.l l))) ((h.next,.sl l.length E.n (E.l l))::K):=
 o.new (fun k hk=>by rw [AHeap.alloc,eF,if_neg (by omega)]) (aj5 _) (.inr (aiQ _)) (ajz _) ⟨⟨bM.cN,bM.pQ (by omega)⟩,.inr ⟨by have:=o.pos; omega,[],by rw [AHeap.alloc,eF,if_pos rfl]; simp⟩⟩
theorem Jc (o:Has h K):Has h ((0,.sl ([]:List α).length E.n (E.l []))::K):=Has.nil o E.n
theorem SY (S:Fp cf f E.n)(o:Has h K)(hr:GW E.n l=some r):∃i h',cf f [E.fz l] h=some (.rs i 0 r.length E.n,h')∧Has h' ((i,.sl r.length E.n (E.l r))::K):=by
 obtain⟨hb,rfl⟩:=Fq hr
 rw [S]
 by_cases hl:r=[]
 ·subst hl
  exact⟨0,h,rfl,Jc o⟩
 ·have hn:r.length≠0:=fun e=>hl (ajs e)
  refine⟨h.next,_,?_,NO o hl hb⟩
  show Fo E.n [.fz (E.l r) r.length false] h=_
  unfold Fo
  simp only
  rw [if_neg hn,if_pos ⟨bM.cN,hb⟩,bM.uZ]
theorem SZ (S:Fp cf f E.n)(o:Has h K)(hq:K[q]? = some (i,.sl n E.n (E.l l)))(hr:GW E.n l=some r):∃i' h',cf f [.rs i 0 n E.n] h=some (.rs i' 0 r.length E.n,h')∧Has h' ((i',.sl r.length E.n (E.l r))::K):=by
 obtain⟨hb,rfl⟩:=Fq hr
 have hn:=dX o hq
 subst hn
 rw [S]
 by_cases hl:r=[]
 ·subst hl
  exact⟨0,h,rfl,Jc o⟩
 ·have hn:r.length≠0:=fun e=>hl (ajs e)
  obtain⟨⟨⟨h1,_⟩,h3⟩,_⟩:=o.at_ _ _ _ hq
  rcases h3 with⟨_,h4⟩| ⟨h0,rest,h4⟩
  ·exact absurd h4 hn
  ·refine⟨h.next,_,?_,NO o hl hb⟩
   unfold Fo
   simp only
   rw [if_neg hn,h4,aiI]
   simp only
   have h1:(E.l r).length=r.length*E.n:=bM.cN
   rw [if_pos ⟨trivial,by rw [aiT,h1]; omega,hb⟩,ajl (by omega),ajp (by omega),bM.uZ]
end
end Go.R
namespace Go.R
open Go
section
variable {h:AHeap}{K:Mem}{i q off k:Nat}{cs ys:List AV}
theorem dM (o:Has h K)(hq:K[q]? = some (i,.ob cs))(f:bl k h cs ys):nF (k+1) h (.ptr i off) (.fp ys off):=fun n hn=>by
 obtain⟨m,rfl⟩:∃m,n=m+1:=⟨n - 1,by simp only [ki] at hn; omega⟩
 obtain⟨⟨_,h2⟩,_⟩:=o.at_ _ _ _ hq
 simp only [dk,h2,aiI]
 rw [f m (by omega)]; rfl
theorem nh (hp:eL cs=true∧fG cs=cs):(AV.fp cs off).gN=true∧(AV.fp cs off).mO = .fp cs off:=⟨by simpa [AV.gN] using hp.1,by show AV.fp (fG cs) off=_; rw [hp.2]⟩
theorem cV (hp:eL cs=true∧fG cs=cs):nF 0 h (.fp cs off) (.fp cs off):=og (nh hp).1 (fun _=>rfl) (nh hp).2
theorem Fs (hp:eL cs=true∧fG cs=cs):vb (.fp cs off) (.fp cs off):=nh hp
end
def LK {α:Type}(o:Option α)(i:Nat):AV:=
 match o with
 | none=>.sX
 | some _=>.ptr i 0
def LL {α:Type}(o:Option α)(f:α→Mem):Mem:=
 match o with
 | none=>[]
 | some y=>f y
def NP {α β:Type}(o:Option α)(n:Option β)(s:α→Option β):Option β:=
 match o with
 | none=>n
 | some y=>s y
theorem wK {α β:Type}{o:Option α}{n:Option β}{s:α→Option β}{z:Option β}(h:NP o n s=z):(o=none∧n=z)∨∃y,o=some y∧s y=z:=by
 cases o with
 | none=>exact .inl ⟨rfl,h⟩
 | some y=>exact .inr ⟨y,rfl,h⟩
end Go.R
namespace Go.R
open Go
def yf:List (AHeap × AHeap × Nat)→Prop
 | []=>True
 | (h,h',i)::l=>h.ver i=h'.ver i∧yf l
theorem vf:∀{a b:List (AHeap × AHeap × Nat)},yf (a++b)→yf a∧yf b
 | [],b,h=>⟨trivial,h⟩
 | (_,_,_)::a,b,h=>by
  have:=vf (a:=a) h.2
  exact⟨⟨h.1,this.1⟩,this.2⟩
theorem Ft:∀{l:List Nat} {h h':AHeap},yf (l.map fun id=>(h,h',id))→∀id∈l,h.ver id=h'.ver id
 | i::l,h,h',hp,id,hm=>by
  rcases aja.1 hm with rfl | hm
  ·exact hp.1
  ·exact Ft hp.2 id hm
def Us (x y:qW):Bool:=
 match x.f.wb with
 | some k=>!y.f.rb.contains k&&y.f.wb != some k
 | none=>true
def Ds (x y:qW):Option (List (AHeap × AHeap × Nat)):=
 bif Us x y then (bif x.f.wh then (bif y.f.wh then none else some (y.f.rh.map fun id=>(x.s.h,x.s'.h,id))) else some []) else none
theorem B4 {x y:qW}{l:List (AHeap × AHeap × Nat)}(h:Ds x y=some l)(hp:yf l):x.mP y=true:=by
 have he:x.mP y=(Us x y&&(!x.f.wh||(!y.f.wh&&y.f.rh.all fun id=>ajy (x.s.h.ver id) (x.s'.h.ver id)))):=rfl
 rw [he]
 unfold Ds at h
 cases h1:Us x y with
 | false=>rw [h1] at h; cases h
 | true=>
  rw [h1,cond_true] at h
  cases hw:x.f.wh with
  | false=>rfl
  | true=>
   rw [hw,cond_true] at h
   cases hy:y.f.wh with
   | true=>rw [hy] at h; cases h
   | false=>
    rw [hy,cond_false] at h
    cases h
    simp only [ajA,Bool.false_or,Bool.not_false,ajC,ajd]
    intro id hid
    rw [Ft hp id hid,Nat.beq_refl]
def Fu (ms:List Nat)(x:qW)(i:Nat):List (qW × Nat)→Option (List (AHeap × AHeap × Nat))
 | []=>some []
 | y::l=>bif akn y.2 i||(ms.getD y.2 0).testBit i then Fu ms x i l else (Ds x y.1).bind fun a=>(Ds y.1 x).bind fun b=>(Fu ms x i l).map fun c=>a++(b++c)
theorem NQ {ms:List Nat}{x:qW}{i:Nat}(l:List (qW × Nat)):∀{v:List (AHeap × AHeap × Nat)},Fu ms x i l=some v→yf v→∀p∈l,(akn p.2 i||(ms.getD p.2 0).testBit i||(x.mP p.1&&p.1.mP x))=true:=by
 induction l with
 | nil=>intro v _ _ p hm; cases hm
 | cons y l ih=>
  intro v h hp p hm
  simp only [Fu] at h
  cases hc:(akn y.2 i||(ms.getD y.2 0).testBit i) with
  | true=>
   rw [hc,cond_true] at h
   rcases aja.1 hm with rfl | hm
   ·rw [hc,Bool.true_or]
   ·exact ih h hp p hm
  | false=>
   rw [hc,cond_false] at h
   simp only [aiJ,aiK] at h
   obtain⟨a,ha,b,hb,c,hc,rfl⟩:=h
   obtain⟨p1,p2⟩:=vf hp
   obtain⟨p2,p3⟩:=vf p2
   rcases aja.1 hm with rfl | hm
   ·rw [B4 ha p1,B4 hb p2,Bool.and_self,Bool.or_true]
   ·exact ih hc p3 p hm
def Jd (ms:List Nat)(all:List (qW × Nat)):List (qW × Nat)→Option (List (AHeap × AHeap × Nat))
 | []=>some []
 | x::l=>(Fu ms x.1 x.2 all).bind fun a=>(Jd ms all l).map fun b=>a++b
theorem NR {ms:List Nat}{all:List (qW × Nat)}(l:List (qW × Nat)):∀{v:List (AHeap × AHeap × Nat)},Jd ms all l=some v→yf v→∀x∈l,∀p∈all,(akn p.2 x.2||(ms.getD p.2 0).testBit x.2||(x.1.mP p.1&&p.1.mP x.1))=true:=by
 induction l with
 | nil=>intro v _ _ x hm; cases hm
 | cons y l ih=>
  intro v h hp x hm
  simp only [Jd,aiJ,aiK] at h
  obtain⟨a,ha,b,hb,rfl⟩:=h
  obtain⟨p1,p2⟩:=vf hp
  rcases aja.1 hm with rfl | hm
  ·exact NQ all ha p1
  ·exact ih hb p2 x hm
def Ut (ops:List Oper)(arr:Array Oper)(s:RS)(es:List qW):Option (List (AHeap × AHeap × Nat)):=
 let ms:=mQ [] ops
 let is:=es.zipIdx
 let CN:=is.filter fun (x,_)=>!x.f.quiet
 if sI arr ms&&CN.all (fun (x,i)=>yJ ms (ops.filterMap (·.dst)) s is x i) then Jd ms CN CN else none
theorem Rm {P:Program}{cf:CallF}{bb:List Nat}{ops:Array Oper}{s r:RS}{es:List qW}{l:List (AHeap × AHeap × Nat)}(h:Ut ops.toList ops s es=some l)(hp:yf l)(hr:uD P cf bb ops.toList s ops.toList=some (es,r)):nt P cf bb ops s=some r:=by
 unfold Ut at h
 simp only at h
 split at h
 rotate_left
 ·cases h
 rename_i hc
 simp only [aiM] at hc
 obtain⟨h1,h2⟩:=hc
 unfold nt
 simp only [h1,if_true,hr,aiI]
 rw [if_pos]
 rw [ajd] at h2 ⊢
 intro x hx
 have a:=h2 x hx
 simp only [aiM] at a ⊢
 refine⟨a,?_⟩
 rw [ajd]
 intro y hy
 exact NR _ h hp x hx y hy
def Je (P:Program)(cf:CallF)(A:b4)(c:Code)(fs:List (AV × AHeap))(zs:QQ)(st:St):Option ((Prop × Prop) × St):=
 match c with
 | .region id ops draw=>(ye (st.open A) (jN id A.CO) fs).bind fun (s0,p0)=>(yd P cf A.bb ops.toList s0 0 ops.toList zs).bind fun (es,r,p)=>
   bif draw then (Ut ops.toList ops s0 es).bind fun l=>(oU r (jN id A.G9)).map fun r2=>((p0∧p,yf l),r2.rJ A id) else none
 | _=>none
theorem NS {P:Program}{cf:CallF}{A:b4}{m:Nat}{c:Code}{fs:List (AV × AHeap)}{zs:QQ}{st mU:St}{p q:Prop}(h:Je P cf A c fs zs st=some ((p,q),mU))(hp:p)(hq:q):cW P cf A m c st=some (.norm,mU):=by
 unfold Je at h
 split at h
 rotate_left
 ·cases h
 rename_i id ops draw
 simp only [aiJ] at h
 obtain⟨⟨s0,p0⟩,h0,⟨es,r,p1⟩,h1,h⟩:=h
 cases draw with
 | false=>cases h
 | true=>
  simp only [cond_true,aiJ,aiK,aiV] at h
  obtain⟨l,hl,r2,h2,⟨rfl,rfl⟩,rfl⟩:=h
  obtain⟨g1,g2⟩:=De h1 hp.2
  have g0:=yQ h0 hp.1
  simp only [cW,g0,aiI,if_true,Rm hl hq g1,h2,aiR]
inductive Vg
 | mk {h h':AHeap} {i:Nat} (e:h.ver i=h'.ver i)
def Vg.t:Vg→AHeap × AHeap × Nat
 | @mk h h' i e=>(h,h',i)
theorem NT:∀vs:List Vg,yf (vs.map Vg.t)
 | []=>trivial
 | @Vg.mk h h' i e::vs=>⟨e,NT vs⟩
def nxD (P:Program)(cf:CallF)(A:b4)(c:Code)(fs gs:List Et)(s:St):St:=((Je P cf A c (LH fs) (Fl gs) s).map (·.2)).getD s
section
variable {P:Program}{cf:CallF}{A:b4}{m:Nat}{c:Code}{s:St}{Q R:Ex→St→Prop}
theorem V6 (fs gs:List Et)(vs:List Vg)(hQ:Q .norm (nxD P cf A c fs gs s))(h:(Je P cf A c (LH fs) (Fl gs) s).map (·.1)=some (ps fs∧ps gs,yf (vs.map Vg.t)):=by kernel_rfl):dE P cf A m c s Q:=by
 unfold nxD at hQ
 obtain⟨⟨p,s'⟩,h1,rfl⟩:=aiK.1 h
 rw [h1] at hQ
 exact⟨.norm,s',NS h1 ⟨Fm fs,Fm gs⟩ (NT vs),hQ⟩
end
section
variable {P:Program}{h h':AHeap}{K:Mem}{i j n z q q2:Nat}{c:Ct}{cs:List AV}{x y:AV}{t t2:TypeId}
theorem Dt {o:AObj}(hj:j≠i):h.ver j=(h.put i o).ver j:=by
 simp only [AHeap.put,beq_nat]
 simp [hj]
theorem Fv (hj:j≠i):h.ver j=(h.kill i).ver j:=by
 simp only [AHeap.kill,beq_nat]
 simp [hj]
theorem Rn {s:AV}(e:eC P h t t2 s x=some (y,h'))(hs:∀i off n z,s = .rs i off n z→j≠i)(hj:j≠h.next):h.ver j=h'.ver j:=by
 have ha:∀o:AObj,h.ver j=(h.alloc o).ver j:=fun o=>Dt hj
 unfold eC at e
 simp only [aiJ] at e
 obtain⟨u,hu,e⟩:=e
 split at e
 rotate_left
 ·cases e
 simp only [aiJ] at e
 obtain⟨inf,hi,⟨new,m⟩,hc,e⟩:=e
 split at e
 ·cases e
 split at e
 ·split at e
  ·cases e
  ·split at e
   ·cases e; rfl
   ·cases e; exact ha _
 ·split at e
  ·cases e
  ·split at e
   ·split at e<;>(cases e; rfl)
   ·cases e; exact ha _
 ·rename_i id off len lq
  have hne:=hs _ _ _ _ rfl
  split at e
  ·split at e
   ·cases e
   ·split at e
    ·cases e; rfl
    ·cases e; exact ha _
  ·simp only [aiJ] at e
   obtain⟨ob,ho,e⟩:=e
   split at e
   rotate_left
   ·cases e
   split at e
   ·cases e
   ·split at e
    ·cases e; rfl
    ·cases e
     exact (Fv hne).trans (Dt hj)
 ·cases e
theorem HE (o:Has h K)(hq:K[q]? = some (i,c))(NU:K[q2]? = some (j,.ob cs))(hne:q≠q2)(e:eC P h t t2 (.rs i 0 n z) x=some (y,h')):h.ver j=h'.ver j:=by
 obtain⟨⟨h1,_⟩,h2⟩:=o.at_ _ _ _ NU
 refine Rn e (fun i' _ _ _ he=>?_) (by omega)
 cases he
 intro hji
 subst hji
 exact hne (o.nd _ _ _ _ _ hq NU h1)
end
theorem HF {cf:CallF}{f:FuncId}{z:Nat}{h h':AHeap}{K:Mem}{q2 j:Nat}{cs:List AV}{x y:AV}(S:Fp cf f z)(o:Has h K)(NU:K[q2]? = some (j,.ob cs))(e:cf f [x] h=some (y,h')):h.ver j=h'.ver j:=by
 obtain⟨⟨h1,_⟩,h2⟩:=o.at_ _ _ _ NU
 have ha:∀o:AObj,h.ver j=(h.alloc o).ver j:=fun o=>Dt (Nat.ne_of_lt h2)
 rw [S] at e
 unfold Fo at e
 split at e
 ·cases e; rfl
 ·split at e
  ·cases e; rfl
  ·split at e
   ·cases e; exact ha _
   ·cases e
 ·split at e
  ·cases e; rfl
  ·rw [aiJ] at e
   obtain⟨ob,ho,e⟩:=e
   split at e
   ·split at e
    ·cases e; exact ha _
    ·cases e
   ·cases e
 ·cases e
theorem Xp {x:Option (AV × AHeap)}{a:AV}{h:AHeap}{z:AV × AHeap}(h1:x=some (a,h))(h2:mC 0 h a=some z):x.bind (fun x=>mC 0 x.2 x.1)=some z:=by rw [h1]; exact h2
theorem Uu {P:Program}{h:AHeap}{K:Mem}{q i t e n:Nat}{inf:TypeInfo}{l:List Int}{j:Int}(ht:P.underlying t=some (.slice e))(hi:P.info? e=some inf)(hs:inf.size=1)(hz:ls P e=some (.int .i64 0))(o:Has h K)(hq:K[q]? = some (i,.sl n 1 (ab.l l)))(h0:0≤j)(h1:j≤(l.length:Int)) :
  ∃h',pH P h t (.rs i (0+j.toNat*1) (n - j.toNat) 1)=some h'∧Has h' (K.set q (i,.sl n 1 (ab.l (l.take j.toNat++ai1 (l.length - j.toNat) 0)))):=by
 have hn:n=l.length:=dX (E:=ab) o hq
 subst hn
 have hll:(l.take j.toNat++ai1 (l.length - j.toNat) 0).length=l.length:=by simp; omega
 unfold pH
 rw [ht,aiI]
 simp only
 by_cases hl:l.length - j.toNat=0
 ·refine⟨h,by rw [if_pos hl],?_⟩
  have:l.take j.toNat++ai1 (l.length - j.toNat) 0=l:=by rw [hl,List.replicate_zero,ajJ,ajp (by omega)]
  rw [this]
  have hK:K.set q (i,.sl l.length 1 (ab.l l))=K:=by
   obtain⟨g1,g2⟩:=aiO.1 hq
   rw [←g2,List.set_getElem_self]
  rw [hK]; exact o
 ·rw [if_neg hl]
  obtain⟨⟨⟨hlen,wj⟩,oQ⟩,hlt⟩:=o.at_ _ _ _ hq
  rcases oQ with⟨_,h5⟩| ⟨h5,rest,h6⟩
  ·omega
  rw [if_neg h5]
  simp only [hi,hz,h6,aiI,hs]
  have hr1:lu [AV.int .i64 0] (l.length - j.toNat)=ab.l (ai1 (l.length - j.toNat) 0):=by
   generalize l.length - j.toNat=k
   induction k with
   | zero=>rfl
   | succ k ih=>show [AV.int .i64 0]++lu [AV.int .i64 0] k=_; rw [ih]; rfl
  rw [if_pos ⟨trivial,rfl,by decide,rfl,by rw [aiT,hlen]; omega⟩]
  refine⟨_,rfl,?_⟩
  refine mz o hq ?_
  have ID:(ab.l (l.take j.toNat++ai1 (l.length - j.toNat) 0)).length=l.length*1:=(bM.cN (E:=ab)).trans (by rw [hll]; rfl)
  refine⟨⟨ID,by rw [ID]; rw [hlen] at wj; exact wj⟩,.inr ⟨h5,rest,?_⟩⟩
  rw [eF,if_pos rfl]
  congr 2
  show fm (ab.l l++rest) (0+j.toNat*1) (lu [AV.int .i64 0] (l.length - j.toNat))=_
  rw [hr1,bM.kV]
  have Uv:=kW (ab.l (l.drop j.toNat)) (ab.l (ai1 (l.length - j.toNat) 0)) (ab.l (l.take j.toNat)) rest (by
   rw [bM.cN,bM.cN]; simp)
  rw [←bM.kV,akd] at Uv
  have hp:(ab.l (l.take j.toNat)).length=0+j.toNat*1:=by
   rw [bM.cN]; show _*1=_; simp; omega
  rw [hp] at Uv
  exact Uv
end Go.R
namespace Go.R
open Go
def Bq (l:List (Int × Bool))(k:Int):Bool × Bool:=
 match l with
 | []=>(false,false)
 | (a,b)::l=>if k=a then (b,true) else Bq l k
def HG (l:List (Int × Bool))(k:Int)(v:Bool):List (Int × Bool):=
 match l with
 | []=>[(k,v)]
 | (a,b)::l=>if k=a then (k,v)::l else (a,b)::HG l k v
def Jf (l:List (Int × Bool)):List (AV × AV):=l.map fun p=>(.int .i64 p.1,.bool p.2)
theorem Jg (k:Int):∀l:List (Int × Bool),kQ (.int .i64 k) (Jf l)=some (if (Bq l k).2=true then some (.bool (Bq l k).1) else none)
 | []=>rfl
 | (a,b)::l=>by
  simp only [Jf,ai9,kQ,sameShape,iY,lg,Bq]
  have ih:=Jg k l
  simp only [Jf] at ih
  by_cases h:k=a
  ·subst h; simp
  ·simp [h,ih]
theorem NV (k:Int)(v:Bool):∀l:List (Int × Bool),y9 (.int .i64 k) (.bool v) (Jf l)=some (Jf (HG l k v))
 | []=>rfl
 | (a,b)::l=>by
  have ih:=NV k v l
  simp only [Jf,ai9,y9,sameShape,iY,lg,HG] at ih ⊢
  by_cases h:k=a
  ·subst h; simp
  ·simp [h,ih]
def Fw (P:Program)(t:TypeId):Bool:=
 match P.underlying t with
 | some (.map kt et)=>(P.underlying kt matches some (.int .i64))&&(match ls P et with | some (.bool b)=>!b | _=>false)
 | _=>false
section
variable {P:Program}{h:AHeap}{K:Mem}{i q:Nat}{t:TypeId}{n:Nat}
theorem zU (T:Fw P t=true):∃kt et,P.underlying t=some (.map kt et)∧(∀k,jx P kt (.int .i64 k)=true)∧ls P et=some (.bool false):=by
 unfold Fw at T
 split at T
 ·rename_i kt et ht
  simp only [aiM] at T
  obtain⟨h1,h2⟩:=T
  refine⟨kt,et,ht,fun k=>?_,?_⟩
  ·revert h1
   split
   ·rename_i hk; intro _; simp [jx,hk]
   ·intro h; cases h
  ·split at h2
   ·rename_i z hz; simp only [ajX] at h2; subst h2; exact hz
   ·cases h2
 ·cases T
theorem aar {l:List (Int × Bool)}{k:Int}(T:Fw P t=true)(o:Has h K)(hq:K[q]? = some (i,.mp (Jf l))):hZ P h t (.mp i) (.int .i64 k) true=some (.tup [.bool (Bq l k).1,.bool (Bq l k).2])∧hZ P h t (.mp i) (.int .i64 k) false=some (.bool (Bq l k).1):=by
 obtain⟨kt,et,h1,h2,h3⟩:=zU T
 obtain⟨⟨_,h4⟩,_⟩:=o.at_ _ _ _ hq
 have hz:(Bq l k).2=false→(Bq l k).1=false:=by
  clear hq h4
  induction l with
  | nil=>intro _; rfl
  | cons p l ih=>
   obtain⟨a,b⟩:=p
   simp only [Bq]
   split
   ·intro h; cases h
   ·exact ih
 simp only [hZ,h1,aiI,h2,Bool.true_eq_false,if_false,h4,Jg]
 cases hc:(Bq l k).2 with
 | true=>simp
 | false=>simp [h3,hz hc]
theorem Xq {l:List (Int × Bool)}{k:Int}{v:Bool}(T:Fw P t=true)(o:Has h K)(hq:K[q]? = some (i,.mp (Jf l))):∃h',kC P h t (.mp i) (.int .i64 k) (.bool v)=some h'∧Has h' (K.set q (i,.mp (Jf (HG l k v)))):=by
 obtain⟨kt,et,h1,h2,h3⟩:=zU T
 obtain⟨⟨h5,h4⟩,_⟩:=o.at_ _ _ _ hq
 refine⟨h.put i (.map (Jf (HG l k v))),?_,mz o hq ⟨h5,by rw [eF,if_pos rfl]⟩⟩
 simp only [kC,h1,aiI,h2]
 rw [if_neg (by simp [AV.nZ])]
 simp only [h4,aiI,NV,aiR]
end
structure wL where
 a0:Int
 a1:Int
def yU:bM wL:={n:=2,f:=fun x=>[.int .i64 x.a0,.int .i64 x.a1],len:=fun _=>rfl,pos:=by decide,pure:=fun x _=>pure_cons jg (pure_cons jg pure_nil),canon:=fun _=>rfl}
section
variable {P:Program}{h:AHeap}{K:Mem}{i q n b:Nat}{t t2:TypeId}{α:Type}{E:bM α}{l r s:List α}{x:AV}
def Xr {α:Type}(l s:List α):Option (List α):=if s.length≤l.length then some (s++l.drop s.length) else none
theorem Ro (T:BU P t E.n b=true)(o:Has h K)(hq:K[q]? = some (i,.sl n E.n (E.l l)))(hc:fW h E.n x=some (E.l s,s.length))(jz:ly P t2 x=true)(uw:(E.l s).all AV.dp=true)(hr:Xr l s=some r) :
  ∃h',xp P h t t2 (.rs i 0 n E.n) x=some (.int .i64 s.length,h')∧Has h' (K.set q (i,.sl n E.n (E.l r))):=by
 have hn:=dX o hq
 subst hn
 unfold Xr at hr
 split at hr
 rotate_left
 ·cases hr
 rename_i hle
 cases hr
 obtain⟨e,inf,g1,g2,g3,g4,g5,g6⟩:=mH T
 obtain⟨⟨⟨hlen,wj⟩,oQ⟩,hlt⟩:=o.at_ _ _ _ hq
 have hll:(s++l.drop s.length).length=l.length:=by simp; omega
 simp only [xp,g1,aiI,g2,g3,hc,jz,Bool.true_eq_false,if_false]
 rcases oQ with⟨h0,h1⟩| ⟨h0,rest,h1⟩
 ·have hl0:l=[]:=by simpa using h1
  subst hl0
  have hs0:s=[]:=by cases s with | nil=>rfl | cons _ _=>simp at hle
  subst hs0
  refine⟨h,by simp [h0],?_⟩
  have hK:K.set q (i,.sl ([]:List α).length E.n (E.l ([]++([]:List α).drop ([]:List α).length)))=K:=by
   obtain⟨g1,g2⟩:=aiO.1 hq
   show K.set q (i,.sl ([]:List α).length E.n (E.l []))=K
   rw [←g2,List.set_getElem_self]
  rw [hK]; exact o
 ·rw [if_neg h0,h1]
  simp only [aiI]
  rw [if_pos ⟨trivial,hle,by
   rw [aiT,hlen,ajf]
   exact ajF (ajN _ hle) (Nat.le_add_right _ _)⟩]
  refine⟨_,rfl,mz o hq ⟨⟨by rw [bM.cN,hll],by rw [bM.cN,hll,←hlen]; exact wj⟩,.inr ⟨h0,rest,?_⟩⟩⟩
  rw [eF,if_pos rfl]
  congr 2
  have Uv:=kW (E.l (l.take s.length)) (E.l s) [] (E.l (l.drop s.length)++rest) (by rw [bM.cN,bM.cN,ajo,ako hle])
  simp only [ajj,ai4] at Uv
  rw [←ai7,←bM.kV,akd] at Uv
  rw [Uv,bM.kV,ai7]
theorem Uw:fW h E.n (E.fz l)=some (E.l l,l.length):=by
 simp only [fW,bM.fz]
 rw [if_pos bM.cN]
end
theorem Xs:∀l:List Int,(ab.l l).all AV.dp=true:=fun l=>by
 induction l with
 | nil=>rfl
 | cons a l ih=>rw [bM.iA,List.all_append,ih]; rfl
section
variable {P:Program}{h:AHeap}{K:Mem}{i q n b:Nat}{t:TypeId}{α:Type}{E:bM α}{l:List α}{j:Int}{k:IntKind}
def V7 (l:List Int)(j:Int):Option (List Int):=if 0≤j∧j≤l.length then some (l.take j.toNat++ai1 (l.length - j.toNat) 0) else none
theorem zV {l r:List Int}{j:Int}(h:V7 l j=some r):0≤j∧j≤l.length∧r=l.take j.toNat++ai1 (l.length - j.toNat) 0:=by
 unfold V7 at h
 split at h
 ·rename_i g; cases h; exact⟨g.1,g.2,rfl⟩
 ·cases h
theorem Ux (T:BU P t E.n b=true)(o:Has h K)(hq:K[q]? = some (i,.sl n E.n (E.l l)))(h0:0≤j)(h1:j≤(l.length:Int)):pF P t (.rs i 0 n E.n) (some (.int k j)) none none=some (.rs i (0+j.toNat*E.n) (n - j.toNat) E.n):=by
 have hn:=dX o hq
 subst hn
 obtain⟨e,inf,g1,g2,g3,g4,g5,g6⟩:=mH T
 simp only [pF,g1,aiI,g6,if_true,n5]
 rw [if_pos ⟨h0,by omega⟩]
 simp only [aiI,aiR,aiP]
def clB (P:Program)(t:TypeId):Bool:=
 match P.underlying t with
 | some (.slice e)=>(match P.info? e with | some inf=>inf.size==1 | none=>false)&&(match ls P e with | some (.int .i64 z)=>z==0 | _=>false)
 | _=>false
theorem Uy {l r:List Int}(T:clB P t=true)(o:Has h K)(hq:K[q]? = some (i,.sl n 1 (ab.l l)))(hr:V7 l j=some r) :
  ∃h',(pH P h t (.rs i (0+j.toNat*1) (n - j.toNat) 1)).map (fun h=>(AV.tup [],h))=some (AV.tup [],h')∧Has h' (K.set q (i,.sl n 1 (ab.l r))):=by
 obtain⟨h0,h1,rfl⟩:=zV hr
 unfold clB at T
 split at T
 rotate_left
 ·cases T
 rename_i e ht
 simp only [aiM] at T
 obtain⟨T1,T2⟩:=T
 split at T1
 rotate_left
 ·cases T1
 rename_i inf hi
 split at T2
 rotate_left
 ·cases T2
 rename_i z hz
 simp only [beq_iff_eq] at T1 T2
 subst T2
 obtain⟨h',e1,o1⟩:=Uu ht hi T1 hz o hq h0 h1
 exact⟨h',by rw [e1]; rfl,o1⟩
end
section
variable {h:AHeap}{f k k2:Nat}{cs ys:List AV}
theorem zW (g:bl k h cs ys):nF (k+1) h (.fn f cs) (.fn f ys):=fun n hn=>by
 obtain⟨m,rfl⟩:∃m,n=m+1:=⟨n - 1,by simp only [ki] at hn; omega⟩
 simp only [dk]
 rw [g m (by omega)]; rfl
theorem bl.mono {k k':Nat}{x y:List AV}(hk:k≤k')(f:bl k h x y):bl k' h x y:=fun n hn=>f n (by omega)
theorem lC {xs:List AV}(f:bl k h xs ys)(hk:k≤ez:=by decide):bl ez h xs ys:=bl.mono hk f
theorem NW:∀{us bs cs ys:List AV} {k1 k2:Nat},bl k1 h us bs→bl k2 h cs ys→bl (k1+k2+us.length+1) h (us++cs) (bs++ys)
 | [],bs,cs,ys,k1,k2,f,g=>fun n hn=>by
  have:=f (ki+k1) (aiQ _)
  have hb:bs=[]:=by
   cases hm:ki+k1 with
   | zero=>simp [ki] at hm
   | succ m=>rw [hm] at this; simp only [b6,aiL] at this; exact this.symm
  subst hb
  exact g n (by omega)
 | a::us,bs,cs,ys,k1,k2,f,g=>fun n hn=>by
  have h1:=f (ki+k1) (aiQ _)
  obtain⟨m,rfl⟩:∃m,n=m+1:=⟨n - 1,by simp only [ki] at hn; omega⟩
  have hb:∃b Xt,bs=b::Xt:=by
   cases hm:ki+k1 with
   | zero=>simp [ki] at hm
   | succ m=>
    rw [hm] at h1
    simp only [b6,aiJ,aiK] at h1
    obtain⟨y,_,zs,_,e⟩:=h1
    exact⟨y,zs,e.symm⟩
  obtain⟨b,Xt,rfl⟩:=hb
  have key:∀n',ki+k1≤n'+1→dk h n' a=some b∧b6 h n' us=some Xt:=fun n' ZV=>by
   have:=f (n'+1) ZV
   simp only [b6,aiJ,aiK] at this
   obtain⟨y,hy,zs,hz,e⟩:=this
   cases e
   exact⟨hy,hz⟩
  have f2:bl k1 h us Xt:=fun n' ZV=>(key n' (by omega)).2
  have:=NW f2 g m (by simp only [aiX] at hn; omega)
  show b6 h (m+1) (a::(us++cs))=some (b::(Xt++ys))
  simp only [b6]
  rw [(key m (by omega)).1,this]
  rfl
theorem S3 {us bs:List AV}{k:Nat}(f:bl k h us bs)(g:bl ez h cs ys)(hk:k≤500:=by decide)(hl:us.length≤400:=by simp):bl cd h (us++cs) (bs++ys):=(NW f g).mono (by
 have:k+ez+us.length+1≤ez+1001:=by omega
 exact ajF this (by decide))
end
theorem NX {α:Type}{E:bM α}{l:List α}{h h':AHeap}{K:Mem}{q q2 i j n:Nat}{cs:List AV}{y:AV}(o:Has h K)(hq:K[q]? = some (i,.sl n E.n (E.l l)))(NU:K[q2]? = some (j,.ob cs))(e:mC 0 h (.rs i 0 n E.n)=some (y,h'))(hp:E.flat=true:=by rfl):h.ver j=h'.ver j:=by
 have hn:=dX o hq
 subst hn
 obtain⟨⟨⟨hlen,wj⟩,oQ⟩,hlt⟩:=o.at_ _ _ _ hq
 obtain⟨⟨hj,_⟩,_⟩:=o.at_ _ _ _ NU
 have hne:j≠i:=by
  intro he
  subst he
  have:=o.nd _ _ _ _ _ hq NU hj
  subst this
  rw [hq] at NU
  cases NU
 simp only [mC] at e
 rcases oQ with⟨h0,h1⟩| ⟨h0,rest,h1⟩
 ·rw [if_pos h0,if_pos h1] at e
  cases e; rfl
 ·rw [if_neg h0,h1] at e
  simp only [aiI] at e
  have e1:((E.l l++rest).drop 0).take (l.length*E.n)=E.l l:=by
   rw [aji,ajl (by rw [hlen]; exact aiQ _),ajp (by rw [hlen]; exact aiQ _)]
  rw [e1,if_pos (by rw [aiT,hlen]; omega),wq (bM.tV hp).1] at e
  cases e
  exact Fv hne
end Go.R
namespace Go.R
open Go
def qY (k i:Nat):Nat:=if i=0 then 0 else i+k
theorem tD {k i off n z:Nat}:eY k (.rs i off n z)=some (.rs (qY k i) off n z):=by
 unfold eY qY
 split<;>rfl
theorem mA {k:Nat}:dW k []=some []:=rfl
theorem dG {k:Nat}{x y:AV}{xs ys:List AV}(a:eY k x=some y)(b:dW k xs=some ys):dW k (x::xs)=some (y::ys):=by
 simp only [dW,a,b,aiI,aiR]
theorem zX {k:Nat}{xs ys:List AV}(b:dW k xs=some ys):eY k (.agg xs)=some (.agg ys):=by
 simp only [eY,b,aiR]
theorem Du {k:Nat}{xs ys:List AV}(b:dW k xs=some ys):eY k (.tup xs)=some (.tup ys):=by
 simp only [eY,b,aiR]
theorem r7 {k:Nat}:∀{a a' b b':List AV},dW k a=some a'→dW k b=some b'→dW k (a++b)=some (a'++b')
 | [],a',b,b',h1,h2=>by simp only [dW,aiL] at h1; subst h1; exact h2
 | x::a,a',b,b',h1,h2=>by
  simp only [dW,aiJ,aiK] at h1
  obtain⟨y,h3,ys,h4,rfl⟩:=h1
  exact dG h3 (r7 h4 h2)
theorem ub {k:Nat}:∀{a a':List AV} (r:List AV),dW k a=some a'→jt k (a++r)=a'++jt k r
 | [],a',r,h1=>by simp only [dW,aiL] at h1; subst h1; rfl
 | x::a,a',r,h1=>by
  simp only [dW,aiJ,aiK] at h1
  obtain⟨y,h3,ys,h4,rfl⟩:=h1
  have e:jt k (x::(a++r))=y::jt k (a++r):=by rw [jt,h3]
  show jt k (x::(a++r))=(y::ys)++jt k r
  rw [e,ub r h4]; rfl
theorem xL {k:Nat}:∀{a a':List AV},dW k a=some a'→a'.length=a.length
 | [],a',h1=>by simp only [dW,aiL] at h1; subst h1; rfl
 | x::a,a',h1=>by
  simp only [dW,aiJ,aiK] at h1
  obtain⟨y,h3,ys,h4,rfl⟩:=h1
  rw [aiX,aiX,xL h4]
def GrE (k:Nat):Nat × Ct→Nat × Ct→Prop
 | (i,.sl n z cs),b=>∃iO,dW k cs=some iO∧b=(qY k i,.sl n z iO)
 | (i,.ob cs),b=>∃iO,dW k cs=some iO∧b=(qY k i,.ob iO)
 | _,_=>False
inductive Mx (k:Nat)(L:Mem):Mem→Mem→Prop
 | nil:Mx k L [] L
 | cons {a b:Nat × Ct} {K K':Mem} (e:GrE k a b) (g:Mx k L K K'):Mx k L (a::K) (b::K')
section
variable {k i n z:Nat}{L K K':Mem}{α:Type}{E:bM α}{l:List α}
theorem Xu (hE:∀a,dW k (E.f a)=some (E.f a)):∀l:List α,dW k (E.l l)=some (E.l l)
 | []=>rfl
 | a::l=>by rw [bM.iA]; exact r7 (hE a) (Xu hE l)
theorem zY (hE:∀a,dW k (E.f a)=some (E.f a))(g:Mx k L K K'):Mx k L ((i,.sl n z (E.l l))::K) ((qY k i,.sl n z (E.l l))::K'):=.cons ⟨_,Xu hE l,rfl⟩ g
theorem NY:∀(ns:List ak) (ids:List Nat),dW k (dJ.l (bm ns ids))=some (dJ.l (bm ns (ids.map (qY k))))
 | [],_=>rfl
 | a::ns,ids=>by
  have h1:(ids.map (qY k)).headD 0=qY k (ids.headD 0):=by cases ids<;>rfl
  have h2:(ids.map (qY k)).tail=ids.tail.map (qY k):=by cases ids<;>rfl
  show dW k (dJ.f (a,ids.headD 0)++dJ.l (bm ns ids.tail))=some (dJ.f (a,(ids.map (qY k)).headD 0)++dJ.l (bm ns (ids.map (qY k)).tail))
  rw [h1,h2]
  exact r7 (dG rfl (dG rfl (dG rfl (dG tD mA)))) (NY ns ids.tail)
theorem NZ {ns:List ak}{ids:List Nat}(g:Mx k L K K'):Mx k L ((i,.sl n z (dJ.l (bm ns ids)))::K) ((qY k i,.sl n z (dJ.l (bm ns (ids.map (qY k)))))::K'):=.cons ⟨_,NY ns ids,rfl⟩ g
theorem Dv:∀{ns:List ak} {ids:List Nat},Mx k L K K'→Mx k L (fA ns ids++K) (fA ns (ids.map (qY k))++K')
 | [],_,g=>g
 | a::ns,ids,g=>by
  have h1:(ids.map (qY k)).headD 0=qY k (ids.headD 0):=by cases ids<;>rfl
  have h2:(ids.map (qY k)).tail=ids.tail.map (qY k):=by cases ids<;>rfl
  show Mx k L (Fj (a,ids.headD 0)::(fA ns ids.tail++K)) (Fj (a,(ids.map (qY k)).headD 0)::(fA ns (ids.map (qY k)).tail++K'))
  rw [h1,h2]
  exact zY (E:=ab) (fun _=>rfl) (Dv g)
end
theorem Uz {k:Nat}{L K K':Mem}(g:Mx k L K K'):∃K2,K'=K2++L∧K2.length=K.length∧∀(j:Nat) b,K2[j]? = some b→∃a,K[j]? = some a∧GrE k a b:=by
 induction g with
 | nil=>exact⟨[],rfl,rfl,fun j b h=>by simp at h⟩
 | cons e g ih=>
  rename_i a b K K'
  obtain⟨K2,rfl,h2,h3⟩:=ih
  refine⟨b::K2,rfl,by rw [aiX,aiX,h2],fun j c hj=>?_⟩
  cases j with
  | zero=>simp only [ajx,aiL] at hj; subst hj; exact⟨a,rfl,e⟩
  | succ j=>simp only [ajV] at hj ⊢; exact h3 j c hj
theorem Dw {k i i':Nat}{c c':Ct}(e:GrE k (i,c) (i',c')):i'=qY k i:=by
 cases c with
 | sl n z cs=>obtain⟨_,_,h⟩:=e; cases h; rfl
 | ob cs=>obtain⟨_,_,h⟩:=e; cases h; rfl
 | mp es=>exact e.elim
 | row t cs=>exact e.elim
theorem Has.gr {h h1:AHeap}{K1 K2 L:Mem}(o:Has h L)(o1:Has h1 K1)(g:Mx h.next L K1 K2):Has (h.gr h1) K2:=by
 obtain⟨K3,rfl,hlen,IF⟩:=Uz g
 have hnx:(h.gr h1).next=h.next+h1.next:=rfl
 have Qd:∀{i:Nat},i≠0→qY h.next i=i+h.next:=fun hi=>if_neg hi
 have hget:∀{i:Nat} {cs:List AV},i≠0→h1.get i=some (.cells cs)→(h.gr h1).get (qY h.next i)=some (.cells (jt h.next cs)):=fun {i cs} hi hg=>by
  rw [Qd hi,(nD (Nat.le_add_left _ _)).1,Nat.add_sub_cancel,hg]; rfl
 have hidlt:∀{i:Nat},i<h1.next→qY h.next i<(h.gr h1).next:=fun {i} hi=>by
  rw [hnx]
  by_cases h0:i=0
  ·subst h0; show 0<_; have:=o.pos; omega
  ·rw [Qd h0]; omega
 refine⟨fun j i c hj=>?_,fun j j' i c c' hj GV hi=>?_,by rw [hnx]; have:=o.pos; omega⟩
 ·by_cases hl:j<K3.length
  ·rw [ai6 hl] at hj
   obtain⟨⟨i1,c1⟩,ha,he⟩:=IF j _ hj
   obtain⟨w1,w2⟩:=o1.at_ _ _ _ ha
   cases c1 with
   | sl n z cs=>
    obtain⟨iO,h3,h4⟩:=he
    cases h4
    refine⟨⟨by rw [xL h3]; exact w1.1,?_⟩,hidlt w2⟩
    rcases w1.2 with⟨h5,h6⟩| ⟨h5,rest,h6⟩
    ·left; subst h5; exact⟨rfl,h6⟩
    ·right
     refine⟨by rw [Qd h5]; omega,jt h.next rest,?_⟩
     rw [hget h5 h6,ub rest h3]
   | ob cs=>
    obtain⟨iO,h3,h4⟩:=he
    cases h4
    refine⟨⟨by rw [Qd w1.1]; have:=w1.1; omega,?_⟩,hidlt w2⟩
    rw [hget w1.1 w1.2]
    have:=ub [] h3
    rw [ajJ] at this
    rw [this]; simp [jt]
   | mp es=>exact he.elim
   | row t cs=>exact he.elim
  ·rw [ai0 (by omega)] at hj
   obtain⟨w1,w2⟩:=o.at_ _ _ _ hj
   exact⟨tW (fun _=>(mG w2).1) w1,by rw [hnx]; omega⟩
 ·by_cases hl:j<K3.length<;>by_cases tk:j'<K3.length
  ·rw [ai6 hl] at hj
   rw [ai6 tk] at GV
   obtain⟨⟨i1,c1⟩,ha,he⟩:=IF j _ hj
   obtain⟨⟨i2,c2⟩,ha',he'⟩:=IF j' _ GV
   have e1:=Dw he
   have e2:=Dw he'
   have n1:i1≠0:=fun h0=>hi (by rw [e1,h0]; rfl)
   have n2:i2≠0:=fun h0=>hi (by rw [e2,h0]; rfl)
   rw [Qd n1] at e1
   rw [Qd n2] at e2
   have:i2=i1:=by omega
   subst this
   exact o1.nd _ _ _ _ _ ha ha' n1
  ·rw [ai6 hl] at hj
   rw [ai0 (by omega)] at GV
   obtain⟨⟨i1,c1⟩,ha,he⟩:=IF j _ hj
   have e1:=Dw he
   have n1:i1≠0:=fun h0=>hi (by rw [e1,h0]; rfl)
   rw [Qd n1] at e1
   have:=(o.at_ _ _ _ GV).2
   omega
  ·rw [ai0 (by omega)] at hj
   rw [ai6 tk] at GV
   obtain⟨⟨i1,c1⟩,ha,he⟩:=IF j' _ GV
   have e1:=Dw he
   have n1:i1≠0:=fun h0=>hi (by rw [e1,h0]; rfl)
   rw [Qd n1] at e1
   have:=(o.at_ _ _ _ hj).2
   omega
  ·rw [ai0 (by omega)] at hj GV
   have:=o.nd _ _ _ _ _ hj GV hi
   omega
theorem kF (h h1:AHeap):∀j,j<h.next→h.ver j=(h.gr h1).ver j:=fun j hj=>(mG hj).2.symm
theorem lS {P:Program}{T:tj}{m f deep:Nat}{h h':AHeap}{xs ys:List AV}{r y:AV}(h1:T.intr f=none)(h2:T.pure f=some deep)(h3:T.gr f=true)(hd:ki+cd≤deep)(hx:bl cd h xs ys)(hb:bj P T.aW (mb P T m) m f ys bH=some (r,h'))(hg:eY h.next r=some y):mb P T m f xs h=some (y,h.gr h'):=by
 refine pe ?_
 simp only [xK,h1,h2,h3,if_true,hx deep hd,aiI,hb,hg,aiR]
theorem Rp {P:Program}{t:TypeId}{a b c d:Int}(h:∀a b c d:Int,rH P .eql t (.agg [.int .i64 a,.int .i64 b]) (.agg [.int .i64 c,.int .i64 d])=some (.bool (iY (.agg [.int .i64 a,.int .i64 b]) (.agg [.int .i64 c,.int .i64 d])==true))) :
  rH P .eql t (.agg [.int .i64 a,.int .i64 b]) (.agg [.int .i64 c,.int .i64 d])=some (.bool (a==c&&b==d)):=by
 rw [h]
 congr 2
 have:=pW [a,b] [c,d]
 have e:iY (.agg [.int .i64 a,.int .i64 b]) (.agg [.int .i64 c,.int .i64 d])=pG (ab.l [a,b]) (ab.l [c,d]):=rfl
 rw [e,this]
 by_cases h1:a=c<;>by_cases h2:b=d<;>simp [h1,h2]
theorem Has.zZ {h:AHeap}{pre mid N L:Mem}(o:Has h (pre++(mid++(N++L)))):Has h (pre++(N++(mid++L))):=by
 refine o.perm (List.Perm.append_left _ ?_)
 rw [←ai7,←ai7]
 exact List.Perm.append_right _ List.perm_append_comm
def HH (ns:List ak)(ids:List Nat)(j:Int)(ad:Nat):List Nat:=(Dq ns ids).set j.toNat ad
theorem B5:∀(ns:List ak) (ids:List Nat),bm ns (Dq ns ids)=bm ns ids
 | [],_=>rfl
 | a::ns,ids=>by
  have:=B5 ns ids.tail
  simp only [Dq,bm,ai9,List.headD_cons,List.tail_cons] at this ⊢
  rw [this]
theorem B6:∀(ns:List ak) (ids:List Nat) (i:Nat) (n:ak) (ad:Nat),ns.length=ids.length→bm (ns.set i n) (ids.set i ad)=(bm ns ids).set i (n,ad)
 | [],_,_,_,_,_=>rfl
 | a::ns,[],_,_,_,h=>by simp at h
 | a::ns,j::ids,0,n,ad,_=>rfl
 | a::ns,j::ids,i+1,n,ad,h=>by
  have:=B6 ns ids i n ad (by simpa using h)
  simp only [List.set_cons_succ,bm,List.headD_cons,List.tail_cons,this]
theorem B7 (ns:List ak)(ids:List Nat)(j:Int)(n:ak)(ad:Nat):bm (ns.set j.toNat n) (HH ns ids j ad)=(bm ns ids).set j.toNat (n,ad):=by
 unfold HH
 rw [B6 ns (Dq ns ids) j.toNat n ad (by unfold Dq; rw [aiY,gu]),B5]
section
variable {P:Program}{tf:TypeId}{h:AHeap}{pre L:Mem}{ns:List ak}{ids:List Nat}{i ad k n2 q:Nat}{j:Int}{n:ak}{args:List Int}
theorem Rq (o:Has h ((i,.sl k 4 (dJ.l (bm ns ids)))::(ad,.sl n2 1 (ab.l args))::(pre++(fA ns ids++L))))(hs:iR P tf=some 1)(hx:ix ns j=some n) :
  ∃h',lP P h tf (.ptr i (0+j.toNat*4+3)) (.rs ad 0 n2 1)=some h'∧
   Has h' ((i,.sl k 4 (dJ.l (bm (ns.set j.toNat ⟨n.kind,n.int,n.label,args⟩) (HH ns ids j ad))))::(pre++(fA (ns.set j.toNat ⟨n.kind,n.int,n.label,args⟩) (HH ns ids j ad)++L))):=by
 have hn:n2=args.length:=dX (E:=ab) o (q:=1) rfl
 subst hn
 obtain⟨h0,h1,h2⟩:=jQ hx
 obtain⟨h',e,o'⟩:=QU (P:=P) (tf:=tf) (E:=dJ) (l:=bm ns ids) (q:=0) (off:=3) (v:=((⟨n.kind,n.int,n.label,args⟩:ak),ad)) (x:=.rs ad 0 args.length 1) o rfl hs (lb hx) rfl rfl (by decide) rfl
 refine⟨h',e,?_⟩
 have e1:(bm ns ids).set j.toNat ((⟨n.kind,n.int,n.label,args⟩:ak),ad)=bm (ns.set j.toNat ⟨n.kind,n.int,n.label,args⟩) (HH ns ids j ad):=(B7 ns ids j _ ad).symm
 have e2:fA (ns.set j.toNat ⟨n.kind,n.int,n.label,args⟩) (HH ns ids j ad)=(fA ns ids).set j.toNat (Fj (⟨n.kind,n.int,n.label,args⟩,ad)):=by
  unfold fA; rw [B7,List.map_set]
 rw [←e1,e2]
 have o2:Has h' ((i,.sl k 4 (dJ.l ((bm ns ids).set j.toNat ((⟨n.kind,n.int,n.label,args⟩:ak),ad))))::Fj (⟨n.kind,n.int,n.label,args⟩,ad)::(pre++(fA ns ids++L))):=o'
 have hl:j.toNat<(fA ns ids).length:=by unfold fA; rw [aiY,gu]; omega
 have e3:(fA ns ids).set j.toNat (Fj (⟨n.kind,n.int,n.label,args⟩,ad))=(fA ns ids).take j.toNat++Fj (⟨n.kind,n.int,n.label,args⟩,ad)::(fA ns ids).drop (j.toNat+1):=by
  rw [List.set_eq_take_append_cons_drop,if_pos hl]
 have e4:fA ns ids=(fA ns ids).take j.toNat++(fA ns ids)[j.toNat]::(fA ns ids).drop (j.toNat+1):=by
  conv=>lhs; rw [←akd j.toNat (fA ns ids),aiZ hl]
 rw [e3]
 generalize hA:(fA ns ids).take j.toNat=A at *
 generalize hB:(fA ns ids).drop (j.toNat+1)=B at *
 rw [e4] at o2
 have o3:=(o2.del (pre.length+A.length+2))
 have e5:((i,Ct.sl k 4 (dJ.l ((bm ns ids).set j.toNat ((⟨n.kind,n.int,n.label,args⟩:ak),ad))))::Fj (⟨n.kind,n.int,n.label,args⟩,ad)::(pre++((A++(fA ns ids)[j.toNat]::B)++L))).eraseIdx (pre.length+A.length+2)=(i,Ct.sl k 4 (dJ.l ((bm ns ids).set j.toNat ((⟨n.kind,n.int,n.label,args⟩:ak),ad))))::Fj (⟨n.kind,n.int,n.label,args⟩,ad)::(pre++((A++B)++L)):=by
  show _::_::(pre++((A++(fA ns ids)[j.toNat]::B)++L)).eraseIdx (pre.length+A.length)=_
  congr 2
  rw [List.eraseIdx_append_of_length_le (by omega),ajK,ai7,List.eraseIdx_append_of_length_le (by omega),ajI]
  simp
 rw [e5] at o3
 refine o3.perm (List.Perm.cons _ ?_)
 have k1:pre++((A++Fj ((⟨n.kind,n.int,n.label,args⟩:ak),ad)::B)++L)=(pre++A)++Fj (⟨n.kind,n.int,n.label,args⟩,ad)::(B++L):=by simp
 have k2:pre++((A++B)++L)=(pre++A)++(B++L):=by simp
 rw [k1,k2]
 exact List.perm_middle
theorem sQ:∀(ns:List ak) (ids:List Nat) (k:Nat),bm (ns.drop k) (ids.drop k)=(bm ns ids).drop k
 | ns,ids,0=>rfl
 | [],_,k+1=>by simp [bm]
 | a::ns,[],k+1=>by
  have:=sQ ns [] k
  simpa [bm] using this
 | a::ns,j::ids,k+1=>by
  have:=sQ ns ids k
  simpa [bm] using this
theorem N0 (o:Has h (pre++(fA (ns.drop j.toNat) (ids.drop j.toNat)++L)))(hq:pre[q]? = some (i,.sl k 4 (dJ.l (bm ns ids))))(hx:ix ns j=some n) :
  Has h ((Mw ids j,.sl n.args.length 1 (ab.l n.args))::(pre++(fA (ns.drop (IntKind.i64.wrap (j+(1:Int))).toNat) (ids.drop (IntKind.i64.wrap (j+(1:Int))).toNat)++L))):=by
 obtain⟨h0,h1,h2⟩:=jQ hx
 have hql:q<pre.length:=(aiO.1 hq).1
 have CX:(pre++(fA (ns.drop j.toNat) (ids.drop j.toNat)++L))[q]? = some (i,.sl k 4 (dJ.l (bm ns ids))):=by rw [ai6 hql]; exact hq
 obtain⟨⟨⟨_,wj⟩,_⟩,_⟩:=o.at_ _ _ _ CX
 have wj:(dJ.l (bm ns ids)).length≤1125899906842624:=wj
 rw [bM.cN,gu] at wj
 have wj:ns.length*4≤1125899906842624:=wj
 have hw:(IntKind.i64.wrap (j+(1:Int))).toNat=j.toNat+1:=by
  have hm:(j+1) % 18446744073709551616=j+1:=Int.emod_eq_of_lt (by omega) (by omega)
  have:IntKind.i64.wrap (j+(1:Int))=j+1:=by
   show (if true&&decide ((j+1) % 18446744073709551616≥9223372036854775808) then (j+1) % 18446744073709551616 - 18446744073709551616 else (j+1) % 18446744073709551616)=j+1
   rw [hm]
   have:decide (j+1≥9223372036854775808)=false:=by rw [decide_eq_false_iff_not]; omega
   rw [this]; rfl
  rw [this]; omega
 rw [hw]
 have e:fA (ns.drop j.toNat) (ids.drop j.toNat)=(Mw ids j,.sl n.args.length 1 (ab.l n.args))::fA (ns.drop (j.toNat+1)) (ids.drop (j.toNat+1)):=by
  unfold fA
  rw [sQ,sQ]
  have hz:=rZ ns ids _ _ h2
  have hl:j.toNat<(bm ns ids).length:=by rw [gu]; omega
  rw [aiZ hl]
  have:(bm ns ids)[j.toNat]=(n,ids.getD j.toNat 0):=(aiO.1 hz).2
  rw [this]
  rfl
 rw [e] at o
 refine o.perm ?_
 exact List.perm_middle.symm
end
end Go.R
namespace Go.R
open Go
abbrev AV.i (n:Int):AV:=.int .i64 n
universe u
theorem Xv {α:Type u}{l:List α}{i:Nat}{a:α}:(l.set i a).length=l.length:=ajw
theorem dte {p:Prop}[Decidable p]:(decide p=true)=p:=decide_eq_true_eq
theorem kr {α:Sort u}{a b:α}(h:a=b:=by kernel_rfl):a=b:=h
theorem om {p:Prop}(h:p:=by omega):p:=h
theorem dm {p:Prop}(h:p:=by simp only [dte]; omega):p:=h
theorem ld {α:Sort u}{a b:α}(h:a=b:=by (try (conv=>rhs; simp only [Xv])); try kernel_rfl):a=b:=h
theorem bI {h:AHeap}{K:Mem}(o:Has h K)(q:Nat){p:Nat × Ct}(hq:K[q]? = some p:=by rfl):Has h (p::K.eraseIdx q):=Has.front o q hq
theorem iC {h:AHeap}{K:Mem}(o:Has h K)(q:Nat):Has h (K.eraseIdx q):=Has.del o q
theorem ow {h:AHeap}{K K':Mem}(o:Has h K)(e:K=K':=by (try (conv=>rhs; simp only [Xv])); try kernel_rfl):Has h K':=e ▸ o
theorem fq {h:AHeap}{k:Nat}{ys:List AV}(f:bl k h ys ys:=by repeat' (first | exact aD | apply ai | exact aU | exact eM | exact iB | exact iu | apply eJ | apply pU))(hk:k≤cd:=by decide):bl cd h ys ys:=ia f hk
theorem cq {p:Prop}(h:p:=by repeat' (first | exact Q0 | refine fy ?_ ?_ | rfl | assumption | refine lR ?_ | exact ig | exact QZ | exact pV | exact I5 | refine nG ?_ | refine b5 ?_ ?_ | exact jR)):p:=h
section
variable {P:Program}{A:b4}{s:St}{rs:List ResultVar}
theorem fB {b:Bool}{o:Bool}(H:some b=some o)(h1:aK P (s.open A) rs=some (.bool b):=by kernel_rfl):(Ex.ret = .ret∨Ex.ret = .norm)∧∃av,aK P (s.open A) rs=some av∧eX s.h av (.bool o):=by
 cases H; exact⟨.inl rfl,_,h1,oR jh⟩
theorem fI {b:Int}{o:Int}{k:IntKind}(H:some b=some o)(h1:aK P (s.open A) rs=some (.int k b):=by kernel_rfl):(Ex.ret = .ret∨Ex.ret = .norm)∧∃av,aK P (s.open A) rs=some av∧eX s.h av (.int k o):=by
 cases H; exact⟨.inl rfl,_,h1,oR fw⟩
end
end Go.R
namespace Go.Proofs.YtifafejidnjckaaGreat
open Go Go.R
open Go.IntKind (i64 u64 u8 u32)
structure cF where
 iD:Int
 uc:Int
 GX:Int
 dY:ByteArray
 iT:List Int
 Bc:bh
structure ae where
 ay:Bool
 aa:List ak
 an:List Int
structure aj where
 ah:List ak
 ao:List Int
 aE:Bool
structure cy where
 nW:Int
 pE:Int
def cw:bM cF:={n:=7,f:=fun x=>[.int .i64 x.iD,.int .i64 x.uc,.int .i64 x.GX,.str x.dY,ab.fz x.iT,af.fz x.Bc.nodes,.int .i64 x.Bc.root],len:=fun _=>rfl,pos:=by decide,pure:=fun x _=>pure_cons jg (pure_cons jg (pure_cons jg (pure_cons rV (pure_cons bM.aJ (pure_cons bM.aJ (pure_cons jg (pure_nil))))))),canon:=fun _=>rfl}
def gU:bM cy:={n:=2,f:=fun x=>[.int .i64 x.nW,.int .i64 x.pE],len:=fun _=>rfl,pos:=by decide,pure:=fun x _=>pure_cons jg (pure_cons jg (pure_nil)),canon:=fun _=>rfl}
theorem da:BU Tryz.prog 22 1 8=true:=by kernel_rfl
theorem lJ:BU Tryz.prog 23 4 56=true:=by kernel_rfl
theorem V8:BU Tryz.prog 29 7 96=true:=by kernel_rfl
theorem GY:BU Tryz.prog 99 1 1=true:=by kernel_rfl
theorem UA:BU Tryz.prog 111 2 16=true:=by kernel_rfl
theorem UB:BU Tryz.prog 117 2 16=true:=by kernel_rfl
theorem A3:ju Tryz.prog 3=some false:=by kernel_rfl
theorem A4:ju Tryz.prog 4=some false:=by kernel_rfl
theorem Qj:ju Tryz.prog 22=some false:=by kernel_rfl
theorem A23:ju Tryz.prog 23=some false:=by kernel_rfl
theorem A27:ju Tryz.prog 27=some true:=by kernel_rfl
theorem tE:ju Tryz.prog 57=some true:=by kernel_rfl
theorem Z3:iR Tryz.prog 3=some 1:=by kernel_rfl
theorem Z4:iR Tryz.prog 4=some 1:=by kernel_rfl
theorem Z22:iR Tryz.prog 22=some 1:=by kernel_rfl
theorem Z27:iR Tryz.prog 27=some 7:=by kernel_rfl
theorem tF:iR Tryz.prog 57=some 4:=by kernel_rfl
theorem U9:Tryz.prog.underlying 9=some .string:=by kernel_rfl
theorem Rr:Fe Tryz.prog 84=true:=by kernel_rfl
theorem N1:Fw Tryz.prog 100=true:=by kernel_rfl
theorem Jh:Ff Tryz.prog 119 9=true:=by kernel_rfl
theorem N2:Tryz.prog.underlying 119=some (.map 121 3):=by kernel_rfl
theorem B8:LD Tryz.prog 121 9=true:=by kernel_rfl
theorem aau:clB Tryz.prog 22=true:=by kernel_rfl
theorem Xw:∀a b c d:Int,rH Tryz.prog .eql 110 (.agg [.int .i64 a,.int .i64 b]) (.agg [.int .i64 c,.int .i64 d])=some (.bool (iY (.agg [.int .i64 a,.int .i64 b]) (.agg [.int .i64 c,.int .i64 d])==true)):=by
 intro a b c d
 kernel_rfl
def r8.f (m:Nat):Option Bool:=some true
def S9 (cf:CallF)(m:Nat):Prop:=∀r:Bool,r8.f m=some r→∀h xs,bl cd h xs []→cf 9 xs h=some (.bool r,h)
def Zb (cf:CallF)(m:Nat):Prop:=Fp cf 37 1
def S51 (cf:CallF)(m:Nat):Prop:=Fp cf 51 4
def S66 (cf:CallF)(m:Nat):Prop:=SX cf 66
def N3:b4:=gL [0,2,3,7,26] [] [30,26,18,26,10,29,29] [] []
def db.l0 (m:Nat)(l0:List cF):Nat→Int→Option (Sum Bool (Int))
 | 0,_=>none
 | k+1,i0=>if (decide (i0<(l0.length:Int)))=true then ((ix l0 i0).bind fun v0=>if (decide ((v0.Bc.nodes.length:Int) > 40))=true then (some (.inl true)) else ((ix l0 i0).bind fun v1=>if (decide ((v1.iT.length:Int) > 40))=true then (some (.inl true)) else (db.l0 m l0 k (i64.wrap (i0+1))))) else (some (.inr i0))
def db.f (m:Nat)(l0:List cF):Option (Bool):=(db.l0 m l0 m 0).bind fun bp=>match bp with | .inl r0=>some r0 | .inr i1=>some (decide ((l0.length:Int) > 60))
def db.fin (L:Mem)(r:Bool)(s:St):Prop:=∃av,aK Tryz.prog (s.open N3) Tryz.f8.results.toList=some av∧eX s.h av (.bool r)
def S8 (cf:CallF)(m:Nat):Prop:=∀(l0:List cF) (r:Bool),db.f m l0=some r→∀h xs,bl cd h xs [cw.fz l0]→cf 8 xs h=some (.bool r,h)
section
variable {cf:CallF}{m:Nat}
theorem db.cm (L:Mem)(l0:List cF)   : b9 Tryz.prog cf N3 m (sub [1,0,1,0,0] (bw Tryz.f8)) (fun k (σ:Int)=>db.l0 m l0 k σ) (fun σ s=>match σ with | i0=>∃h0,s=⟨[cw.fz l0,.any,.i i0,.any,.any],[],h0⟩∧Has h0 (L)) (fun out e s=>(e = .exit 0∧∃i0,.inr i0=out∧∃Br wM h0,s=⟨[cw.fz l0,.any,Br,wM,.any],[],h0⟩∧Has h0 (L))∨(e = .ret∧∃r,.inl r=out∧db.fin L r s)):=by
 refine jF (fun _=>rfl) ?_
 rintro k i0 s out ⟨h0,rfl,o0⟩ H
 have H:db.l0 m l0 (k+1) i0=some out:=H
 refine qq <| qq <| q0 <| qc H (fun c0 H=>?_) (fun c0 H=>?_)
 ·refine qk <| qq <| qb 1 <| qq ?_
  obtain⟨v0,e0,H⟩:=aP H
  rcases eV H with⟨c1,H⟩| ⟨c1,H⟩
  ·exact qr [.v 2 (bN (k:=.i64) (E:=cw) (l:=l0) V8 e0),.v 5 (kc  (E:=cw) (l:=l0) (off:=5) h0 A23 e0 rfl),.b 8 c1] <| Bb <| qq <| q0 <| qt <| ajW (⟨rfl,_,oi H,pX (.bool true) h0 (oR (jh))⟩)
  ·obtain⟨v1,e1,H⟩:=aP H
   refine qr [.v 2 (bN (k:=.i64) (E:=cw) (l:=l0) V8 e0),.v 5 (kc  (E:=cw) (l:=l0) (off:=5) h0 A23 e0 rfl),.b 8 c1,.v 11 (bN (k:=.i64) (E:=cw) (l:=l0) V8 e1),.v 13 (kc  (E:=cw) (l:=l0) (off:=4) h0 Qj e1 rfl)] <| qc H (fun c3 H=>?_) (fun c3 H=>?_)
   ·exact q1 <| qt <| ajW (⟨rfl,_,oi H,pX (.bool true) h0 (oR (jh))⟩)
   ·exact qk <| q0 <| ⟨i64.wrap (i0+1),⟨h0,kr,o0⟩,H⟩
 ·exact qx 0 <| akl (⟨rfl,i0,oi H,.i i0,.bool (decide (i0<(l0.length:Int))),h0,kr,o0⟩)
theorem wN {aW:FuncId→b4}(ha:aW 8=N3)  (l0:List cF)(h:AHeap)(L:Mem)  (o:Has h (L)){out:Bool}(H:db.f m l0=some out) :
  ∃r h',bj Tryz.prog aW cf m 8 [cw.fz l0] h=some (r,h')∧eX h' r (.bool out):=by
 refine aw (fn:=Tryz.f8) ha Tryz.func8 kr kr ?_
 refine aI (Q:=fun s=>db.fin L out s) (fun _ _ h=>h) ?_
 have H:_=some out:=H
 unfold db.f at H
 show dE _ cf N3 m _ ⟨cw.fz l0::l9 [],[],h⟩ _
 refine q1 <| qq <| qq <| q0 <| qb 0 ?_
 obtain⟨bp,e2,H⟩:=aP H
 refine ql (db.cm L l0   0 _ _ ⟨h,kr,o⟩ e2) ?_
 rintro e s (⟨rfl,i1,rfl,g0,g1,h1,rfl,o1⟩| ⟨rfl,r0,rfl,r9⟩)
 ·try dsimp only at H
  exact q1 <| qt <| fB H
 ·try dsimp only at H
  obtain rfl:=oi H
  exact⟨.inl rfl,r9⟩
end
def Ji:b4:=gL [0] [14000000001] [1] [] []
def mj.f (m:Nat)  : Option (ae):=some (ae.mk true ([]:List ak) ([]:List Int))
def mj.fin (L:Mem)  (r:ae)(s:St):Prop:=∃cR dR dS:Nat,aK Tryz.prog (s.open Ji) Tryz.f16.results.toList=some (.ptr cR 0)∧Has s.h ((cR,.ob [.bool r.ay,.rs dR 0 r.aa.length 4,.rs dS 0 r.an.length 1])::(dR,.sl r.aa.length 4 (af.l r.aa))::(dS,.sl r.an.length 1 (ab.l r.an))::L)
def S16 (cf:CallF)(m:Nat):Prop:=∀ (r:ae),mj.f m  = some r→∀h L,Has h (L)→∀xs,xs.map ba=[]→∃cR dR dS h',cf 16 xs h=some (.ptr cR 0,h')∧Has h' ((cR,.ob [.bool r.ay,.rs dR 0 r.aa.length 4,.rs dS 0 r.an.length 1])::(dR,.sl r.aa.length 4 (af.l r.aa))::(dS,.sl r.an.length 1 (ab.l r.an))::L)
section
variable {cf:CallF}{m:Nat}
theorem z6 {aW:FuncId→b4}(ha:aW 16=Ji)   (h:AHeap)(L:Mem)  (o:Has h (L)){out:ae}(H:mj.f m  = some out) :
  ∃r h',bj Tryz.prog aW cf m 16 [] h=some (r,h')∧∃cR dR dS:Nat,r = .ptr cR 0∧Has h' ((cR,.ob [.bool out.ay,.rs dR 0 out.aa.length 4,.rs dS 0 out.an.length 1])::(dR,.sl out.aa.length 4 (af.l out.aa))::(dS,.sl out.an.length 1 (ab.l out.an))::L):=by
 refine aw (fn:=Tryz.f16) ha Tryz.func16 kr kr ?_
 refine aI (Q:=fun s=>mj.fin L out s) (fun _ _ ⟨h1,cR,dR,dS,h2,h3⟩=>⟨h1,_,h2,cR,dR,dS,rfl,h3⟩) ?_
 have H:_=some out:=H
 unfold mj.f at H
 show dE _ cf Ji m _ ⟨[.any],[none],h⟩ _
 refine q1 <| qq ?_
 have o0:Has h (((0),.sl (([]:List ak).length) 4 (af.l ([]:List ak)))::L):=Has.nil o 4
 have o1:Has h ((((0)),.sl (([]:List Int).length) 1 (ab.l ([]:List Int)))::((0),.sl (([]:List ak).length) 4 (af.l ([]:List ak)))::L):=Has.nil o0 1
 obtain⟨aX,h0,e0,o2⟩:=ja (cs:=[.bool true,.rs (0) 0 (([]:List ak).length) 4,.rs ((0)) 0 (([]:List Int).length) 1]) o1 kr
 obtain rfl:=oi H
 exact qr [.a 1 e0] <| qt <| ⟨.inl rfl,⟨aX,(0),((0)),kr,he (bI (bI (bI o2 1) 2) 2)⟩⟩
end
end Go.Proofs.YtifafejidnjckaaGreat
