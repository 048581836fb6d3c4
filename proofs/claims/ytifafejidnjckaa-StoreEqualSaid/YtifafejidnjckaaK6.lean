/- Part of the proof: RBuf1, RBuf2, RBuf3, RBuf4, RBuf5, RG9, RFix, RGN, RGL, RSrt, RGS, RGC, RPT, RDV, RMB, RGR, QW, Q10, Q14, Q25, Q26. -/
import Derived.Test.YtifafejidnjckaaK5
import Derived.Shelf.LaysM
import Derived.Shelf.Bytes.GrowAt
import Derived.Lib.ByteType
import Derived.Lib.BufferAt
import Derived.Lib.BufferKept
import Derived.Lib.Walk
import Derived.Lib.BufferWrite
import Derived.Lib.Hide
import Derived.WalkKit
import Derived.BigCall
import Derived.BigGuard
import Derived.KernelRfl
import Derived.Shelf.Sort.Plain
import Derived.Shelf.Slices.In.SortNone
import Derived.Shelf.Slices.CompactI
import Derived.Test.YtifafejidnjckaaProg
set_option linter.unusedVariables false
set_option linter.unusedSimpArgs false
set_option maxRecDepth 100000
open Array renaming getElem?_eq_some_iff → Yk, getElem?_modify → YO
open Bool renaming and_eq_true → XN, false_eq_true → XX, not_eq_true' → YL, not_true → YQ, true_and → Zg
open Int renaming toNat_natCast → XY
open List renaming getElem?_eq_getElem → XO, getElem?_eq_some_iff → XQ, mem_of_getElem? → XT, length_append → XU, drop_eq_getElem_cons → XW, getElem?_append_left → XZ, length_map → X0, getElem?_append_right → X1, length_cons → X2, append_assoc → X3, all_eq_true → X5, replicate → X6, mem_cons → X7, map_cons → X8, mem_singleton → X9, eq_nil_of_length_eq_zero → Yd, map_append → Ye, length_nil → Yf, mem_append → Yg, take_append_of_le_length → Yi, getElem?_cons_zero → Ym, take_of_length_le → Yn, cons_append → Yq, nil_append → Yr, drop_zero → Ys, mem_append_left → Yy, getElem?_map → YB, getElem?_of_mem → YC, length_take → YD, getElem?_cons_succ → YR, take_append_drop → YW, append_nil → Y9
open Nat renaming le_refl → XP, zero_add → Ya, beq → Yp, lt_succ_self → Yx, le_trans → Yz, mul_le_mul_right → YF, add_sub_cancel_left → YK, sub_self → YP, le_succ → YT, lt_succ_of_lt → YZ, ble → Y6, min_eq_left → Y7, zero_lt_one → Y8
open Option renaming bind_some → XJ, bind_eq_some_iff → XK, map_eq_some_iff → XL, map_some → XR, getD_some → YH
open Option.some renaming injEq → XM, inj → Yj
open Prod.mk renaming injEq → XS
namespace Go.R
open Go Go.Proofs Go.Shelf Go.RowKit
variable {P:Program}{ρ:Ren}
end Go.R
namespace Go.R
open Go Go.Proofs Go.Shelf Go.RowKit
variable {P:Program}{ρ:Ren}
end Go.R
namespace Go.R
open Go Go.Proofs Go.Shelf Go.RowKit
variable {P:Program}{ρ:Ren}
end Go.R
namespace Go.R
open Go Go.Proofs Go.Shelf Go.RowKit
theorem Fr.none {c:Cx}{L0:Nat→Prop}(hrel:HRel c L0):Fr L0 c none0 (fun _=>0) [] ⟨fun _=>.any,fun _=>none,c.h⟩ ⟨#[],[]⟩:=
 ⟨rfl,by rw [show un L0 none0=L0 from by funext b; simp [un,none0]]; exact hrel,fun t=>by simp [SR,VR],fun k cs h=>(by cases h),fun k k' h=>(by cases h),fun t k off _ h=>(by cases h),rfl,fun b h=>h.elim⟩
end Go.R
namespace Go.R
open Go Go.Proofs Go.Shelf Go.RowKit
theorem intr_cons {P:Program}{f0:FuncId}{g0:List AV→AHeap→Option (AV × AHeap)}{intr:FuncId→Option (List AV→AHeap→Option (AV × AHeap))}(h0:CallOK P fun f' args h=>if f'=f0 then g0 args h else none)
  (hs:∀args h r h',g0 args h=some (r,h')→Steady h h') (h:IntrOK P intr):IntrOK P fun f=>if f=f0 then some g0 else intr f:=by
 intro f g hg
 dsimp only at hg
 split at hg
 ·rename_i hf
  subst hf
  cases hg
  exact⟨h0,hs⟩
 ·exact h f g hg
end Go.R
namespace Go.R
open Go
section
variable {h:AHeap}{L:Mem}{e:TypeId}{id i:Nat}{bs news r:List Int}{c:Int}{s:ByteArray}
variable {cf:CallF}{f:FuncId}
end
def jn {α β:Type}(b:α→Option β)(a:(α→Option β)→Option β):Option β:=a b
theorem pF {α β:Type}{b:α→Option β}{a:(α→Option β)→Option β}{out:β}(H:jn b a=some out):∃j:α→Option β,(∀x,j x=b x)∧a j=some out:=⟨b,fun _=>rfl,H⟩
theorem bj {α β:Type}{o:Option α}{f:α→Option β}{b:β}(h:o.bind f=some b):∃a,o=some a∧f a=some b:=XK.1 h
theorem Vd {α:Type}{c:Bool}{a b z:α}(h:c=true)(H:(if c=true then a else b)=z):a=z:=(if_pos h).symm.trans H
theorem Ve {α:Type}{c:Bool}{a b z:α}(h:c=false)(H:(if c=true then a else b)=z):b=z:=(if_neg (H9 h)).symm.trans H
abbrev nS (l:List AV):List AV:=.any :: .any :: .any::l
abbrev nZ (l:List AV):List AV:=.any :: .any :: .any :: .any::l
abbrev Aw (l:List AV):List AV:=.any :: .any :: .any :: .any :: .any::l
abbrev xH (l:List AV):List AV:=.any :: .any :: .any :: .any :: .any :: .any::l
abbrev FE (l:List AV):List AV:=.any :: .any :: .any :: .any :: .any :: .any :: .any::l
abbrev vj (l:List AV):List AV:=.any :: .any :: .any :: .any :: .any :: .any :: .any :: .any::l
abbrev Oz (l:List AV):List AV:=.any :: .any :: .any :: .any :: .any :: .any :: .any :: .any :: .any::l
abbrev Kp (l:List AV):List AV:=.any :: .any :: .any :: .any :: .any :: .any :: .any :: .any :: .any :: .any::l
abbrev rJ (l:List AV):List AV:=.any :: .any :: .any :: .any :: .any :: .any :: .any :: .any :: .any :: .any :: .any::l
abbrev uH (l:List AV):List AV:=.any :: .any :: .any :: .any :: .any :: .any :: .any :: .any :: .any :: .any :: .any :: .any::l
abbrev rK (l:List AV):List AV:=.any :: .any :: .any :: .any :: .any :: .any :: .any :: .any :: .any :: .any :: .any :: .any :: .any::l
abbrev yE (l:List AV):List AV:=.any :: .any :: .any :: .any :: .any :: .any :: .any :: .any :: .any :: .any :: .any :: .any :: .any :: .any::l
abbrev PD (l:List AV):List AV:=.any :: .any :: .any :: .any :: .any :: .any :: .any :: .any :: .any :: .any :: .any :: .any :: .any :: .any :: .any::l
abbrev If (l:List AV):List AV:=.any :: .any :: .any :: .any :: .any :: .any :: .any :: .any :: .any :: .any :: .any :: .any :: .any :: .any :: .any :: .any::l
abbrev PE (l:List AV):List AV:=.any :: .any :: .any :: .any :: .any :: .any :: .any :: .any :: .any :: .any :: .any :: .any :: .any :: .any :: .any :: .any :: .any::l
abbrev PF (l:List AV):List AV:=.any :: .any :: .any :: .any :: .any :: .any :: .any :: .any :: .any :: .any :: .any :: .any :: .any :: .any :: .any :: .any :: .any :: .any :: .any :: .any::l
abbrev PG (l:List AV):List AV:=.any :: .any :: .any :: .any :: .any :: .any :: .any :: .any :: .any :: .any :: .any :: .any :: .any :: .any :: .any :: .any :: .any :: .any :: .any :: .any :: .any::l
abbrev PH (l:List AV):List AV:=.any :: .any :: .any :: .any :: .any :: .any :: .any :: .any :: .any :: .any :: .any :: .any :: .any :: .any :: .any :: .any :: .any :: .any :: .any :: .any :: .any :: .any::l
abbrev PJ (l:List AV):List AV:=.any :: .any :: .any :: .any :: .any :: .any :: .any :: .any :: .any :: .any :: .any :: .any :: .any :: .any :: .any :: .any :: .any :: .any :: .any :: .any :: .any :: .any :: .any::l
abbrev Nc (l:List AV):List AV:=.any :: .any :: .any :: .any :: .any :: .any :: .any :: .any :: .any :: .any :: .any :: .any :: .any :: .any :: .any :: .any :: .any :: .any :: .any :: .any :: .any :: .any :: .any :: .any :: .any::l
abbrev PK (l:List AV):List AV:=.any :: .any :: .any :: .any :: .any :: .any :: .any :: .any :: .any :: .any :: .any :: .any :: .any :: .any :: .any :: .any :: .any :: .any :: .any :: .any :: .any :: .any :: .any :: .any :: .any :: .any :: .any::l
abbrev PL (l:List AV):List AV:=.any :: .any :: .any :: .any :: .any :: .any :: .any :: .any :: .any :: .any :: .any :: .any :: .any :: .any :: .any :: .any :: .any :: .any :: .any :: .any :: .any :: .any :: .any :: .any :: .any :: .any :: .any :: .any :: .any::l
abbrev PM (l:List AV):List AV:=.any :: .any :: .any :: .any :: .any :: .any :: .any :: .any :: .any :: .any :: .any :: .any :: .any :: .any :: .any :: .any :: .any :: .any :: .any :: .any :: .any :: .any :: .any :: .any :: .any :: .any :: .any :: .any :: .any :: .any :: .any :: .any :: .any :: .any::l
end Go.R
namespace Go.R
open Go
def uI {X:Type}(F:CallF→Option X):Prop:=∀cf x,F cf=some x→∃l:List (FuncId × List AV × AHeap × (AV × AHeap)),(∀e∈l,cf e.1 e.2.1 e.2.2.1=some e.2.2.2)∧∀BL:CallF,(∀e∈l,BL e.1 e.2.1 e.2.2.1=some e.2.2.2)→F BL=some x
theorem bF {X:Type}(x:Option X):uI fun _=>x:=by
 intro cf y h
 refine⟨[],?_,fun _ _=>h⟩
 intro e he; cases he
theorem FF (f:FuncId)(args:List AV)(h:AHeap):uI fun cf=>cf f args h:=by
 intro cf x hx
 refine⟨[(f,args,h,x)],?_,fun BL h'=>h' (f,args,h,x) (X9.2 rfl)⟩
 intro e he; cases (X9.1 he); exact hx
theorem eG {X Y:Type}{F:CallF→Option X}{G:X→CallF→Option Y}(hF:uI F)(hG:∀y,uI (G y)):uI fun cf=>(F cf).bind fun y=>G y cf:=fun cf z hz=>by
 obtain⟨y,h1,h2⟩:=XK.1 hz
 obtain⟨l1,a1,b1⟩:=hF cf y h1
 obtain⟨l2,a2,b2⟩:=hG y cf z h2
 refine⟨l1++l2,fun e he=>(Yg.1 he).elim (a1 e) (a2 e),fun BL h'=>?_⟩
 have e1:=b1 BL fun e he=>h' e (Yy _ he)
 have e2:=b2 BL fun e he=>h' e (List.mem_append_right _ he)
 show (F BL).bind _=_
 rw [e1,XJ,e2]
theorem wU {X Y:Type}{F:CallF→Option X}{g:X→Y}(hF:uI F):uI fun cf=>(F cf).map g:=by
 intro cf x hx
 obtain⟨y,h1,h2⟩:=XL.1 hx
 obtain⟨l,a,b⟩:=hF cf y h1
 refine⟨l,a,fun BL h'=>?_⟩
 show (F BL).map g=some x
 rw [b BL h',XR,h2]
theorem jR {X:Type}{c:Prop}[Decidable c]{F G:CallF→Option X}(hF:uI F)(hG:uI G):uI fun cf=>if c then F cf else G cf:=by
 by_cases h:c
 ·simp only [h,if_true]; exact hF
 ·simp only [h,if_false]; exact hG
section
variable {P:Program}{aI ds:List Nat}
theorem pG {X:Type}{F:CallF→Option X}(h:∀cf BL,F cf=F BL):uI F:=by
 intro cf x hx
 refine⟨[],?_,fun BL _=>(h BL cf).trans hx⟩
 intro e he; cases he
theorem BM (e:Operand→AV)(s:RS)(o:Oper):uI fun cf=>zY P cf aI ds e s o:=by
 obtain⟨dst,op,type,pos,after,guard⟩:=o
 cases op with
 | call c=>
  obtain⟨callee,args,at_⟩:=c
  cases callee with
  | value f=>
   simp only [zY]
   cases e f with
   | fn f cap=>exact jR (wU (eG (FF _ _ _) fun y=>bF _)) (bF _)
   | _=>exact bF _
  | _=>exact pG fun _ _=>rfl
 | makeFunc fn first cap=>cases fn<;>exact pG fun _ _=>rfl
 | makeMap t r=>cases r<;>exact pG fun _ _=>rfl
 | _=>exact pG fun _ _=>rfl
theorem DR (ops:List Oper)(s:RS)(o:Oper):uI fun cf=>mU P cf aI ops s o:=by
 refine eG (bF (hU ops s.ρ o)) fun w=>?_
 exact jR (BM _ _ _) (bF _)
theorem yF (ops:List Oper):∀(os:List Oper) (s:RS),uI fun cf=>rB P cf aI ops s os
 | [],s=>bF _
 | o::os,s=>eG (DR ops s o) fun s'=>yF ops os s'
theorem yG (ops:List Oper):∀(os:List Oper) (s:RS),uI fun cf=>pc P cf aI ops s os
 | [],s=>bF _
 | o::os,s=>eG (bF (hU ops s.ρ o)) fun w=>eG (jR (BM _ _ _) (bF _)) fun s1=>wU (yG ops os s1)
theorem Ax (ops:Array Oper)(s:RS):uI fun cf=>j5 P cf aI ops s:=by
 unfold j5
 exact jR (eG (yG _ _ _) fun x=>bF _) (bF _)
theorem vk {f:CallF→St→Option (Ex × St)}(hf:∀s,uI fun cf=>f cf s):∀(n:Nat) (s:St),uI fun cf=>lf (f cf) n s
 | 0,s=>bF _
 | n+1,s=>eG (hf s) fun x=>by
  obtain⟨x,s'⟩:=x
  cases x with
  | norm=>exact vk hf n s'
  | _=>exact bF _
theorem jh (A:bY)(n:Nat):∀(c:Code) (s:St),uI fun cf=>bO P cf A n c s
 | .skip,s=>by simp only [bO]; exact bF _
 | .label _,s=>by simp only [bO]; exact bF _
 | .ret,s=>by simp only [bO]; exact bF _
 | .exit _,s=>by simp only [bO]; exact bF _
 | .seq a b,s=>by
  simp only [bO]
  exact eG (jh A n a s) fun x=>by
   obtain⟨x,s'⟩:=x
   cases x with
   | norm=>exact jh A n b s'
   | _=>exact bF _
 | .cond k x y,s=>by
  simp only [bO]
  exact eG (bF _) fun t=>jR (jh A n x s) (jh A n y s)
 | .block id b,s=>by simp only [bO]; exact wU (jh A n b s)
 | .loop b,s=>by simp only [bO]; exact vk (fun s=>jh A n b s) n s
 | .region r ops draw,s=>by
  simp only [bO]
  exact eG (bF _) fun s=>eG (jR (Ax _ _) (yF _ _ _)) fun s'=>bF _
 | .rangeFunc ..,s=>by simp only [bO]; exact bF _
 | .scope _,s=>by simp only [bO]; exact bF _
 | .goto _,s=>by simp only [bO]; exact bF _
 | .refuse _,s=>by simp only [bO]; exact bF _
theorem jX (aW:FuncId→bY)(m:Nat)(f:FuncId)(args:List AV)(h:AHeap):uI fun cf=>bb P aW cf m f args h:=by
 unfold bb
 refine eG (bF _) fun fn=>eG (bF _) fun c=>jR (eG (jh _ _ _ _) fun x=>bF _) (bF _)
end
def rm (P:Program)(T:oa)(m:Nat)(cf:CallF):CallF:=fun f args h=>
 match T.intr f with
 | some g=>g args h
 | none=>
  match T.pure f with
  | some deep=>if T.eM f then (bz h deep args).bind fun us=>(bb P T.aW cf m f us bA).bind fun x=>(dr h.next x.1).map fun r=>(r,h.eM x.2) else
    if cZ args then (bb P T.aW cf m f (dN args) bA).bind fun x=>(b8 x.2 deep x.1).map fun r=>(r,h) else
    match bz h deep args with
    | some zs=>(bb P T.aW cf m f zs bA).bind fun x=>(gu x.2 deep x.1).map fun r=>(r,h)
    | none=>bb P T.aW cf m f (args.map aO) h
  | none=>bb P T.aW cf m f (args.map aO) h
section
variable {P:Program}{T:oa}{m:Nat}
theorem vl (f:FuncId)(args:List AV)(h:AHeap):uI fun cf=>rm P T m cf f args h:=by
 unfold rm
 cases T.intr f with
 | some g=>exact bF _
 | none=>
  cases T.pure f with
  | none=>exact jX _ _ _ _ _
  | some deep=>
   refine jR (eG (bF _) fun us=>eG (jX _ _ _ _ _) fun x=>bF _) ?_
   refine jR (eG (jX _ _ _ _ _) fun x=>bF _) ?_
   cases bz h deep args with
   | none=>exact jX _ _ _ _ _
   | some zs=>exact eG (jX _ _ _ _ _) fun x=>bF _
theorem tm:∀(n:Nat) (f:FuncId) (args:List AV) (h:AHeap) (x:AV × AHeap),fc P T m n f args h=some x→fc P T m (n+1) f args h=some x
 | 0,f,args,h,x,hc=>by simp [fc] at hc
 | n+1,f,args,h,x,hc=>by
  obtain⟨l,h1,h2⟩:=vl (P:=P) (T:=T) (m:=m) f args h _ _ hc
  exact h2 (fc P T m (n+1)) fun e he=>tm n _ _ _ _ (h1 e he)
theorem pH {n k:Nat}(hk:n≤k){f:FuncId}{args:List AV}{h:AHeap}{x:AV × AHeap}(hc:fc P T m n f args h=some x):fc P T m k f args h=some x:=by
 induction hk with
 | refl=>exact hc
 | step _ ih=>exact tm _ _ _ _ _ ih
open Classical in
noncomputable def ja (P:Program)(T:oa)(m:Nat):CallF:=fun f args h=>if H:∃x n,fc P T m n f args h=some x then some (Classical.choose H) else none
theorem ls {f:FuncId}{args:List AV}{h:AHeap}{x:AV × AHeap}:ja P T m f args h=some x↔∃n,fc P T m n f args h=some x:=by
 have key:∀(H:∃x n,fc P T m n f args h=some x) (n:Nat),fc P T m n f args h=some x→Classical.choose H=x:=fun H n hn=>by
  obtain⟨k,hk⟩:=Classical.choose_spec H
  have h1:=pH (Nat.le_max_left n k) hn
  have h2:=pH (Nat.le_max_right n k) hk
  rw [h1] at h2
  exact (Yj h2).symm
 unfold ja
 constructor
 ·intro hc
  split at hc
  ·rename_i H
   obtain⟨n,hn⟩:=Classical.choose_spec H
   cases hc
   exact⟨n,hn⟩
  ·cases hc
 ·rintro⟨n,hn⟩
  have H:∃x n,fc P T m n f args h=some x:=⟨x,n,hn⟩
  rw [dif_pos H,key H n hn]
theorem DS (l:List (FuncId × List AV × AHeap × (AV × AHeap)))(hl:∀e∈l,ja P T m e.1 e.2.1 e.2.2.1=some e.2.2.2):∃n,∀e∈l,fc P T m n e.1 e.2.1 e.2.2.1=some e.2.2.2:=by
 induction l with
 | nil=>exact⟨0,fun e he=>by cases he⟩
 | cons a l ih=>
  obtain⟨n,hn⟩:=ih fun e he=>hl e (List.mem_cons_of_mem _ he)
  obtain⟨k,hk⟩:=ls.1 (hl a List.mem_cons_self)
  refine⟨max n k,fun e he=>?_⟩
  rcases X7.1 he with rfl | he
  ·exact pH (Nat.le_max_right n k) hk
  ·exact pH (Nat.le_max_left n k) (hn e he)
theorem lu {f:FuncId}{args:List AV}{h:AHeap}{x:AV × AHeap}(hc:rm P T m (ja P T m) f args h=some x):ja P T m f args h=some x:=by
 obtain⟨l,h1,h2⟩:=vl (P:=P) (T:=T) (m:=m) f args h _ _ hc
 obtain⟨n,hn⟩:=DS l h1
 exact ls.2 ⟨n+1,h2 (fc P T m n) hn⟩
theorem FG (hP:Fit P)(rf:IntrOK P T.intr):CallOK P (ja P T m):=fun f args h r h' hc=>by
 obtain⟨n,hn⟩:=ls.1 hc
 exact pB hP rf m n f args h r h' hn
theorem aU:Has bA []:=⟨fun j i c h=>by simp at h,fun j j' i c c' h=>by simp at h,Y8⟩
end
section
variable {P:Program}{T:oa}{m f deep:Nat}{h:AHeap}{xs ys:List AV}{y:AV}{x:AV × AHeap}
theorem Ig (h1:T.intr f=none)(h2:T.pure f=some deep)(h3:T.eM f=false)(hd:gO+bJ≤deep)(hx:yB xs ys)(hb:∃r h',bb P T.aW (ja P T m) m f ys bA=some (r,h')∧PB h' r y):ja P T m f xs h=some (y,h):=by
 obtain⟨r,h',hb,hf⟩:=hb
 refine lu ?_
 have hd:gO+4503599627370496≤deep:=Yz (Nat.add_le_add_left (by decide) _) hd
 simp only [rm,h1,h2,h3,XX,if_false,hx.1,if_true,hx.2,hb,XJ,hf deep hd,XR]
theorem bn (h1:T.intr f=none)(h2:T.pure f=some deep)(h3:T.eM f=false)(hd:gO+bJ≤deep)(hx:aQ bJ h xs ys)(hb:∃r h',bb P T.aW (ja P T m) m f ys bA=some (r,h')∧fj h' r y):ja P T m f xs h=some (y,h):=by
 have h4:=hx deep hd
 have Hv:gO+4503599627370496≤deep:=Yz (Nat.add_le_add_left (by decide) _) hd
 by_cases hn:cZ xs=true
 ·have:=gS deep xs ys hn h4
  obtain⟨r,h',hb,hf⟩:=hb
  exact Ig h1 h2 h3 hd ⟨hn,this.symm⟩ ⟨r,h',hb,hf.HG⟩
 ·obtain⟨r,h',hb,hf⟩:=hb
  refine lu ?_
  simp only [rm,h1,h2,h3,XX,if_false,hn,h4,hb,XJ,hf deep Hv,XR]
theorem gT (h1:T.intr f=none)(h2:T.pure f=none)(hx:xs.map aO=ys)(hb:bb P T.aW (ja P T m) m f ys h=some x):ja P T m f xs h=some x:=by
 refine lu ?_
 simp only [rm,h1,h2,hx,hb]
theorem Ih {g:List AV→AHeap→Option (AV × AHeap)}(h1:T.intr f=some g)(hx:g xs h=some x):ja P T m f xs h=some x:=by
 refine lu ?_
 simp only [rm,h1,hx]
theorem tq {g:List AV→AHeap→Option (AV × AHeap)}(h1:T.intr f=some g):ja P T m f xs h=g xs h:=by
 cases hg:g xs h with
 | some x=>exact Ih h1 hg
 | none=>
  cases hc:ja P T m f xs h with
  | none=>rfl
  | some x=>
   obtain⟨n,hn⟩:=ls.1 hc
   cases n with
   | zero=>simp [fc] at hn
   | succ n=>simp only [fc,h1,hg] at hn; cases hn
end
end Go.R
namespace Go.R
open Go
def ba:List aj→List Nat→List (aj × Nat)
 | [],_=>[]
 | n::ns,ids=>(n,ids.headD 0)::ba ns ids.tail
def L7 (ids:List Nat)(i:Int):Nat:=ids.getD i.toNat 0
def wV (ns:List aj)(ids:List Nat):List Nat:=(ba ns ids).map fun p=>p.2
def dH:bK (aj × Nat):={n:=4,f:=fun x=>[.int .i64 x.1.kind,.int .i64 x.1.int,.str x.1.label,.rs x.2 0 x.1.args.length 1],len:=fun _=>rfl,pos:=by decide,flat:=false,pure:=fun _ h=>(by cases h),canon:=fun _=>rfl}
def Ay (p:aj × Nat):Nat × Ct:=(p.2,.sl p.1.args.length 1 (af.l p.1.args))
def eQ (ns:List aj)(ids:List Nat):Mem:=(ba ns ids).map Ay
theorem ff:∀(ns:List aj) (ids:List Nat),(ba ns ids).length=ns.length
 | [],_=>rfl
 | n::ns,ids=>by simp [ba,ff ns]
theorem Az (ids:List Nat):ids.headD 0=ids.getD 0 0:=by cases ids<;>rfl
theorem DT (ids:List Nat)(i:Nat):ids.tail.getD i 0=ids.getD (i+1) 0:=by cases ids<;>simp
theorem tu:∀(ns:List aj) (ids:List Nat) (i:Nat) (n:aj),ns[i]? = some n→(ba ns ids)[i]? = some (n,ids.getD i 0)
 | [],_,i,n,h=>by simp at h
 | a::ns,ids,0,n,h=>by
  simp only [Ym,XM] at h
  subst h
  show (some (a,ids.headD 0):Option (aj × Nat))=some (a,ids.getD 0 0)
  rw [Az]
 | a::ns,ids,i+1,n,h=>by
  simp only [YR] at h
  have:=tu ns ids.tail i n h
  simp only [ba,YR,this,DT]
theorem si {ns:List aj}{ids:List Nat}{i:Int}{n:aj}(h:ix ns i=some n):ix (ba ns ids) i=some (n,L7 ids i):=by
 obtain⟨h0,h1,h2⟩:=hY h
 unfold ix L7
 rw [if_pos h0,tu ns ids _ _ h2]
theorem tv:∀(ns:List aj) (ids:List Nat) (n:aj) (ad:Nat),ba (ns++[n]) (wV ns ids++[ad])=ba ns ids++[(n,ad)]
 | [],ids,n,ad=>rfl
 | a::ns,ids,n,ad=>by
  have:=tv ns ids.tail n ad
  simp only [wV,ba,X8,Yq,List.headD_cons,List.tail_cons] at this ⊢
  rw [this]
theorem Ii (ns:List aj)(ids:List Nat)(n:aj)(ad:Nat):eQ (ns++[n]) (wV ns ids++[ad])=eQ ns ids++[Ay (n,ad)]:=by
 unfold eQ; rw [tv,Ye]; rfl
theorem Has.perm {h:AHeap}{K K':Mem}(o:Has h K)(p:K'.Perm K):Has h K':=by
 have hP:K.Pairwise fun a b=>a.1≠0→a.1≠b.1:=by
  rw [List.pairwise_iff_getElem]
  intro i j hi hj zJ h0 he
  have:=o.nd i j K[i].1 K[i].2 K[j].2 (by rw [XO hi]) (by rw [XO hj,he]) h0
  omega
 have PN:K'.Pairwise fun a b=>a.1≠0→a.1≠b.1:=(p.pairwise_iff (fun {a b} h h0 he=>h (by rw [←he]; exact h0) he.symm)).2 hP
 rw [List.pairwise_iff_getElem] at PN
 refine⟨fun j i c hj=>?_,fun j j' i c c' hj zI h0=>?_,o.pos⟩
 ·obtain⟨j',zI⟩:=YC (p.mem_iff.1 (XT hj))
  exact o.at_ j' i c zI
 ·obtain⟨a1,a2⟩:=XQ.1 hj
  obtain⟨b1,b2⟩:=XQ.1 zI
  rcases Nat.lt_trichotomy j j' with hl | hl | hl
  ·have:=PN j j' a1 b1 hl
   rw [a2,b2] at this
   exact absurd rfl (this h0)
  ·exact hl
  ·have:=PN j' j b1 a1 hl
   rw [a2,b2] at this
   exact absurd rfl (this h0)
section
variable {P:Program}{t t2 tf:TypeId}{h:AHeap}{pre L:Mem}{ns r:List aj}{ids:List Nat}{i ad k n2:Nat}{j a v:Int}{n:aj}
theorem Has.gone (o:Has h (pre++(eQ ns ids++L))):Has h (pre++L):=by
 refine o.sub (fun q=>if q<pre.length then q else q+(eQ ns ids).length) (fun q p hq=>?_) (fun q q' he=>?_)
 ·by_cases hl:q<pre.length
  ·rw [XZ hl] at hq
   rw [if_pos hl,XZ hl]; exact hq
  ·rw [X1 (by omega)] at hq
   rw [if_neg hl,X1 (by omega),X1 (by omega),←hq]
   congr 1; omega
 ·split at he<;>split at he<;>omega
theorem Kq {b:Nat}{kind int:Int}{label:ByteArray}{args:List Int}{x:AV}(T:yx P t 4 b=true)(o:Has h ((i,.sl k 4 (dH.l (ba ns ids)))::(ad,.sl n2 1 (af.l args))::(pre++(eQ ns ids++L))))
  (hx:fU h 4 x=some ([.int .i64 kind,.int .i64 int,.str label,.rs ad 0 n2 1],1)) (gN:iR P t2 x=true) (hr:app b ns [⟨kind,int,label,args⟩]=some r) :
  ∃i' Nd h',dU P h t t2 (.rs i 0 k 4) x=some (.rs i' 0 r.length 4,h')∧Has h' ((i',.sl r.length 4 (dH.l (ba r Nd)))::(pre++(eQ r Nd++L))):=by
 have hn:n2=args.length:=cW (E:=af) o (q:=1) rfl
 subst hn
 obtain⟨_,_,rfl⟩:=yy hr
 have Ao:app b (ba ns ids) [((⟨kind,int,label,args⟩:aj),ad)]=some (ba ns ids++[((⟨kind,int,label,args⟩:aj),ad)]):=by
  unfold app at hr ⊢
  rw [ff]
  split at hr
  ·rename_i hh
   simp only [X2,Yf] at hh ⊢
   rw [if_pos hh]
  ·cases hr
 have HS:fU h dH.n x=some (dH.l [((⟨kind,int,label,args⟩:aj),ad)],[((⟨kind,int,label,args⟩:aj),ad)].length):=hx
 obtain⟨i',h',e,o'⟩:=iW (E:=dH) (l:=ba ns ids) (q:=0) T o rfl HS gN Ao
 have e:dU P h t t2 (.rs i 0 k 4) x=some (.rs i' 0 (ba ns ids++[((⟨kind,int,label,args⟩:aj),ad)]).length 4,h'):=e
 refine⟨i',wV ns ids++[ad],h',?_,?_⟩
 ·rw [e,XU,XU,ff]; rfl
 ·rw [Ii,tv]
  have o':Has h' ((i',.sl (ba ns ids++[((⟨kind,int,label,args⟩:aj),ad)]).length 4 (dH.l (ba ns ids++[((⟨kind,int,label,args⟩:aj),ad)])))::Ay (⟨kind,int,label,args⟩,ad)::(pre++(eQ ns ids++L))):=o'
  have el:(ns++[(⟨kind,int,label,args⟩:aj)]).length=(ba ns ids++[((⟨kind,int,label,args⟩:aj),ad)]).length:=by
   rw [XU,XU,ff]; rfl
  rw [el]
  refine o'.perm (List.Perm.cons _ ?_)
  have k1:pre++((eQ ns ids++[Ay ((⟨kind,int,label,args⟩:aj),ad)])++L)=(pre++eQ ns ids)++Ay (⟨kind,int,label,args⟩,ad)::L:=by simp
  have k2:pre++(eQ ns ids++L)=(pre++eQ ns ids)++L:=by simp
  rw [k1,k2]
  exact List.perm_middle
def cz:Nat:=2251799813685248
theorem yH:∀(ns:List aj) (ids:List Nat),(ba ns ids).map (fun p=>p.1)=ns
 | [],_=>rfl
 | n::ns,ids=>by simp [ba,yH ns]
theorem BN:∀(zs:List (aj × Nat)),(∀p∈zs,∀n,gO≤n→b8 h n (.rs p.2 0 p.1.args.length 1)=some (af.fz p.1.args))→∀n,gO+4*zs.length+1≤n→bz h n (dH.l zs)=some (ai.l (zs.map fun p=>p.1))
 | [],_,n,hn=>by
  obtain⟨m,rfl⟩:∃m,n=m+1:=⟨n - 1,by omega⟩
  rfl
 | p::zs,hz,n,hn=>by
  obtain⟨m,rfl⟩:∃m,n=m+4+1:=⟨n - 5,by simp only [X2] at hn; simp only [gO] at hn; omega⟩
  simp only [X2] at hn
  have h1:=BN zs (fun q hq=>hz q (by simp [hq])) (m+1) (by omega)
  have h2:=hz p (by simp) (m+1) (by omega)
  show bz h (m+4+1) (.int .i64 p.1.kind :: .int .i64 p.1.int :: .str p.1.label :: .rs p.2 0 p.1.args.length 1::dH.l zs)=some (.int .i64 p.1.kind :: .int .i64 p.1.int :: .str p.1.label::af.fz p.1.args::ai.l (zs.map fun p=>p.1))
  have a1:∀(n:Nat) (k:IntKind) (z:Int),b8 h (n+1) (.int k z)=some (.int k z):=fun _ _ _=>rfl
  have a2:∀(n:Nat) (s:ByteArray),b8 h (n+1) (.str s)=some (.str s):=fun _ _=>rfl
  rw [show m+4+1=(m+1+1+1+1)+1 by omega]
  simp only [bz,a1,a2,XJ,h1,h2,XR]
theorem wW {q:Nat}(o:Has h (pre++(eQ ns ids++L)))(hq:(pre++(eQ ns ids++L))[q]? = some (i,.sl k 4 (dH.l (ba ns ids)))):kB cz h (.rs i 0 k 4) (ai.fz ns):=by
 intro m hm
 have hk:k=(ba ns ids).length:=cW (E:=dH) o hq
 rw [ff] at hk
 subst hk
 obtain⟨⟨⟨hlen,qW⟩,lJ⟩,hlt⟩:=o.at_ _ _ _ hq
 have hlen:(dH.l (ba ns ids)).length=ns.length*4:=hlen
 obtain⟨k,rfl,hk⟩:=lX (show gO≤m by omega)
 simp only [b8]
 rcases lJ with⟨h0,h1⟩| ⟨h0,rest,h1⟩
 ·have:ns=[]:=by simpa using h1
  subst this
  simp [h0,bK.fz,bK.l]
 ·rw [if_neg h0,h1]
  simp only [XJ]
  have e1:((dH.l (ba ns ids)++rest).drop 0).take (ns.length*4)=dH.l (ba ns ids):=by
   rw [Ys,Yi (by omega),Yn (by omega)]
  rw [if_pos (by rw [XU,hlen]; omega),e1,BN (ba ns ids) (fun p hp n hn=>?_) k (by rw [ff]; simp only [gO,cz] at hm ⊢; omega),yH]
  ·rfl
  ·obtain⟨j,hj,e⟩:=List.getElem_of_mem hp
   have MR:(pre++(eQ ns ids++L))[pre.length+j]? = some (p.2,.sl p.1.args.length 1 (af.l p.1.args)):=by
    have hl:j<(eQ ns ids).length:=by unfold eQ; rw [X0]; exact hj
    rw [X1 (by omega),YK,XZ hl]
    unfold eQ
    rw [YB,XO hj,e]; rfl
   exact dK (E:=af) (l:=p.1.args) o MR (fun _=>rfl) rfl n hn
end
end Go.R
namespace Go.R
open Go
inductive xI
 | b (i:Nat) {x y:Bool} (h:x=y)
 | v (i:Nat) {e:Option AV} {z:AV} (h:e=some z)
 | w (i:Nat) {e:Option AHeap} {g:AHeap} (h:e=some g)
 | a (i:Nat) {e:Option (AV × AHeap)} {z:AV} {g:AHeap} (h:e=some (z,g))
 | m (i:Nat) {e:AV × AHeap} {z:AV} {g:AHeap} (h:e=(z,g))
def xI.Vf:xI→Nat × AV × Option AHeap
 | @b i x y h=>(i,.bool y,none)
 | @v i e z h=>(i,z,none)
 | @w i e g h=>(i,.any,some g)
 | @a i e z g h=>(i,z,some g)
 | @m i e z g h=>(i,z,some g)
def xI.fr:xI→AV × AHeap
 | @a i e z g h=>(z,g)
 | _=>(.any,bA)
def xI.p:xI→Prop
 | @b i x y h=>AV.bool x=AV.bool y
 | @v i e z h=>e=some z
 | @w i e g h=>e=some g
 | @a i e z g h=>e=some (z,g)
 | @m i e z g h=>e=(z,g)
theorem xI.ok:∀g:xI,g.p
 | @b i x y h=>congrArg AV.bool h
 | @v i e z h=>h
 | @w i e g h=>h
 | @a i e z g h=>h
 | @m i e z g h=>h
def yI:List xI→H4
 | []=>[]
 | g::gs=>g.Vf::yI gs
def DU:List xI→List (AV × AHeap)
 | []=>[]
 | g::gs=>g.fr::DU gs
def ps:List xI→Prop
 | []=>True
 | g::gs=>g.p∧ps gs
theorem yJ:∀gs,ps gs
 | []=>trivial
 | g::gs=>⟨g.ok,yJ gs⟩
def cA:Code→Code
 | .seq a _=>a
 | .cond _ a _=>a
 | .block _ a=>a
 | .loop a=>a
 | _=>.skip
def cB:Code→Code
 | .seq _ b=>b
 | .cond _ _ b=>b
 | _=>.skip
def kd:Code→Nat
 | .skip=>0
 | .ret=>1
 | .seq _ _=>2
 | .loop _=>3
 | _=>9
def PO:Code→Option Nat
 | .exit i=>some i
 | _=>none
def PQ:Code→Option Nat
 | .block i _=>some i
 | _=>none
def PR (A:bY)(c:Code)(s:St):Option AV:=
 match c with
 | .cond k _ _=>some (bP (s.open A).ρ k)
 | _=>none
def nx (P:Program)(cf:CallF)(A:bY)(c:Code)(fs gs:List xI)(s:St):St:=((ot P cf A c (DU fs) (yI gs) s).map (·.2)).getD s
section
variable {P:Program}{cf:CallF}{A:bY}{m:Nat}{c:Code}{s:St}{Q R:Ex→St→Prop}
theorem L8 (fs gs:List xI)(hQ:Q .norm (nx P cf A c fs gs s))(h:(ot P cf A c (DU fs) (yI gs) s).map (·.1)=some (ps fs∧ps gs):=by kernel_rfl):dy P cf A m c s Q:=by
 unfold nx at hQ
 obtain⟨⟨p,s'⟩,h1,rfl⟩:=XL.1 h
 rw [h1] at hQ
 exact Fm h1 ⟨yJ fs,yJ gs⟩ hQ
theorem qr (gs:List xI)(hQ:Q .norm (nx P cf A c [] gs s))(h:(ot P cf A c [] (yI gs) s).map (·.1)=some (True∧ps gs):=by kernel_rfl):dy P cf A m c s Q:=L8 [] gs hQ h
theorem q0 (hQ:Q .norm (nx P cf A c [] [] s))(h:(ot P cf A c [] [] s).map (·.1)=some (True∧True):=by kernel_rfl):dy P cf A m c s Q:=L8 [] [] hQ h
theorem SN (h:kd c=2):c = .seq (cA c) (cB c):=by cases c<;>first | rfl | cases h
theorem qq (hQ:dy P cf A m (cA c) s (Kg (fun s'=>dy P cf A m (cB c) s' Q) Q))(h:kd c=2:=by kernel_rfl):dy P cf A m c s Q:=by rw [SN h]; exact yu hQ
theorem SO (fs gs:List xI)(hQ:dy P cf A m (cB c) (nx P cf A (cA c) fs gs s) Q)(h:kd c=2:=by kernel_rfl)(h2:(ot P cf A (cA c) (DU fs) (yI gs) s).map (·.1)=some (ps fs∧ps gs):=by kernel_rfl):dy P cf A m c s Q:=qq (L8 fs gs hQ h2) h
theorem qs (gs:List xI)(hQ:dy P cf A m (cB c) (nx P cf A (cA c) [] gs s) Q)(h:kd c=2:=by kernel_rfl)(h2:(ot P cf A (cA c) [] (yI gs) s).map (·.1)=some (True∧ps gs):=by kernel_rfl):dy P cf A m c s Q:=SO [] gs hQ h h2
theorem q1 (hQ:dy P cf A m (cB c) (nx P cf A (cA c) [] [] s) Q)(h:kd c=2:=by kernel_rfl)(h2:(ot P cf A (cA c) [] [] s).map (·.1)=some (True∧True):=by kernel_rfl):dy P cf A m c s Q:=SO [] [] hQ h h2
theorem qk (hQ:Q .norm s)(h:kd c=0:=by kernel_rfl):dy P cf A m c s Q:=by
 have:c = .skip:=by cases c<;>first | rfl | cases h
 rw [this]; exact DJ hQ
theorem qt (hQ:Q .ret s)(h:kd c=1:=by kernel_rfl):dy P cf A m c s Q:=by
 have:c = .ret:=by cases c<;>first | rfl | cases h
 rw [this]; exact Fo hQ
theorem qx (i:Nat)(hQ:Q (.exit i) s)(h:PO c=some i:=by kernel_rfl):dy P cf A m c s Q:=by
 have:c = .exit i:=by cases c<;>first | (cases h; rfl) | cases h
 rw [this]; exact DK hQ
theorem qb (i:Nat)(hQ:dy P cf A m (cA c) s (Pz i Q))(h:PQ c=some i:=by kernel_rfl):dy P cf A m c s Q:=by
 have:c = .block i (cA c):=by cases c<;>first | (cases h; rfl) | cases h
 rw [this]; exact Ar hQ
theorem qc {α:Type}{b:Bool}{x y z:Option α}(H:(if b=true then x else y)=z)(ht:b=true→x=z→dy P cf A m (cA c) s Q)(hf:b=false→y=z→dy P cf A m (cB c) s Q)(h:PR A c s=some (.bool b):=by kernel_rfl):dy P cf A m c s Q:=by
 cases c<;>first | cases h | skip
 rename_i k a e
 exact qv b (Yj h) (fun hb=>ht hb (Vd hb H)) (fun hb=>hf hb (Ve hb H))
theorem FH (hQ:dy P cf A m (cA c) s Q)(h:PR A c s=some (.bool true):=by kernel_rfl):dy P cf A m c s Q:=by
 cases c<;>first | cases h | skip
 exact qv true (Yj h) (fun _=>hQ) (fun hb=>by cases hb)
theorem Hy (hQ:dy P cf A m (cB c) s Q)(h:PR A c s=some (.bool false):=by kernel_rfl):dy P cf A m c s Q:=by
 cases c<;>first | cases h | skip
 exact qv false (Yj h) (fun hb=>by cases hb) (fun _=>hQ)
theorem ql {c':Code}(h:dy P cf A m c' s Q)(k:∀e s',Q e s'→R e s')(hc:c=c':=by kernel_rfl):dy P cf A m c s R:=by rw [hc]; exact vg h k
theorem qj {α β:Type}{S:α→St→Prop}(f:α→Option β){out:β}{z:Option β}(h0:z=some out)(hB:∀σ s,S σ s→f σ=some out→dy P cf A m (cB c) s Q)
  (hA:(∀σ s,S σ s→f σ=some out→dy P cf A m (cB c) s Q)→dy P cf A m (cA c) s (Kg (fun s'=>dy P cf A m (cB c) s' Q) Q)) (h:kd c=2:=by kernel_rfl):dy P cf A m c s Q:=by
 rw [SN h]; exact yu (hA hB)
end
def dF {S O:Type}(P:Program)(cf:CallF)(A:bY)(m:Nat)(c:Code)(l:Nat→S→Option O)(R:S→St→Prop)(Q:O→Ex→St→Prop):Prop:=∀σ s out,R σ s→l m σ=some out→dy P cf A m (.loop c) s (Q out)
theorem k8 {S O:Type}{P:Program}{cf:CallF}{A:bY}{m:Nat}{c:Code}{l:Nat→S→Option O}{R:S→St→Prop}{Q:O→Ex→St→Prop}(h0:∀σ,l 0 σ=none)
  (step:∀k σ s out,R σ s→l (k+1) σ=some out→dy P cf A m c s (Fp l R Q k out)):dF P cf A m c l R Q:=fun _ _ _ hr H=>DL l R Q h0 step hr H (fun _ _ _ h=>h)
def Kr:Nat→List Nat→List Nat
 | _,[]=>[]
 | k,x::xs=>bif Yp (k % 2) 1 then x::Kr (k / 2) xs else Kr (k / 2) xs
def Ng (keep:List Nat):Nat→List Nat→List (Nat × List Nat)
 | _,[]=>[]
 | r,k::ks=>(r,Kr k keep)::Ng keep (r+1) ks
def gK (keep aI ms:List Nat)(HG zZ:List (Nat × List (Nat × Option Nat × Nat))):bY:={keep:=keep,aI:=aI,dead:=Ng keep 0 ms,HG:=HG,zZ:=zZ}
theorem ig {α:Type}{b:Bool}{x y z:α}(H:(if b=true then x else y)=z):(b=true∧x=z)∨(b=false∧y=z):=by
 cases b with
 | true=>exact .inl ⟨rfl,H⟩
 | false=>exact .inr ⟨rfl,H⟩
theorem oi {α:Type}{a b:α}(h:some a=some b):a=b:=Yj h
theorem cX {P:Program}{A:bY}{s:St}{rs:List ResultVar}{y:AV}(av:AV)(g:AHeap)(h:fj g av y)(h1:aM P (s.open A) rs=some av:=by kernel_rfl)(h2:s.h=g:=by kernel_rfl):∃av,aM P (s.open A) rs=some av∧fj s.h av y:=⟨av,h1,h2 ▸ h⟩
theorem he {g g':AHeap}{K:Mem}(o:Has g K)(h:g'=g:=by kernel_rfl):Has g' K:=h ▸ o
end Go.R
namespace Go.R
open Go Go.Proofs Go.Shelf Go.RowKit Go.Sort
def oO:List AV→Option (List Int)
 | []=>some []
 | .int .i64 z::xs=>(oO xs).map fun l=>z::l
 | _=>none
theorem nn:∀{xs:List AV} {l:List Int},oO xs=some l→xs=l.map fun z=>.int .i64 z
 | [],l,h=>by cases h; rfl
 | x::xs,l,h=>by
  unfold oO at h
  split at h
  ·rename_i e; cases e
  ·rename_i z ys e
   obtain⟨rfl,rfl⟩:=List.cons.inj e
   obtain⟨l',h1,rfl⟩:=XL.1 h
   rw [nn h1]; rfl
  ·cases h
theorem tw:∀l:List Int,oO (l.map fun z=>.int .i64 z)=some l
 | []=>rfl
 | z::l=>by simp only [X8,oO,tw l,XR]
def ly (l:List Int):List Int:=l.mergeSort fun x y=>decide (x≤y)
noncomputable def Ks (args:List AV)(h:AHeap):Option (AV × AHeap):=
 match args with
 | [.rs id 0 n 1]=>if n=0 then some (.tup [],h) else (h.get id).bind fun
  | .cells cs=>if n≤cs.length∧n<4611686018427387904 then (oO (cs.take n)).map fun l=>(.tup [],h.put id (.cells ((ly l).map (fun z=>.int .i64 z)++cs.drop n))) else none
  | _=>none
 | _=>none
theorem DV:∀args h r h',Ks args h=some (r,h')→Steady h h':=by
 intro args h r h' hs
 unfold Ks at hs
 split at hs
 ·split at hs
  ·cases hs; exact Steady.refl _
  ·rw [XK] at hs
   obtain⟨o,_,hs⟩:=hs
   split at hs
   ·split at hs
    ·obtain⟨l,_,hs⟩:=XL.1 hs
     cases hs; exact Steady.put _ _ _
    ·cases hs
   ·cases hs
 ·cases hs
section
variable {c:Cx}{L0:Nat→Prop}
theorem DW (hrel:HRel c L0){id n:Nat}{cs:List AV}{l:List Int}(hid:c.h.get id=some (.cells cs))(hl:oO (cs.take n)=some l):Holds (Value.int .i64) c.w (c.β id).1 (c.β id).2 l.toArray:=by
 obtain⟨m,⟨C,T,hC,hn⟩,hle,hcl⟩:=hrel.obj _ _ hid
 intro j hj
 have hj:j<l.length:=by simpa using hj
 have hx:cs[j]? = some (.int .i64 l[j]):=by
  have h1:(cs.take n)[j]? = some (.int .i64 l[j]):=by rw [nn hl,YB,XO hj]; rfl
  rw [List.getElem?_take] at h1
  split at h1
  ·exact h1
  ·cases h1
 obtain⟨v,h1,_,h3⟩:=hcl.get' j _ hx
 simp only [VR] at h3
 subst h3
 refine⟨by rw [h1]; simp [hj],by simp [World.frozen?,hC]⟩
theorem Ij (hrel:HRel c L0)(hbs:c.base≤c.w.heap.size){id n:Nat}{cs:List AV}{new:List Int}(hid:c.h.get id=some (.cells cs))(hn:n≤cs.length)(hnew:new.length=n)(q:Nat)(os:Array Obj) :
  let w':=grow (putRow (Value.int .i64) (Sort.ahead c.w q) (c.β id).1 (c.β id).2 new.toArray) os
  let c':Cx:=⟨c.β,c.h.put id (.cells (new.map (fun z=>.int .i64 z)++cs.drop n)),w',c.base⟩
  HRel c' L0∧Ext c none0 c' none0∧c'.len (c.β id).1=c.len (c.β id).1:=by
 intro w' c'
 have hun:un L0 none0=L0:=by funext b; simp [un,none0]
 have f:=Fr.none hrel
 obtain⟨m,⟨C,T,hC,hm⟩,hle,hcl⟩:=hrel.obj _ _ hid
 have hlive:Live c.h id:=⟨hrel.lt _ _ hid,by rw [hid]; rfl⟩
 have hblt:(c.β id).1<c.w.heap.size:=(Yk.1 hC).1
 have rF:∀k,k<c.w.heap.size→w'.heap[k]? = if k=(c.β id).1 then some (.cells (putCells (Value.int .i64) (c.β id).2 new.toArray C) T (0,0)) else c.w.heap[k]?:=fun k hk=>by
  show (grow _ os).heap[k]? = _
  rw [heap_grow_old _ _ (by simp [putRow,mapBlock,Sort.ahead]; exact hk)]
  by_cases h:k=(c.β id).1
  ·subst h; simp [putRow,mapBlock,Sort.ahead,YO,hC,onCells]
  ·have h2:(c.β id).1≠k:=fun e=>h e.symm
   simp [putRow,mapBlock,Sort.ahead,YO,h,h2]
 have uu:w'.heap[(c.β id).1]? = some (.cells (putCells (Value.int .i64) (c.β id).2 new.toArray C) T (0,0)):=by rw [rF _ hblt,if_pos rfl]
 have hsz:(putCells (Value.int .i64) (c.β id).2 new.toArray C).size=C.size:=by simp [putCells]
 have hlen:((w'.shape? (c.β id).1).map (·.2)).getD 0=c.len (c.β id).1:=by
  simp only [Cx.len,World.shape?,uu,hC,XR,YH,hsz]
 have Nh:c.w.heap.size≤w'.heap.size:=by
  show _≤(grow _ os).heap.size
  simp [grow,putRow,mapBlock,Sort.ahead]
 obtain⟨e2,f2⟩:=f.upd (w':=w') (β':=c.β) (h':=c.h.put id (.cells (new.map (fun z=>.int .i64 z)++cs.drop n))) id (.cells (new.map (fun z=>.int .i64 z)++cs.drop n)) (Steady.put _ _ _) (YZ hlive.1) (by simp [AHeap.put,beq_nat])
  (fun j hj=>.inr ⟨by simp [AHeap.put,beq_nat,hj],rfl⟩) (fun _=>⟨hlive,rfl⟩) (.inr ⟨id,hlive,rfl,.inl rfl⟩)
  (fun _=>hlen) (fun k hk hne=>by rw [rF k hk,if_neg hne]) (fun k hk hne=>by rw [rF k (by omega),if_neg hne]) Nh hbs rfl rfl rfl
  (fun ee=>by
   refine⟨C.size,⟨_,T,uu,hsz⟩,by rw [XU,X0,List.length_drop,hnew]; omega,?_⟩
   rw [Cells.iff]
   intro i x hx
   show ∃v,w'.cell? _=some v∧_
   rw [cell_of_block uu]
   have hi:i<cs.length:=by
    have:=(XQ.1 hx).1
    rw [XU,X0,List.length_drop,hnew] at this; omega
   have Vh:(putCells (Value.int .i64) (c.β id).2 new.toArray C)[(c.β id).2+i]? = C[(c.β id).2+i]?.map fun x=>if (c.β id).2≤(c.β id).2+i∧(c.β id).2+i<(c.β id).2+new.toArray.size then Value.int .i64 new.toArray[(c.β id).2+i - (c.β id).2]! else x:=by
    unfold putCells; rw [Array.getElem?_mapIdx]
   rw [Vh]
   by_cases h:i<n
   ·rw [XZ (by rw [X0,hnew]; exact h),YB,XO (by omega)] at hx
    simp only [XR,XM] at hx
    subst hx
    have Vi:(c.β id).2+i<C.size:=by omega
    rw [Array.getElem?_eq_getElem Vi]
    refine⟨.int .i64 new[i],?_,rfl,by simp [VR]⟩
    simp only [XR,XM]
    rw [if_pos ⟨by omega,by simp [hnew]; exact h⟩,YK]
    simp [show i<new.length by omega]
   ·rw [X1 (by rw [X0,hnew]; omega),X0,hnew,List.getElem?_drop,show n+(i - n)=i by omega] at hx
    obtain⟨v,v1,v2,v3⟩:=hcl.get' i x hx
    rw [cell_of_block hC] at v1
    refine⟨v,?_,v2,?_⟩
    ·rw [v1]
     simp only [XR,XM]
     rw [if_neg (by simp [hnew]; omega)]
    ·have:=VR.ext ee (L0:=L0) x v (by rw [hun]; exact v3)
     exact this)
 exact⟨by have:=f2.rel; rwa [hun] at this,e2,hlen⟩
end
section
variable {P:Program}{ρ:Ren}
theorem Ni (L:Lays.n189 P ρ)(henter:∀(vs:Array Value) (w:World),(callFunc (ρ.f 189) vs).run P w = .ok (.enter (ρ.f 189) vs) w) :
  CallOK P fun f' args h=>if f'=ρ.f 189 then Ks args h else none:=by
 intro f args h r h' hc
 dsimp only at hc
 split at hc
 rotate_left
 ·cases hc
 rename_i hf
 subst hf
 refine⟨henter,fun L0 c vs hh hb0 hrel hargs=>?_⟩
 subst hh
 unfold Ks at hc
 split at hc
 rotate_left
 ·cases hc
 rename_i id n
 match vs,hargs with
 | [v1],⟨q1,_⟩=>
 split at hc
 ·rename_i hn
  subst hn
  cases hc
  have hs:∃a cap,v1 = .slice a 0 cap:=by
   simp only [VR] at q1
   rcases q1 with⟨_,_,_,a,rfl⟩| ⟨_,_,a,cap,rfl,_⟩
   ·exact⟨a,0,rfl⟩
   ·exact⟨a,cap,rfl⟩
  obtain⟨a,cap,rfl⟩:=hs
  refine (Any.slices_Sort_int_none L a cap c.w).mono ?_
  rintro e w' ⟨rfl,rfl⟩
  exact⟨c,_,rfl,rfl,rfl,by simp only [VR]; exact⟨#[],rfl,trivial⟩,hrel,Ext.refl _ _⟩
 ·rename_i hn
  rw [XK] at hc
  obtain⟨o,hid,hc⟩:=hc
  split at hc
  rotate_left
  ·cases hc
  rename_i cs
  split at hc
  rotate_left
  ·cases hc
  rename_i hle
  obtain⟨l,hl,he⟩:=XL.1 hc
  simp only [XS] at he
  obtain⟨rfl,rfl⟩:=he
  have hlive:Live c.h id:=⟨hrel.lt _ _ hid,by rw [hid]; rfl⟩
  have hll:l.length=n:=by
   have:=congrArg List.length (nn hl)
   rw [X0,YD] at this; omega
  simp only [VR] at q1
  rcases q1 with⟨_,_,h0,_⟩| ⟨_,_,a,cap,rfl,h1,h2,h3⟩
  ·exact absurd h0 hn
  rcases h3 hlive with⟨rfl,h4⟩| h4
  rotate_left
  ·omega
  have hc:=Any.slices_Sort_int L (c.β id).1 (c.β id).2 cap l c.w (DW hrel hid hl) (hrel.block hlive) (by omega)
  rw [hll] at hc
  refine hc.mono ?_
  rintro e w' ⟨rfl,q,os,rfl⟩
  have hsl:(ly l).length=n:=by unfold ly; rw [List.length_mergeSort,hll]
  obtain⟨g1,g2,_⟩:=Ij hrel hb0 hid hle.1 hsl q os
  exact⟨_,_,rfl,rfl,rfl,by simp only [VR]; exact⟨#[],rfl,trivial⟩,g1,g2⟩
end
end Go.R
namespace Go.R
open Go
def Jv (cf:CallF)(f:FuncId):Prop:=∀args h,cf f args h=Ks args h
theorem qA (l:List Int):af.l l=l.map fun z=>.int .i64 z:=by
 induction l with
 | nil=>rfl
 | cons a l ih=>rw [bK.eY,ih]; rfl
theorem lz (l:List Int):(ly l).length=l.length:=by unfold ly; rw [List.length_mergeSort]
section
variable {h:AHeap}{L:Mem}{i n:Nat}{l:List Int}{cf:CallF}{f:FuncId}
theorem Ik (o:Has h ((i,.sl n 1 (af.l l))::L))(hn:n≠0):n=l.length∧i≠0∧l.length<4611686018427387904∧∃rest,h.get i=some (.cells (l.map (fun z=>.int .i64 z)++rest)):=by
 obtain⟨⟨⟨h1,h2⟩,h3⟩,_⟩:=o.at_ 0 _ _ rfl
 have hl:(af.l l).length=l.length:=by rw [qA,X0]
 rw [hl] at h1 h2
 rcases h3 with⟨_,h⟩| ⟨h,rest,h4⟩
 ·exact absurd h hn
 ·rw [qA] at h4
  exact⟨by omega,h,by omega,rest,h4⟩
theorem Kt (o:Has h ((i,.sl 0 1 (af.l l))::L)):l=[]:=by
 obtain⟨⟨⟨h1,_⟩,_⟩,_⟩:=o.at_ 0 _ _ rfl
 rw [qA,X0] at h1
 exact Yd (by omega)
theorem Ku (S:Jv cf f)(o:Has h ((i,.sl n 1 (af.l l))::L)):∃h',cf f [.rs i 0 n 1] h=some (.tup [],h')∧Has h' ((i,.sl n 1 (af.l (ly l)))::L):=by
 rw [S]
 by_cases hn:n=0
 ·subst hn
  have:=Kt o
  subst this
  have e:ly []=[]:=by simp [ly]
  exact⟨h,rfl,by rw [e]; exact o⟩
 ·obtain⟨h1,h2,h3,rest,h4⟩:=Ik o hn
  subst h1
  have et:(l.map (fun z=>AV.int .i64 z)++rest).take l.length=l.map fun z=>AV.int .i64 z:=by
   rw [Yi (by simp),Yn (by simp)]
  have ed:(l.map (fun z=>AV.int .i64 z)++rest).drop l.length=rest:=by
   have:=List.drop_left (l₁:=l.map fun z=>AV.int .i64 z) (l₂:=rest)
   rwa [X0] at this
  refine⟨h.put i (.cells ((ly l).map (fun z=>.int .i64 z)++rest)),?_,?_⟩
  ·unfold Ks
   simp only
   rw [if_neg hn,h4,XJ]
   simp only
   rw [if_pos ⟨by simp,h3⟩,et,tw,XR,ed]
  ·refine js (q:=0) o rfl (ob:=.cells ((ly l).map (fun z=>.int .i64 z)++rest)) (c':=.sl l.length 1 (af.l (ly l))) ⟨⟨?_,?_⟩,.inr ⟨h2,rest,by rw [dm,if_pos rfl,qA]⟩⟩
   ·rw [qA,X0,lz]; omega
   ·have:=(o.at_ 0 _ _ rfl).1.1.2
    rw [qA,X0] at this ⊢
    rw [lz]; exact this
end
end Go.R
namespace Go.R
open Go
def zK (z:Nat)(args:List AV)(h:AHeap):Option (AV × AHeap):=
 match args with
 | [.nils]=>some (.rs 0 0 0 z,h)
 | [.fz cs n _]=>if n=0 then some (.rs 0 0 0 z,h) else if cs.length=n*z∧n*1024≤1099511627776 then some (.rs h.next 0 n z,h.alloc (.cells (cs.map jY))) else none
 | [.rs id 0 n z']=>if n=0 then some (.rs 0 0 0 z,h) else (h.get id).bind fun
  | .cells cs=>if z'=z∧n*z≤cs.length∧n*1024≤1099511627776 then some (.rs h.next 0 n z,h.alloc (.cells ((cs.take (n*z)).map jY))) else none
  | _=>none
 | _=>none
def FI (cf:CallF)(f:FuncId)(z:Nat):Prop:=∀args h,cf f args h=zK z args h
def FJ (z:Nat){α:Type}(l:List α):Option (List α):=if l.length*1024≤1099511627776 then some l else none
theorem FK {z:Nat}{α:Type}{l r:List α}(h:FJ z l=some r):l.length*1024≤1099511627776∧r=l:=by
 unfold FJ at h
 split at h
 ·rename_i g; cases h; exact⟨g,rfl⟩
 ·cases h
section
variable {h:AHeap}{K:Mem}{i n q:Nat}{α:Type}{E:bK α}{l r:List α}{cf:CallF}{f:FuncId}
theorem Kv (o:Has h K)(hl:l≠[])(hb:l.length*1024≤1099511627776):Has (h.alloc (.cells (E.l l))) ((h.next,.sl l.length E.n (E.l l))::K):=
 o.new (fun k hk=>by rw [AHeap.alloc,dm,if_neg (by omega)]) (YT _) (.inr (XP _)) (Yx _) ⟨⟨bK.bR,bK.nQ (by omega)⟩,.inr ⟨by have:=o.pos; omega,[],by rw [AHeap.alloc,dm,if_pos rfl]; simp⟩⟩
theorem Il (o:Has h K):Has h ((0,.sl ([]:List α).length E.n (E.l []))::K):=Has.nil o E.n
theorem Jw (S:FI cf f E.n)(o:Has h K)(hr:FJ E.n l=some r):∃i h',cf f [E.fz l] h=some (.rs i 0 r.length E.n,h')∧Has h' ((i,.sl r.length E.n (E.l r))::K):=by
 obtain⟨hb,rfl⟩:=FK hr
 rw [S]
 by_cases hl:r=[]
 ·subst hl
  exact⟨0,h,rfl,Il o⟩
 ·have hn:r.length≠0:=fun e=>hl (Yd e)
  refine⟨h.next,_,?_,Kv o hl hb⟩
  show zK E.n [.fz (E.l r) r.length false] h=_
  unfold zK
  simp only
  rw [if_neg hn,if_pos ⟨bK.bR,hb⟩,bK.BF]
end
end Go.R
namespace Go.R
open Go
section
variable {h:AHeap}{K:Mem}{i q off k:Nat}{cs ys:List AV}
theorem dV (o:Has h K)(hq:K[q]? = some (i,.ob cs))(f:aQ k h cs ys):kB (k+1) h (.ptr i off) (.fp ys off):=fun n hn=>by
 obtain⟨m,rfl⟩:∃m,n=m+1:=⟨n - 1,by simp only [gO] at hn; omega⟩
 obtain⟨⟨_,h2⟩,_⟩:=o.at_ _ _ _ hq
 simp only [b8,h2,XJ]
 rw [f m (by omega)]; rfl
theorem l8 (hp:cZ cs=true∧dN cs=cs):(AV.fp cs off).eH=true∧(AV.fp cs off).jE = .fp cs off:=⟨by simpa [AV.eH] using hp.1,by show AV.fp (dN cs) off=_; rw [hp.2]⟩
theorem fh (hp:cZ cs=true∧dN cs=cs):kB 0 h (.fp cs off) (.fp cs off):=lY (l8 hp).1 (fun _=>rfl) (l8 hp).2
end
def PS {α β:Type}(o:Option α)(n:Option β)(s:α→Option β):Option β:=
 match o with
 | none=>n
 | some y=>s y
end Go.R
namespace Go.R
open Go
def rL:List (AHeap × AHeap × Nat)→Prop
 | []=>True
 | (h,h',i)::l=>h.ver i=h'.ver i∧rL l
theorem pI:∀{a b:List (AHeap × AHeap × Nat)},rL (a++b)→rL a∧rL b
 | [],b,h=>⟨trivial,h⟩
 | (_,_,_)::a,b,h=>by
  have:=pI (a:=a) h.2
  exact⟨⟨h.1,this.1⟩,this.2⟩
theorem yK:∀{l:List Nat} {h h':AHeap},rL (l.map fun id=>(h,h',id))→∀id∈l,h.ver id=h'.ver id
 | i::l,h,h',hp,id,hm=>by
  rcases X7.1 hm with rfl | hm
  ·exact hp.1
  ·exact yK hp.2 id hm
def Kw (x y:mD):Bool:=
 match x.f.wb with
 | some k=>!y.f.rb.contains k&&y.f.wb != some k
 | none=>true
def wX (x y:mD):Option (List (AHeap × AHeap × Nat)):=
 bif Kw x y then (bif x.f.wh then (bif y.f.wh then none else some (y.f.rh.map fun id=>(x.s.h,x.s'.h,id))) else some []) else none
theorem vm {x y:mD}{l:List (AHeap × AHeap × Nat)}(h:wX x y=some l)(hp:rL l):x.jF y=true:=by
 have he:x.jF y=(Kw x y&&(!x.f.wh||(!y.f.wh&&y.f.rh.all fun id=>Yp (x.s.h.ver id) (x.s'.h.ver id)))):=rfl
 rw [he]
 unfold wX at h
 cases h1:Kw x y with
 | false=>rw [h1] at h; cases h
 | true=>
  rw [h1,cond_true] at h
  cases hw:x.f.wh with
  | false=>rfl
  | true=>
   rw [hw,cond_true] at h
   cases hy:y.f.wh with
   | true=>rw [hy] at h; cases h
   | false=>
    rw [hy,cond_false] at h
    cases h
    simp only [YQ,Bool.false_or,Bool.not_false,Zg,X5]
    intro id hid
    rw [yK hp id hid,Nat.beq_refl]
def yL (ms:List Nat)(x:mD)(i:Nat):List (mD × Nat)→Option (List (AHeap × AHeap × Nat))
 | []=>some []
 | y::l=>bif Y6 y.2 i||(ms.getD y.2 0).testBit i then yL ms x i l else (wX x y.1).bind fun a=>(wX y.1 x).bind fun b=>(yL ms x i l).map fun c=>a++(b++c)
theorem FL {ms:List Nat}{x:mD}{i:Nat}(l:List (mD × Nat)):∀{v:List (AHeap × AHeap × Nat)},yL ms x i l=some v→rL v→∀p∈l,(Y6 p.2 i||(ms.getD p.2 0).testBit i||(x.jF p.1&&p.1.jF x))=true:=by
 induction l with
 | nil=>intro v _ _ p hm; cases hm
 | cons y l ih=>
  intro v h hp p hm
  simp only [yL] at h
  cases hc:(Y6 y.2 i||(ms.getD y.2 0).testBit i) with
  | true=>
   rw [hc,cond_true] at h
   rcases X7.1 hm with rfl | hm
   ·rw [hc,Bool.true_or]
   ·exact ih h hp p hm
  | false=>
   rw [hc,cond_false] at h
   simp only [XK,XL] at h
   obtain⟨a,ha,b,hb,c,hc,rfl⟩:=h
   obtain⟨p1,p2⟩:=pI hp
   obtain⟨p2,p3⟩:=pI p2
   rcases X7.1 hm with rfl | hm
   ·rw [vm ha p1,vm hb p2,Bool.and_self,Bool.or_true]
   ·exact ih hc p3 p hm
def BO (ms:List Nat)(all:List (mD × Nat)):List (mD × Nat)→Option (List (AHeap × AHeap × Nat))
 | []=>some []
 | x::l=>(yL ms x.1 x.2 all).bind fun a=>(BO ms all l).map fun b=>a++b
theorem FM {ms:List Nat}{all:List (mD × Nat)}(l:List (mD × Nat)):∀{v:List (AHeap × AHeap × Nat)},BO ms all l=some v→rL v→∀x∈l,∀p∈all,(Y6 p.2 x.2||(ms.getD p.2 0).testBit x.2||(x.1.jF p.1&&p.1.jF x.1))=true:=by
 induction l with
 | nil=>intro v _ _ x hm; cases hm
 | cons y l ih=>
  intro v h hp x hm
  simp only [BO,XK,XL] at h
  obtain⟨a,ha,b,hb,rfl⟩:=h
  obtain⟨p1,p2⟩:=pI hp
  rcases X7.1 hm with rfl | hm
  ·exact FL all ha p1
  ·exact ih hb p2 x hm
def Kx (ops:List Oper)(arr:Array Oper)(s:RS)(es:List mD):Option (List (AHeap × AHeap × Nat)):=
 let ms:=jG [] ops
 let is:=es.zipIdx
 let vX:=is.filter fun (x,_)=>!x.f.quiet
 if nK arr ms&&vX.all (fun (x,i)=>r9 ms (ops.filterMap (·.dst)) s is x i) then BO ms vX vX else none
theorem Im {P:Program}{cf:CallF}{aI:List Nat}{ops:Array Oper}{s r:RS}{es:List mD}{l:List (AHeap × AHeap × Nat)}(h:Kx ops.toList ops s es=some l)(hp:rL l)(hr:pc P cf aI ops.toList s ops.toList=some (es,r)):j5 P cf aI ops s=some r:=by
 unfold Kx at h
 simp only at h
 split at h
 rotate_left
 ·cases h
 rename_i hc
 simp only [XN] at hc
 obtain⟨h1,h2⟩:=hc
 unfold j5
 simp only [h1,if_true,hr,XJ]
 rw [if_pos]
 rw [X5] at h2 ⊢
 intro x hx
 have a:=h2 x hx
 simp only [XN] at a ⊢
 refine⟨a,?_⟩
 rw [X5]
 intro y hy
 exact FM _ h hp x hx y hy
def BP (P:Program)(cf:CallF)(A:bY)(c:Code)(fs:List (AV × AHeap))(zs:H4)(st:St):Option ((Prop × Prop) × St):=
 match c with
 | .region id ops draw=>(rI (st.open A) (gr id A.HG) fs).bind fun (s0,p0)=>(rH P cf A.aI ops.toList s0 0 ops.toList zs).bind fun (es,r,p)=>
   bif draw then (Kx ops.toList ops s0 es).bind fun l=>(ld r (gr id A.zZ)).map fun r2=>((p0∧p,rL l),r2.mV A id) else none
 | _=>none
theorem FN {P:Program}{cf:CallF}{A:bY}{m:Nat}{c:Code}{fs:List (AV × AHeap)}{zs:H4}{st jN:St}{p q:Prop}(h:BP P cf A c fs zs st=some ((p,q),jN))(hp:p)(hq:q):bO P cf A m c st=some (.norm,jN):=by
 unfold BP at h
 split at h
 rotate_left
 ·cases h
 rename_i id ops draw
 simp only [XK] at h
 obtain⟨⟨s0,p0⟩,h0,⟨es,r,p1⟩,h1,h⟩:=h
 cases draw with
 | false=>cases h
 | true=>
  simp only [cond_true,XK,XL,XS] at h
  obtain⟨l,hl,r2,h2,⟨rfl,rfl⟩,rfl⟩:=h
  obtain⟨g1,g2⟩:=wL h1 hp.2
  have g0:=sd h0 hp.1
  simp only [bO,g0,XJ,if_true,Im hl hq g1,h2,XR]
inductive Vg
 | mk {h h':AHeap} {i:Nat} (e:h.ver i=h'.ver i)
def Vg.t:Vg→AHeap × AHeap × Nat
 | @mk h h' i e=>(h,h',i)
theorem FO:∀vs:List Vg,rL (vs.map Vg.t)
 | []=>trivial
 | @Vg.mk h h' i e::vs=>⟨e,FO vs⟩
def SP (P:Program)(cf:CallF)(A:bY)(c:Code)(fs gs:List xI)(s:St):St:=((BP P cf A c (DU fs) (yI gs) s).map (·.2)).getD s
section
variable {P:Program}{cf:CallF}{A:bY}{m:Nat}{c:Code}{s:St}{Q R:Ex→St→Prop}
theorem Nj (fs gs:List xI)(vs:List Vg)(hQ:Q .norm (SP P cf A c fs gs s))(h:(BP P cf A c (DU fs) (yI gs) s).map (·.1)=some (ps fs∧ps gs,rL (vs.map Vg.t)):=by kernel_rfl):dy P cf A m c s Q:=by
 unfold SP at hQ
 obtain⟨⟨p,s'⟩,h1,rfl⟩:=XL.1 h
 rw [h1] at hQ
 exact⟨.norm,s',FN h1 ⟨yJ fs,yJ gs⟩ (FO vs),hQ⟩
end
section
variable {P:Program}{h h':AHeap}{K:Mem}{i j n z q q2:Nat}{c:Ct}{cs:List AV}{x y:AV}{t t2:TypeId}
theorem wY {o:AObj}(hj:j≠i):h.ver j=(h.put i o).ver j:=by
 simp only [AHeap.put,beq_nat]
 simp [hj]
theorem yM (hj:j≠i):h.ver j=(h.kill i).ver j:=by
 simp only [AHeap.kill,beq_nat]
 simp [hj]
theorem Io {s:AV}(e:dU P h t t2 s x=some (y,h'))(hs:∀i off n z,s = .rs i off n z→j≠i)(hj:j≠h.next):h.ver j=h'.ver j:=by
 have ha:∀o:AObj,h.ver j=(h.alloc o).ver j:=fun o=>wY hj
 unfold dU at e
 simp only [XK] at e
 obtain⟨u,hu,e⟩:=e
 split at e
 rotate_left
 ·cases e
 simp only [XK] at e
 obtain⟨inf,hi,⟨new,m⟩,hc,e⟩:=e
 split at e
 ·cases e
 split at e
 ·split at e
  ·cases e
  ·split at e
   ·cases e; rfl
   ·cases e; exact ha _
 ·split at e
  ·cases e
  ·split at e
   ·split at e<;>(cases e; rfl)
   ·cases e; exact ha _
 ·rename_i id off len iH
  have hne:=hs _ _ _ _ rfl
  split at e
  ·split at e
   ·cases e
   ·split at e
    ·cases e; rfl
    ·cases e; exact ha _
  ·simp only [XK] at e
   obtain⟨ob,ho,e⟩:=e
   split at e
   rotate_left
   ·cases e
   split at e
   ·cases e
   ·split at e
    ·cases e; rfl
    ·cases e
     exact (yM hne).trans (wY hj)
 ·cases e
theorem AA (o:Has h K)(hq:K[q]? = some (i,c))(Ip:K[q2]? = some (j,.ob cs))(hne:q≠q2)(e:dU P h t t2 (.rs i 0 n z) x=some (y,h')):h.ver j=h'.ver j:=by
 obtain⟨⟨h1,_⟩,h2⟩:=o.at_ _ _ _ Ip
 refine Io e (fun i' _ _ _ he=>?_) (by omega)
 cases he
 intro hji
 subst hji
 exact hne (o.nd _ _ _ _ _ hq Ip h1)
end
theorem FP {cf:CallF}{f:FuncId}{z:Nat}{h h':AHeap}{K:Mem}{q2 j:Nat}{cs:List AV}{x y:AV}(S:FI cf f z)(o:Has h K)(Ip:K[q2]? = some (j,.ob cs))(e:cf f [x] h=some (y,h')):h.ver j=h'.ver j:=by
 obtain⟨⟨h1,_⟩,h2⟩:=o.at_ _ _ _ Ip
 have ha:∀o:AObj,h.ver j=(h.alloc o).ver j:=fun o=>wY (Nat.ne_of_lt h2)
 rw [S] at e
 unfold zK at e
 split at e
 ·cases e; rfl
 ·split at e
  ·cases e; rfl
  ·split at e
   ·cases e; exact ha _
   ·cases e
 ·split at e
  ·cases e; rfl
  ·rw [XK] at e
   obtain⟨ob,ho,e⟩:=e
   split at e
   ·split at e
    ·cases e; exact ha _
    ·cases e
   ·cases e
 ·cases e
theorem Nk {x:Option (AV × AHeap)}{a:AV}{h:AHeap}{z:AV × AHeap}(h1:x=some (a,h))(h2:jw 0 h a=some z):x.bind (fun x=>jw 0 x.2 x.1)=some z:=by rw [h1]; exact h2
theorem Ky {P:Program}{h:AHeap}{K:Mem}{q i t e n:Nat}{inf:TypeInfo}{l:List Int}{j:Int}(ht:P.underlying t=some (.slice e))(hi:P.info? e=some inf)(hs:inf.size=1)(hz:iI P e=some (.int .i64 0))(o:Has h K)(hq:K[q]? = some (i,.sl n 1 (af.l l)))(h0:0≤j)(h1:j≤(l.length:Int)) :
  ∃h',lP P h t (.rs i (0+j.toNat*1) (n - j.toNat) 1)=some h'∧Has h' (K.set q (i,.sl n 1 (af.l (l.take j.toNat++X6 (l.length - j.toNat) 0)))):=by
 have hn:n=l.length:=cW (E:=af) o hq
 subst hn
 have hll:(l.take j.toNat++X6 (l.length - j.toNat) 0).length=l.length:=by simp; omega
 unfold lP
 rw [ht,XJ]
 simp only
 by_cases hl:l.length - j.toNat=0
 ·refine⟨h,by rw [if_pos hl],?_⟩
  have:l.take j.toNat++X6 (l.length - j.toNat) 0=l:=by rw [hl,List.replicate_zero,Y9,Yn (by omega)]
  rw [this]
  have hK:K.set q (i,.sl l.length 1 (af.l l))=K:=by
   obtain⟨g1,g2⟩:=XQ.1 hq
   rw [←g2,List.set_getElem_self]
  rw [hK]; exact o
 ·rw [if_neg hl]
  obtain⟨⟨⟨hlen,qW⟩,lJ⟩,hlt⟩:=o.at_ _ _ _ hq
  rcases lJ with⟨_,h5⟩| ⟨h5,rest,h6⟩
  ·omega
  rw [if_neg h5]
  simp only [hi,hz,h6,XJ,hs]
  have Vj:iJ [AV.int .i64 0] (l.length - j.toNat)=af.l (X6 (l.length - j.toNat) 0):=by
   generalize l.length - j.toNat=k
   induction k with
   | zero=>rfl
   | succ k ih=>show [AV.int .i64 0]++iJ [AV.int .i64 0] k=_; rw [ih]; rfl
  rw [if_pos ⟨trivial,rfl,by decide,rfl,by rw [XU,hlen]; omega⟩]
  refine⟨_,rfl,?_⟩
  refine js o hq ?_
  have JN:(af.l (l.take j.toNat++X6 (l.length - j.toNat) 0)).length=l.length*1:=(bK.bR (E:=af)).trans (by rw [hll]; rfl)
  refine⟨⟨JN,by rw [JN]; rw [hlen] at qW; exact qW⟩,.inr ⟨h5,rest,?_⟩⟩
  rw [dm,if_pos rfl]
  congr 2
  show dD (af.l l++rest) (0+j.toNat*1) (iJ [AV.int .i64 0] (l.length - j.toNat))=_
  rw [Vj,bK.iu]
  have Kz:=iv (af.l (l.drop j.toNat)) (af.l (X6 (l.length - j.toNat) 0)) (af.l (l.take j.toNat)) rest (by
   rw [bK.bR,bK.bR]; simp)
  rw [←bK.iu,YW] at Kz
  have hp:(af.l (l.take j.toNat)).length=0+j.toNat*1:=by
   rw [bK.bR]; show _*1=_; simp; omega
  rw [hp] at Kz
  exact Kz
end Go.R
namespace Go.R
open Go
def uJ (l:List (Int × Bool))(k:Int):Bool × Bool:=
 match l with
 | []=>(false,false)
 | (a,b)::l=>if k=a then (b,true) else uJ l k
def zL (l:List (Int × Bool))(k:Int)(v:Bool):List (Int × Bool):=
 match l with
 | []=>[(k,v)]
 | (a,b)::l=>if k=a then (k,v)::l else (a,b)::zL l k v
def AB (l:List (Int × Bool)):List (AV × AV):=l.map fun p=>(.int .i64 p.1,.bool p.2)
theorem BQ (k:Int):∀l:List (Int × Bool),ij (.int .i64 k) (AB l)=some (if (uJ l k).2=true then some (.bool (uJ l k).1) else none)
 | []=>rfl
 | (a,b)::l=>by
  simp only [AB,X8,ij,sameShape,fE,iC,uJ]
  have ih:=BQ k l
  simp only [AB] at ih
  by_cases h:k=a
  ·subst h; simp
  ·simp [h,ih]
theorem FQ (k:Int)(v:Bool):∀l:List (Int × Bool),su (.int .i64 k) (.bool v) (AB l)=some (AB (zL l k v))
 | []=>rfl
 | (a,b)::l=>by
  have ih:=FQ k v l
  simp only [AB,X8,su,sameShape,fE,iC,zL] at ih ⊢
  by_cases h:k=a
  ·subst h; simp
  ·simp [h,ih]
def yN (P:Program)(t:TypeId):Bool:=
 match P.underlying t with
 | some (.map kt et)=>(P.underlying kt matches some (.int .i64))&&(match iI P et with | some (.bool b)=>!b | _=>false)
 | _=>false
section
variable {P:Program}{h:AHeap}{K:Mem}{i q:Nat}{t:TypeId}{n:Nat}
theorem tz (T:yN P t=true):∃kt et,P.underlying t=some (.map kt et)∧(∀k,fV P kt (.int .i64 k)=true)∧iI P et=some (.bool false):=by
 unfold yN at T
 split at T
 ·rename_i kt et ht
  simp only [XN] at T
  obtain⟨h1,h2⟩:=T
  refine⟨kt,et,ht,fun k=>?_,?_⟩
  ·revert h1
   split
   ·rename_i hk; intro _; simp [fV,hk]
   ·intro h; cases h
  ·split at h2
   ·rename_i z hz; simp only [YL] at h2; subst h2; exact hz
   ·cases h2
 ·cases T
theorem PT {l:List (Int × Bool)}{k:Int}(T:yN P t=true)(o:Has h K)(hq:K[q]? = some (i,.mp (AB l))):eR P h t (.mp i) (.int .i64 k) true=some (.tup [.bool (uJ l k).1,.bool (uJ l k).2])∧eR P h t (.mp i) (.int .i64 k) false=some (.bool (uJ l k).1):=by
 obtain⟨kt,et,h1,h2,h3⟩:=tz T
 obtain⟨⟨_,h4⟩,_⟩:=o.at_ _ _ _ hq
 have hz:(uJ l k).2=false→(uJ l k).1=false:=by
  clear hq h4
  induction l with
  | nil=>intro _; rfl
  | cons p l ih=>
   obtain⟨a,b⟩:=p
   simp only [uJ]
   split
   ·intro h; cases h
   ·exact ih
 simp only [eR,h1,XJ,h2,Bool.true_eq_false,if_false,h4,BQ]
 cases hc:(uJ l k).2 with
 | true=>simp
 | false=>simp [h3,hz hc]
theorem Nl {l:List (Int × Bool)}{k:Int}{v:Bool}(T:yN P t=true)(o:Has h K)(hq:K[q]? = some (i,.mp (AB l))):∃h',hJ P h t (.mp i) (.int .i64 k) (.bool v)=some h'∧Has h' (K.set q (i,.mp (AB (zL l k v)))):=by
 obtain⟨kt,et,h1,h2,h3⟩:=tz T
 obtain⟨⟨h5,h4⟩,_⟩:=o.at_ _ _ _ hq
 refine⟨h.put i (.map (AB (zL l k v))),?_,js o hq ⟨h5,by rw [dm,if_pos rfl]⟩⟩
 simp only [hJ,h1,XJ,h2]
 rw [if_neg (by simp [AV.kE])]
 simp only [h4,XJ,FQ,XR]
end
section
variable {P:Program}{h:AHeap}{K:Mem}{i q n b:Nat}{t t2:TypeId}{α:Type}{E:bK α}{l r s:List α}{x:AV}
def Nn {α:Type}(l s:List α):Option (List α):=if s.length≤l.length then some (s++l.drop s.length) else none
theorem Iq (T:yx P t E.n b=true)(o:Has h K)(hq:K[q]? = some (i,.sl n E.n (E.l l)))(hc:eP h E.n x=some (E.l s,s.length))(gN:iR P t2 x=true)(oX:(E.l s).all AV.b4=true)(hr:Nn l s=some r) :
  ∃h',qQ P h t t2 (.rs i 0 n E.n) x=some (.int .i64 s.length,h')∧Has h' (K.set q (i,.sl n E.n (E.l r))):=by
 have hn:=cW o hq
 subst hn
 unfold Nn at hr
 split at hr
 rotate_left
 ·cases hr
 rename_i hle
 cases hr
 obtain⟨e,inf,g1,g2,g3,g4,g5,g6⟩:=ki T
 obtain⟨⟨⟨hlen,qW⟩,lJ⟩,hlt⟩:=o.at_ _ _ _ hq
 have hll:(s++l.drop s.length).length=l.length:=by simp; omega
 simp only [qQ,g1,XJ,g2,g3,hc,gN,Bool.true_eq_false,if_false]
 rcases lJ with⟨h0,h1⟩| ⟨h0,rest,h1⟩
 ·have hl0:l=[]:=by simpa using h1
  subst hl0
  have hs0:s=[]:=by cases s with | nil=>rfl | cons _ _=>simp at hle
  subst hs0
  refine⟨h,by simp [h0],?_⟩
  have hK:K.set q (i,.sl ([]:List α).length E.n (E.l ([]++([]:List α).drop ([]:List α).length)))=K:=by
   obtain⟨g1,g2⟩:=XQ.1 hq
   show K.set q (i,.sl ([]:List α).length E.n (E.l []))=K
   rw [←g2,List.set_getElem_self]
  rw [hK]; exact o
 ·rw [if_neg h0,h1]
  simp only [XJ]
  rw [if_pos ⟨trivial,hle,by
   rw [XU,hlen,Ya]
   exact Yz (YF _ hle) (Nat.le_add_right _ _)⟩]
  refine⟨_,rfl,js o hq ⟨⟨by rw [bK.bR,hll],by rw [bK.bR,hll,←hlen]; exact qW⟩,.inr ⟨h0,rest,?_⟩⟩⟩
  rw [dm,if_pos rfl]
  congr 2
  have Kz:=iv (E.l (l.take s.length)) (E.l s) [] (E.l (l.drop s.length)++rest) (by rw [bK.bR,bK.bR,YD,Y7 hle])
  simp only [Yr,Yf] at Kz
  rw [←X3,←bK.iu,YW] at Kz
  rw [Kz,bK.iu,X3]
theorem KA:eP h E.n (E.fz l)=some (E.l l,l.length):=by
 simp only [eP,bK.fz]
 rw [if_pos bK.bR]
end
theorem No:∀l:List Int,(af.l l).all AV.b4=true:=fun l=>by
 induction l with
 | nil=>rfl
 | cons a l ih=>rw [bK.eY,List.all_append,ih]; rfl
section
variable {P:Program}{h:AHeap}{K:Mem}{i q n b:Nat}{t:TypeId}{α:Type}{E:bK α}{l:List α}{j:Int}{k:IntKind}
def L9 (l:List Int)(j:Int):Option (List Int):=if 0≤j∧j≤l.length then some (l.take j.toNat++X6 (l.length - j.toNat) 0) else none
theorem tA {l r:List Int}{j:Int}(h:L9 l j=some r):0≤j∧j≤l.length∧r=l.take j.toNat++X6 (l.length - j.toNat) 0:=by
 unfold L9 at h
 split at h
 ·rename_i g; cases h; exact⟨g.1,g.2,rfl⟩
 ·cases h
theorem KB (T:yx P t E.n b=true)(o:Has h K)(hq:K[q]? = some (i,.sl n E.n (E.l l)))(h0:0≤j)(h1:j≤(l.length:Int)):lN P t (.rs i 0 n E.n) (some (.int k j)) none none=some (.rs i (0+j.toNat*E.n) (n - j.toNat) E.n):=by
 have hn:=cW o hq
 subst hn
 obtain⟨e,inf,g1,g2,g3,g4,g5,g6⟩:=ki T
 simp only [lN,g1,XJ,g6,if_true,kF]
 rw [if_pos ⟨h0,by omega⟩]
 simp only [XJ,XR,XY]
def PU (P:Program)(t:TypeId):Bool:=
 match P.underlying t with
 | some (.slice e)=>(match P.info? e with | some inf=>inf.size==1 | none=>false)&&(match iI P e with | some (.int .i64 z)=>z==0 | _=>false)
 | _=>false
theorem KC {l r:List Int}(T:PU P t=true)(o:Has h K)(hq:K[q]? = some (i,.sl n 1 (af.l l)))(hr:L9 l j=some r) :
  ∃h',(lP P h t (.rs i (0+j.toNat*1) (n - j.toNat) 1)).map (fun h=>(AV.tup [],h))=some (AV.tup [],h')∧Has h' (K.set q (i,.sl n 1 (af.l r))):=by
 obtain⟨h0,h1,rfl⟩:=tA hr
 unfold PU at T
 split at T
 rotate_left
 ·cases T
 rename_i e ht
 simp only [XN] at T
 obtain⟨T1,T2⟩:=T
 split at T1
 rotate_left
 ·cases T1
 rename_i inf hi
 split at T2
 rotate_left
 ·cases T2
 rename_i z hz
 simp only [beq_iff_eq] at T1 T2
 subst T2
 obtain⟨h',e1,o1⟩:=Ky ht hi T1 hz o hq h0 h1
 exact⟨h',by rw [e1]; rfl,o1⟩
end
section
variable {h:AHeap}{f k k2:Nat}{cs ys:List AV}
theorem rq (g:aQ k h cs ys):kB (k+1) h (.fn f cs) (.fn f ys):=fun n hn=>by
 obtain⟨m,rfl⟩:∃m,n=m+1:=⟨n - 1,by simp only [gO] at hn; omega⟩
 simp only [b8]
 rw [g m (by omega)]; rfl
theorem aQ.mono {k k':Nat}{x y:List AV}(hk:k≤k')(f:aQ k h x y):aQ k' h x y:=fun n hn=>f n (by omega)
theorem iX {xs:List AV}(f:aQ k h xs ys)(hk:k≤cz:=by decide):aQ cz h xs ys:=aQ.mono hk f
theorem FR:∀{us bs cs ys:List AV} {k1 k2:Nat},aQ k1 h us bs→aQ k2 h cs ys→aQ (k1+k2+us.length+1) h (us++cs) (bs++ys)
 | [],bs,cs,ys,k1,k2,f,g=>fun n hn=>by
  have:=f (gO+k1) (XP _)
  have hb:bs=[]:=by
   cases hm:gO+k1 with
   | zero=>simp [gO] at hm
   | succ m=>rw [hm] at this; simp only [bz,XM] at this; exact this.symm
  subst hb
  exact g n (by omega)
 | a::us,bs,cs,ys,k1,k2,f,g=>fun n hn=>by
  have h1:=f (gO+k1) (XP _)
  obtain⟨m,rfl⟩:∃m,n=m+1:=⟨n - 1,by simp only [gO] at hn; omega⟩
  have hb:∃b Np,bs=b::Np:=by
   cases hm:gO+k1 with
   | zero=>simp [gO] at hm
   | succ m=>
    rw [hm] at h1
    simp only [bz,XK,XL] at h1
    obtain⟨y,_,zs,_,e⟩:=h1
    exact⟨y,zs,e.symm⟩
  obtain⟨b,Np,rfl⟩:=hb
  have key:∀n',gO+k1≤n'+1→b8 h n' a=some b∧bz h n' us=some Np:=fun n' Jj=>by
   have:=f (n'+1) Jj
   simp only [bz,XK,XL] at this
   obtain⟨y,hy,zs,hz,e⟩:=this
   cases e
   exact⟨hy,hz⟩
  have f2:aQ k1 h us Np:=fun n' Jj=>(key n' (by omega)).2
  have:=FR f2 g m (by simp only [X2] at hn; omega)
  show bz h (m+1) (a::(us++cs))=some (b::(Np++ys))
  simp only [bz]
  rw [(key m (by omega)).1,this]
  rfl
theorem Ir {us bs:List AV}{k:Nat}(f:aQ k h us bs)(g:aQ cz h cs ys)(hk:k≤500:=by decide)(hl:us.length≤400:=by simp):aQ bJ h (us++cs) (bs++ys):=(FR f g).mono (by
 have:k+cz+us.length+1≤cz+1001:=by omega
 exact Yz this (by decide))
end
theorem FT {α:Type}{E:bK α}{l:List α}{h h':AHeap}{K:Mem}{q q2 i j n:Nat}{cs:List AV}{y:AV}(o:Has h K)(hq:K[q]? = some (i,.sl n E.n (E.l l)))(Ip:K[q2]? = some (j,.ob cs))(e:jw 0 h (.rs i 0 n E.n)=some (y,h'))(hp:E.flat=true:=by rfl):h.ver j=h'.ver j:=by
 have hn:=cW o hq
 subst hn
 obtain⟨⟨⟨hlen,qW⟩,lJ⟩,hlt⟩:=o.at_ _ _ _ hq
 obtain⟨⟨hj,_⟩,_⟩:=o.at_ _ _ _ Ip
 have hne:j≠i:=by
  intro he
  subst he
  have:=o.nd _ _ _ _ _ hq Ip hj
  subst this
  rw [hq] at Ip
  cases Ip
 simp only [jw] at e
 rcases lJ with⟨h0,h1⟩| ⟨h0,rest,h1⟩
 ·rw [if_pos h0,if_pos h1] at e
  cases e; rfl
 ·rw [if_neg h0,h1] at e
  simp only [XJ] at e
  have e1:((E.l l++rest).drop 0).take (l.length*E.n)=E.l l:=by
   rw [Ys,Yi (by rw [hlen]; exact XP _),Yn (by rw [hlen]; exact XP _)]
  rw [e1,if_pos (by rw [XU,hlen]; omega),qi (bK.oJ hp).1] at e
  cases e
  exact yM hne
end Go.R
namespace Go.R
open Go
def np (k i:Nat):Nat:=if i=0 then 0 else i+k
theorem rr {k i off n z:Nat}:dr k (.rs i off n z)=some (.rs (np k i) off n z):=by
 unfold dr np
 split<;>rfl
theorem jS {k:Nat}:cG k []=some []:=rfl
theorem cE {k:Nat}{x y:AV}{xs ys:List AV}(a:dr k x=some y)(b:cG k xs=some ys):cG k (x::xs)=some (y::ys):=by
 simp only [cG,a,b,XJ,XR]
theorem tB {k:Nat}{xs ys:List AV}(b:cG k xs=some ys):dr k (.agg xs)=some (.agg ys):=by
 simp only [dr,b,XR]
theorem AD {k:Nat}{xs ys:List AV}(b:cG k xs=some ys):dr k (.tup xs)=some (.tup ys):=by
 simp only [dr,b,XR]
theorem nq {k:Nat}:∀{a a' b b':List AV},cG k a=some a'→cG k b=some b'→cG k (a++b)=some (a'++b')
 | [],a',b,b',h1,h2=>by simp only [cG,XM] at h1; subst h1; exact h2
 | x::a,a',b,b',h1,h2=>by
  simp only [cG,XK,XL] at h1
  obtain⟨y,h3,ys,h4,rfl⟩:=h1
  exact cE h3 (nq h4 h2)
theorem oQ {k:Nat}:∀{a a':List AV} (r:List AV),cG k a=some a'→fT k (a++r)=a'++fT k r
 | [],a',r,h1=>by simp only [cG,XM] at h1; subst h1; rfl
 | x::a,a',r,h1=>by
  simp only [cG,XK,XL] at h1
  obtain⟨y,h3,ys,h4,rfl⟩:=h1
  have e:fT k (x::(a++r))=y::fT k (a++r):=by rw [fT,h3]
  show fT k (x::(a++r))=(y::ys)++fT k r
  rw [e,oQ r h4]; rfl
theorem ru {k:Nat}:∀{a a':List AV},cG k a=some a'→a'.length=a.length
 | [],a',h1=>by simp only [cG,XM] at h1; subst h1; rfl
 | x::a,a',h1=>by
  simp only [cG,XK,XL] at h1
  obtain⟨y,h3,ys,h4,rfl⟩:=h1
  rw [X2,X2,ru h4]
def PV (k:Nat):Nat × Ct→Nat × Ct→Prop
 | (i,.sl n z cs),b=>∃fI,cG k cs=some fI∧b=(np k i,.sl n z fI)
 | (i,.ob cs),b=>∃fI,cG k cs=some fI∧b=(np k i,.ob fI)
 | _,_=>False
inductive EA (k:Nat)(L:Mem):Mem→Mem→Prop
 | nil:EA k L [] L
 | cons {a b:Nat × Ct} {K K':Mem} (e:PV k a b) (g:EA k L K K'):EA k L (a::K) (b::K')
section
variable {k i n z:Nat}{L K K':Mem}{α:Type}{E:bK α}{l:List α}
theorem Nq (hE:∀a,cG k (E.f a)=some (E.f a)):∀l:List α,cG k (E.l l)=some (E.l l)
 | []=>rfl
 | a::l=>by rw [bK.eY]; exact nq (hE a) (Nq hE l)
theorem yO (hE:∀a,cG k (E.f a)=some (E.f a))(g:EA k L K K'):EA k L ((i,.sl n z (E.l l))::K) ((np k i,.sl n z (E.l l))::K'):=.cons ⟨_,Nq hE l,rfl⟩ g
theorem FU:∀(ns:List aj) (ids:List Nat),cG k (dH.l (ba ns ids))=some (dH.l (ba ns (ids.map (np k))))
 | [],_=>rfl
 | a::ns,ids=>by
  have h1:(ids.map (np k)).headD 0=np k (ids.headD 0):=by cases ids<;>rfl
  have h2:(ids.map (np k)).tail=ids.tail.map (np k):=by cases ids<;>rfl
  show cG k (dH.f (a,ids.headD 0)++dH.l (ba ns ids.tail))=some (dH.f (a,(ids.map (np k)).headD 0)++dH.l (ba ns (ids.map (np k)).tail))
  rw [h1,h2]
  exact nq (cE rfl (cE rfl (cE rfl (cE rr jS)))) (FU ns ids.tail)
theorem FV {ns:List aj}{ids:List Nat}(g:EA k L K K'):EA k L ((i,.sl n z (dH.l (ba ns ids)))::K) ((np k i,.sl n z (dH.l (ba ns (ids.map (np k)))))::K'):=.cons ⟨_,FU ns ids,rfl⟩ g
theorem wZ:∀{ns:List aj} {ids:List Nat},EA k L K K'→EA k L (eQ ns ids++K) (eQ ns (ids.map (np k))++K')
 | [],_,g=>g
 | a::ns,ids,g=>by
  have h1:(ids.map (np k)).headD 0=np k (ids.headD 0):=by cases ids<;>rfl
  have h2:(ids.map (np k)).tail=ids.tail.map (np k):=by cases ids<;>rfl
  show EA k L (Ay (a,ids.headD 0)::(eQ ns ids.tail++K)) (Ay (a,(ids.map (np k)).headD 0)::(eQ ns (ids.map (np k)).tail++K'))
  rw [h1,h2]
  exact yO (E:=af) (fun _=>rfl) (wZ g)
end
theorem KD {k:Nat}{L K K':Mem}(g:EA k L K K'):∃K2,K'=K2++L∧K2.length=K.length∧∀(j:Nat) b,K2[j]? = some b→∃a,K[j]? = some a∧PV k a b:=by
 induction g with
 | nil=>exact⟨[],rfl,rfl,fun j b h=>by simp at h⟩
 | cons e g ih=>
  rename_i a b K K'
  obtain⟨K2,rfl,h2,h3⟩:=ih
  refine⟨b::K2,rfl,by rw [X2,X2,h2],fun j c hj=>?_⟩
  cases j with
  | zero=>simp only [Ym,XM] at hj; subst hj; exact⟨a,rfl,e⟩
  | succ j=>simp only [YR] at hj ⊢; exact h3 j c hj
theorem w0 {k i i':Nat}{c c':Ct}(e:PV k (i,c) (i',c')):i'=np k i:=by
 cases c with
 | sl n z cs=>obtain⟨_,_,h⟩:=e; cases h; rfl
 | ob cs=>obtain⟨_,_,h⟩:=e; cases h; rfl
 | mp es=>exact e.elim
 | row t cs=>exact e.elim
theorem Has.eM {h h1:AHeap}{K1 K2 L:Mem}(o:Has h L)(o1:Has h1 K1)(g:EA h.next L K1 K2):Has (h.eM h1) K2:=by
 obtain⟨K3,rfl,hlen,Ad⟩:=KD g
 have hnx:(h.eM h1).next=h.next+h1.next:=rfl
 have Ht:∀{i:Nat},i≠0→np h.next i=i+h.next:=fun hi=>if_neg hi
 have hget:∀{i:Nat} {cs:List AV},i≠0→h1.get i=some (.cells cs)→(h.eM h1).get (np h.next i)=some (.cells (fT h.next cs)):=fun {i cs} hi hg=>by
  rw [Ht hi,(kg (Nat.le_add_left _ _)).1,Nat.add_sub_cancel,hg]; rfl
 have hidlt:∀{i:Nat},i<h1.next→np h.next i<(h.eM h1).next:=fun {i} hi=>by
  rw [hnx]
  by_cases h0:i=0
  ·subst h0; show 0<_; have:=o.pos; omega
  ·rw [Ht h0]; omega
 refine⟨fun j i c hj=>?_,fun j j' i c c' hj zI hi=>?_,by rw [hnx]; have:=o.pos; omega⟩
 ·by_cases hl:j<K3.length
  ·rw [XZ hl] at hj
   obtain⟨⟨i1,c1⟩,ha,he⟩:=Ad j _ hj
   obtain⟨w1,w2⟩:=o1.at_ _ _ _ ha
   cases c1 with
   | sl n z cs=>
    obtain⟨fI,h3,h4⟩:=he
    cases h4
    refine⟨⟨by rw [ru h3]; exact w1.1,?_⟩,hidlt w2⟩
    rcases w1.2 with⟨h5,h6⟩| ⟨h5,rest,h6⟩
    ·left; subst h5; exact⟨rfl,h6⟩
    ·right
     refine⟨by rw [Ht h5]; omega,fT h.next rest,?_⟩
     rw [hget h5 h6,oQ rest h3]
   | ob cs=>
    obtain⟨fI,h3,h4⟩:=he
    cases h4
    refine⟨⟨by rw [Ht w1.1]; have:=w1.1; omega,?_⟩,hidlt w2⟩
    rw [hget w1.1 w1.2]
    have:=oQ [] h3
    rw [Y9] at this
    rw [this]; simp [fT]
   | mp es=>exact he.elim
   | row t cs=>exact he.elim
  ·rw [X1 (by omega)] at hj
   obtain⟨w1,w2⟩:=o.at_ _ _ _ hj
   exact⟨oK (fun _=>(jA w2).1) w1,by rw [hnx]; omega⟩
 ·by_cases hl:j<K3.length<;>by_cases oV:j'<K3.length
  ·rw [XZ hl] at hj
   rw [XZ oV] at zI
   obtain⟨⟨i1,c1⟩,ha,he⟩:=Ad j _ hj
   obtain⟨⟨i2,c2⟩,Vk,Vl⟩:=Ad j' _ zI
   have e1:=w0 he
   have e2:=w0 Vl
   have n1:i1≠0:=fun h0=>hi (by rw [e1,h0]; rfl)
   have n2:i2≠0:=fun h0=>hi (by rw [e2,h0]; rfl)
   rw [Ht n1] at e1
   rw [Ht n2] at e2
   have:i2=i1:=by omega
   subst this
   exact o1.nd _ _ _ _ _ ha Vk n1
  ·rw [XZ hl] at hj
   rw [X1 (by omega)] at zI
   obtain⟨⟨i1,c1⟩,ha,he⟩:=Ad j _ hj
   have e1:=w0 he
   have n1:i1≠0:=fun h0=>hi (by rw [e1,h0]; rfl)
   rw [Ht n1] at e1
   have:=(o.at_ _ _ _ zI).2
   omega
  ·rw [X1 (by omega)] at hj
   rw [XZ oV] at zI
   obtain⟨⟨i1,c1⟩,ha,he⟩:=Ad j' _ zI
   have e1:=w0 he
   have n1:i1≠0:=fun h0=>hi (by rw [e1,h0]; rfl)
   rw [Ht n1] at e1
   have:=(o.at_ _ _ _ hj).2
   omega
  ·rw [X1 (by omega)] at hj zI
   have:=o.nd _ _ _ _ _ hj zI hi
   omega
theorem ji (h h1:AHeap):∀j,j<h.next→h.ver j=(h.eM h1).ver j:=fun j hj=>(jA hj).2.symm
theorem kl {P:Program}{T:oa}{m f deep:Nat}{h h':AHeap}{xs ys:List AV}{r y:AV}(h1:T.intr f=none)(h2:T.pure f=some deep)(h3:T.eM f=true)(hd:gO+bJ≤deep)(hx:aQ bJ h xs ys)(hb:bb P T.aW (ja P T m) m f ys bA=some (r,h'))(hg:dr h.next r=some y):ja P T m f xs h=some (y,h.eM h'):=by
 refine lu ?_
 simp only [rm,h1,h2,h3,if_true,hx deep hd,XJ,hb,hg,XR]
theorem Is {P:Program}{t:TypeId}{a b c d:Int}(h:∀a b c d:Int,mT P .eql t (.agg [.int .i64 a,.int .i64 b]) (.agg [.int .i64 c,.int .i64 d])=some (.bool (fE (.agg [.int .i64 a,.int .i64 b]) (.agg [.int .i64 c,.int .i64 d])==true))) :
  mT P .eql t (.agg [.int .i64 a,.int .i64 b]) (.agg [.int .i64 c,.int .i64 d])=some (.bool (a==c&&b==d)):=by
 rw [h]
 congr 2
 have:=l7 [a,b] [c,d]
 have e:fE (.agg [.int .i64 a,.int .i64 b]) (.agg [.int .i64 c,.int .i64 d])=lO (af.l [a,b]) (af.l [c,d]):=rfl
 rw [e,this]
 by_cases h1:a=c<;>by_cases h2:b=d<;>simp [h1,h2]
theorem Has.lA {h:AHeap}{pre mid N L:Mem}(o:Has h (pre++(mid++(N++L)))):Has h (pre++(N++(mid++L))):=by
 refine o.perm (List.Perm.append_left _ ?_)
 rw [←X3,←X3]
 exact List.Perm.append_right _ List.perm_append_comm
def w5 (ns:List aj)(ids:List Nat)(j:Int)(ad:Nat):List Nat:=(wV ns ids).set j.toNat ad
theorem vo:∀(ns:List aj) (ids:List Nat),ba ns (wV ns ids)=ba ns ids
 | [],_=>rfl
 | a::ns,ids=>by
  have:=vo ns ids.tail
  simp only [wV,ba,X8,List.headD_cons,List.tail_cons] at this ⊢
  rw [this]
theorem vp:∀(ns:List aj) (ids:List Nat) (i:Nat) (n:aj) (ad:Nat),ns.length=ids.length→ba (ns.set i n) (ids.set i ad)=(ba ns ids).set i (n,ad)
 | [],_,_,_,_,_=>rfl
 | a::ns,[],_,_,_,h=>by simp at h
 | a::ns,j::ids,0,n,ad,_=>rfl
 | a::ns,j::ids,i+1,n,ad,h=>by
  have:=vp ns ids i n ad (by simpa using h)
  simp only [List.set_cons_succ,ba,List.headD_cons,List.tail_cons,this]
theorem vq (ns:List aj)(ids:List Nat)(j:Int)(n:aj)(ad:Nat):ba (ns.set j.toNat n) (w5 ns ids j ad)=(ba ns ids).set j.toNat (n,ad):=by
 unfold w5
 rw [vp ns (wV ns ids) j.toNat n ad (by unfold wV; rw [X0,ff]),vo]
section
variable {P:Program}{tf:TypeId}{h:AHeap}{pre L:Mem}{ns:List aj}{ids:List Nat}{i ad k n2 q:Nat}{j:Int}{n:aj}{args:List Int}
theorem It (o:Has h ((i,.sl k 4 (dH.l (ba ns ids)))::(ad,.sl n2 1 (af.l args))::(pre++(eQ ns ids++L))))(hs:fF P tf=some 1)(hx:ix ns j=some n) :
  ∃h',jf P h tf (.ptr i (0+j.toNat*4+3)) (.rs ad 0 n2 1)=some h'∧
   Has h' ((i,.sl k 4 (dH.l (ba (ns.set j.toNat ⟨n.kind,n.int,n.label,args⟩) (w5 ns ids j ad))))::(pre++(eQ (ns.set j.toNat ⟨n.kind,n.int,n.label,args⟩) (w5 ns ids j ad)++L))):=by
 have hn:n2=args.length:=cW (E:=af) o (q:=1) rfl
 subst hn
 obtain⟨h0,h1,h2⟩:=hY hx
 obtain⟨h',e,o'⟩:=H8 (P:=P) (tf:=tf) (E:=dH) (l:=ba ns ids) (q:=0) (off:=3) (v:=((⟨n.kind,n.int,n.label,args⟩:aj),ad)) (x:=.rs ad 0 args.length 1) o rfl hs (si hx) rfl rfl (by decide) rfl
 refine⟨h',e,?_⟩
 have e1:(ba ns ids).set j.toNat ((⟨n.kind,n.int,n.label,args⟩:aj),ad)=ba (ns.set j.toNat ⟨n.kind,n.int,n.label,args⟩) (w5 ns ids j ad):=(vq ns ids j _ ad).symm
 have e2:eQ (ns.set j.toNat ⟨n.kind,n.int,n.label,args⟩) (w5 ns ids j ad)=(eQ ns ids).set j.toNat (Ay (⟨n.kind,n.int,n.label,args⟩,ad)):=by
  unfold eQ; rw [vq,List.map_set]
 rw [←e1,e2]
 have o2:Has h' ((i,.sl k 4 (dH.l ((ba ns ids).set j.toNat ((⟨n.kind,n.int,n.label,args⟩:aj),ad))))::Ay (⟨n.kind,n.int,n.label,args⟩,ad)::(pre++(eQ ns ids++L))):=o'
 have hl:j.toNat<(eQ ns ids).length:=by unfold eQ; rw [X0,ff]; omega
 have e3:(eQ ns ids).set j.toNat (Ay (⟨n.kind,n.int,n.label,args⟩,ad))=(eQ ns ids).take j.toNat++Ay (⟨n.kind,n.int,n.label,args⟩,ad)::(eQ ns ids).drop (j.toNat+1):=by
  rw [List.set_eq_take_append_cons_drop,if_pos hl]
 have e4:eQ ns ids=(eQ ns ids).take j.toNat++(eQ ns ids)[j.toNat]::(eQ ns ids).drop (j.toNat+1):=by
  conv=>lhs; rw [←YW j.toNat (eQ ns ids),XW hl]
 rw [e3]
 generalize hA:(eQ ns ids).take j.toNat=A at *
 generalize hB:(eQ ns ids).drop (j.toNat+1)=B at *
 rw [e4] at o2
 have o3:=(o2.del (pre.length+A.length+2))
 have e5:((i,Ct.sl k 4 (dH.l ((ba ns ids).set j.toNat ((⟨n.kind,n.int,n.label,args⟩:aj),ad))))::Ay (⟨n.kind,n.int,n.label,args⟩,ad)::(pre++((A++(eQ ns ids)[j.toNat]::B)++L))).eraseIdx (pre.length+A.length+2)=(i,Ct.sl k 4 (dH.l ((ba ns ids).set j.toNat ((⟨n.kind,n.int,n.label,args⟩:aj),ad))))::Ay (⟨n.kind,n.int,n.label,args⟩,ad)::(pre++((A++B)++L)):=by
  show _::_::(pre++((A++(eQ ns ids)[j.toNat]::B)++L)).eraseIdx (pre.length+A.length)=_
  congr 2
  rw [List.eraseIdx_append_of_length_le (by omega),YK,X3,List.eraseIdx_append_of_length_le (by omega),YP]
  simp
 rw [e5] at o3
 refine o3.perm (List.Perm.cons _ ?_)
 have k1:pre++((A++Ay ((⟨n.kind,n.int,n.label,args⟩:aj),ad)::B)++L)=(pre++A)++Ay (⟨n.kind,n.int,n.label,args⟩,ad)::(B++L):=by simp
 have k2:pre++((A++B)++L)=(pre++A)++(B++L):=by simp
 rw [k1,k2]
 exact List.perm_middle
theorem nT:∀(ns:List aj) (ids:List Nat) (k:Nat),ba (ns.drop k) (ids.drop k)=(ba ns ids).drop k
 | ns,ids,0=>rfl
 | [],_,k+1=>by simp [ba]
 | a::ns,[],k+1=>by
  have:=nT ns [] k
  simpa [ba] using this
 | a::ns,j::ids,k+1=>by
  have:=nT ns ids k
  simpa [ba] using this
theorem FW (o:Has h (pre++(eQ (ns.drop j.toNat) (ids.drop j.toNat)++L)))(hq:pre[q]? = some (i,.sl k 4 (dH.l (ba ns ids))))(hx:ix ns j=some n) :
  Has h ((L7 ids j,.sl n.args.length 1 (af.l n.args))::(pre++(eQ (ns.drop (IntKind.i64.wrap (j+(1:Int))).toNat) (ids.drop (IntKind.i64.wrap (j+(1:Int))).toNat)++L))):=by
 obtain⟨h0,h1,h2⟩:=hY hx
 have Vm:q<pre.length:=(XQ.1 hq).1
 have wk:(pre++(eQ (ns.drop j.toNat) (ids.drop j.toNat)++L))[q]? = some (i,.sl k 4 (dH.l (ba ns ids))):=by rw [XZ Vm]; exact hq
 obtain⟨⟨⟨_,qW⟩,_⟩,_⟩:=o.at_ _ _ _ wk
 have qW:(dH.l (ba ns ids)).length≤1125899906842624:=qW
 rw [bK.bR,ff] at qW
 have qW:ns.length*4≤1125899906842624:=qW
 have hw:(IntKind.i64.wrap (j+(1:Int))).toNat=j.toNat+1:=by
  have hm:(j+1) % 18446744073709551616=j+1:=Int.emod_eq_of_lt (by omega) (by omega)
  have:IntKind.i64.wrap (j+(1:Int))=j+1:=by
   show (if true&&decide ((j+1) % 18446744073709551616≥9223372036854775808) then (j+1) % 18446744073709551616 - 18446744073709551616 else (j+1) % 18446744073709551616)=j+1
   rw [hm]
   have:decide (j+1≥9223372036854775808)=false:=by rw [decide_eq_false_iff_not]; omega
   rw [this]; rfl
  rw [this]; omega
 rw [hw]
 have e:eQ (ns.drop j.toNat) (ids.drop j.toNat)=(L7 ids j,.sl n.args.length 1 (af.l n.args))::eQ (ns.drop (j.toNat+1)) (ids.drop (j.toNat+1)):=by
  unfold eQ
  rw [nT,nT]
  have hz:=tu ns ids _ _ h2
  have hl:j.toNat<(ba ns ids).length:=by rw [ff]; omega
  rw [XW hl]
  have:(ba ns ids)[j.toNat]=(n,ids.getD j.toNat 0):=(XQ.1 hz).2
  rw [this]
  rfl
 rw [e] at o
 refine o.perm ?_
 exact List.perm_middle.symm
end
end Go.R
namespace Go.Proofs.Ytifafejidnjckaa
open Go Go.R
open Go.IntKind (i64 u64 u8 u32)
structure aS where
 fu:Int
 tC:Int
 EB:Int
 eS:ByteArray
 fX:List Int
 yP:bc
structure ab where
 ak:Bool
 aa:List aj
 ae:List Int
structure bl where
 kC:Int
 lM:Int
def bh:bK aS:={n:=7,f:=fun x=>[.int .i64 x.fu,.int .i64 x.tC,.int .i64 x.EB,.str x.eS,af.fz x.fX,ai.fz x.yP.nodes,.int .i64 x.yP.root],len:=fun _=>rfl,pos:=by decide,pure:=fun x _=>pure_cons gF (pure_cons gF (pure_cons gF (pure_cons nk (pure_cons bK.bo (pure_cons bK.bo (pure_cons gF (pure_nil))))))),canon:=fun _=>rfl}
def ei:bK bl:={n:=2,f:=fun x=>[.int .i64 x.kC,.int .i64 x.lM],len:=fun _=>rfl,pos:=by decide,pure:=fun x _=>pure_cons gF (pure_cons gF (pure_nil)),canon:=fun _=>rfl}
theorem OA:yx Try.prog 22 7 96=true:=by kernel_rfl
theorem gg:yx Try.prog 33 1 8=true:=by kernel_rfl
theorem uK:yx Try.prog 40 4 56=true:=by kernel_rfl
theorem PW:yx Try.prog 93 2 16=true:=by kernel_rfl
theorem A3:gp Try.prog 3=some false:=by kernel_rfl
theorem SQ:gp Try.prog 33=some false:=by kernel_rfl
theorem SS:gp Try.prog 40=some false:=by kernel_rfl
theorem Vn:gp Try.prog 44=some true:=by kernel_rfl
theorem DX:gp Try.prog 51=some true:=by kernel_rfl
theorem Z3:fF Try.prog 3=some 1:=by kernel_rfl
theorem Vo:fF Try.prog 33=some 1:=by kernel_rfl
theorem Vp:fF Try.prog 44=some 7:=by kernel_rfl
theorem DY:fF Try.prog 51=some 4:=by kernel_rfl
theorem U9:Try.prog.underlying 9=some .string:=by kernel_rfl
theorem Iu:yC Try.prog 82=true:=by kernel_rfl
theorem KE:yN Try.prog 96=true:=by kernel_rfl
theorem BR:yD Try.prog 113 9=true:=by kernel_rfl
theorem FX:Try.prog.underlying 113=some (.map 115 3):=by kernel_rfl
theorem vt:DQ Try.prog 115 9=true:=by kernel_rfl
theorem PX:PU Try.prog 33=true:=by kernel_rfl
theorem PY:∀a b c d:Int,mT Try.prog .eql 92 (.agg [.int .i64 a,.int .i64 b]) (.agg [.int .i64 c,.int .i64 d])=some (.bool (fE (.agg [.int .i64 a,.int .i64 b]) (.agg [.int .i64 c,.int .i64 d])==true)):=by
 intro a b c d
 kernel_rfl
def dO.f (m:Nat):Option Bool:=some true
def SU (cf:CallF)(m:Nat):Prop:=∀r:Bool,dO.f m=some r→∀h xs,aQ bJ h xs []→cf 11 xs h=some (.bool r,h)
def PZ (cf:CallF)(m:Nat):Prop:=FI cf 39 1
def SV (cf:CallF)(m:Nat):Prop:=Jv cf 60
end Go.Proofs.Ytifafejidnjckaa
namespace Go.Proofs.Ytifafejidnjckaa
open Go Go.R
open Go.IntKind (i64 u64 u8 u32)
def yQ:bY:=gK [0,2,3,7,26] [] [30,26,18,26,10,29,29] [] []
def bH.l0 (m:Nat)(l0:List aS):Nat→Int→Option (Sum Bool (Int))
 | 0,_=>none
 | k+1,i0=>if (decide (i0<(l0.length:Int)))=true then ((ix l0 i0).bind fun v0=>if (decide ((v0.yP.nodes.length:Int) > (40:Int)))=true then (some (.inl true)) else ((ix l0 i0).bind fun v1=>if (decide ((v1.fX.length:Int) > (40:Int)))=true then (some (.inl true)) else (bH.l0 m l0 k (i64.wrap (i0+(1:Int)))))) else (some (.inr i0))
def bH.f (m:Nat)(l0:List aS):Option (Bool):=(bH.l0 m l0 m (0:Int)).bind fun bQ=>match bQ with | .inl r0=>some r0 | .inr i1=>some (decide ((l0.length:Int) > (60:Int)))
def bH.fin (L:Mem)(r:Bool)(s:St):Prop:=∃av,aM Try.prog (s.open yQ) Try.f10.results.toList=some av∧fj s.h av (.bool r)
def SW (cf:CallF)(m:Nat):Prop:=∀(l0:List aS) (r:Bool),bH.f m l0=some r→∀h xs,aQ bJ h xs [bh.fz l0]→cf 10 xs h=some (.bool r,h)
section
variable {cf:CallF}{m:Nat}
theorem bH.cO (L:Mem)(l0:List aS)   : dF Try.prog cf yQ m (sub [1,0,1,0,0] (bW Try.f10)) (fun k (σ:Int)=>bH.l0 m l0 k σ) (fun σ s=>match σ with | i0=>∃h0,s=⟨[bh.fz l0,.any,.int .i64 i0,.any,.any],[],h0⟩∧Has h0 (L)) (fun out e s=>(e = .exit 0∧∃i0,.inr i0=out∧∃Iv DZ h0,s=⟨[bh.fz l0,.any,Iv,DZ,.any],[],h0⟩∧Has h0 (L))∨(e = .ret∧∃r,.inl r=out∧bH.fin L r s)):=by
 refine k8 (fun _=>rfl) ?_
 rintro k i0 s out ⟨h0,rfl,o0⟩ H
 have H:bH.l0 m l0 (k+1) i0=some out:=H
 refine qq <| qq <| q0 <| qc H (fun c0 H=>?_) (fun c0 H=>?_)
 ·refine qk <| qq <| qb 1 <| qq ?_
  obtain⟨v0,e0,H⟩:=bj H
  rcases ig H with⟨c1,H⟩| ⟨c1,H⟩
  ·exact qr [.v 2 (fe (k:=.i64) (E:=bh) (l:=l0) OA e0),.v 5 (qw  (E:=bh) (l:=l0) (off:=5) h0 SS e0 rfl),.b 8 c1] <| FH <| qq <| q0 <| qt <| Or.inr (⟨rfl,_,oi H,cX (.bool true) h0 (cV (aA))⟩)
  ·obtain⟨v1,e1,H⟩:=bj H
   refine qr [.v 2 (fe (k:=.i64) (E:=bh) (l:=l0) OA e0),.v 5 (qw  (E:=bh) (l:=l0) (off:=5) h0 SS e0 rfl),.b 8 c1,.v 11 (fe (k:=.i64) (E:=bh) (l:=l0) OA e1),.v 13 (qw  (E:=bh) (l:=l0) (off:=4) h0 SQ e1 rfl)] <| qc H (fun c3 H=>?_) (fun c3 H=>?_)
   ·exact q1 <| qt <| Or.inr (⟨rfl,_,oi H,cX (.bool true) h0 (cV (aA))⟩)
   ·exact qk <| q0 <| ⟨i64.wrap (i0+(1:Int)),⟨h0,by kernel_rfl,o0⟩,H⟩
 ·exact qx 0 <| Or.inl (⟨rfl,i0,oi H,.int .i64 i0,.bool (decide (i0<(l0.length:Int))),h0,by kernel_rfl,o0⟩)
theorem qB {aW:FuncId→bY}(ha:aW 10=yQ)  (l0:List aS)(h:AHeap)(L:Mem)  (o:Has h (L)){out:Bool}(H:bH.f m l0=some out) :
  ∃r h',bb Try.prog aW cf m 10 [bh.fz l0] h=some (r,h')∧fj h' r (.bool out):=by
 refine ar (fn:=Try.f10) ha Try.func10 (by kernel_rfl) (by kernel_rfl) ?_
 refine aG (Q:=fun s=>bH.fin L out s) (fun _ _ h=>h) ?_
 have H:_=some out:=H
 unfold bH.f at H
 show dy _ cf yQ m _ ⟨bh.fz l0::nZ [],[],h⟩ _
 refine q1 <| qq <| qq <| q0 <| qb 0 ?_
 obtain⟨bQ,e2,H⟩:=bj H
 refine ql (bH.cO L l0   (0:Int) _ _ ⟨h,by kernel_rfl,o⟩ e2) ?_
 rintro e s (⟨rfl,i1,rfl,g0,g1,h1,rfl,o1⟩| ⟨rfl,r0,rfl,uL⟩)
 ·try dsimp only at H
  obtain rfl:=oi H
  exact q1 <| qt <| ⟨.inl rfl,cX (.bool (decide ((l0.length:Int) > (60:Int)))) h1 (cV (aA))⟩
 ·try dsimp only at H
  obtain rfl:=oi H
  exact⟨.inl rfl,uL⟩
end
end Go.Proofs.Ytifafejidnjckaa
namespace Go.Proofs.Ytifafejidnjckaa
open Go Go.R
open Go.IntKind (i64 u64 u8 u32)
def yR:bY:=gK [0,1,4,5,10,14,25] [] [124,108,123,116,84,116,52,123,123] [] []
def ca.l0 (m:Nat)(a0:List Int)(b0:List Int):Nat→Int→Option (Sum Bool (Int))
 | 0,_=>none
 | k+1,i0=>if (decide (i0<(a0.length:Int)))=true then ((ix a0 i0).bind fun v0=>(ix b0 i0).bind fun v1=>if (!(v0==v1))=true then (some (.inl false)) else (ca.l0 m a0 b0 k (i64.wrap (i0+(1:Int))))) else (some (.inr i0))
def ca.f (m:Nat)(a0:List Int)(b0:List Int):Option (Bool):=if (!((a0.length:Int)==(b0.length:Int)))=true then (some false) else ((ca.l0 m a0 b0 m (0:Int)).bind fun bQ=>match bQ with | .inl r0=>some r0 | .inr i1=>some true)
def ca.fin (L:Mem)(r:Bool)(s:St):Prop:=∃av,aM Try.prog (s.open yR) Try.f14.results.toList=some av∧fj s.h av (.bool r)
def SX (cf:CallF)(m:Nat):Prop:=∀(a0:List Int) (b0:List Int) (r:Bool),ca.f m a0 b0=some r→∀h xs,aQ bJ h xs [af.fz a0,af.fz b0]→cf 14 xs h=some (.bool r,h)
section
variable {cf:CallF}{m:Nat}
theorem ca.cO (L:Mem)(a0:List Int)(b0:List Int)   : dF Try.prog cf yR m (sub [1,1,0,1,0,0] (bW Try.f14)) (fun k (σ:Int)=>ca.l0 m a0 b0 k σ) (fun σ s=>match σ with | i0=>∃h0,s=⟨af.fz a0::af.fz b0 :: .any :: .int .i64 i0::nS [],[],h0⟩∧Has h0 (L)) (fun out e s=>(e = .exit 0∧∃i0,.inr i0=out∧∃nr w6 Nr AE h0,s=⟨[nr,w6,.any,Nr,.any,AE,.any],[],h0⟩∧Has h0 (L))∨(e = .ret∧∃r,.inl r=out∧ca.fin L r s)):=by
 refine k8 (fun _=>rfl) ?_
 rintro k i0 s out ⟨h0,rfl,o0⟩ H
 have H:ca.l0 m a0 b0 (k+1) i0=some out:=H
 refine qq <| qq <| q0 <| qc H (fun c1 H=>?_) (fun c1 H=>?_)
 ·refine qk <| qq <| qb 1 <| qq ?_
  obtain⟨v0,e0,H⟩:=bj H
  obtain⟨v1,e1,H⟩:=bj H
  refine qr [.v 2 (fe (k:=.i64) (E:=af) (l:=a0) gg e0),.v 3 (ie  (E:=af) (l:=a0) h0 A3 e0 rfl),.v 6 (fe (k:=.i64) (E:=af) (l:=b0) gg e1),.v 7 (ie  (E:=af) (l:=b0) h0 A3 e1 rfl)] <| qc H (fun c2 H=>?_) (fun c2 H=>?_)
  ·exact q1 <| qt <| Or.inr (⟨rfl,_,oi H,cX (.bool false) h0 (cV (aA))⟩)
  ·exact qk <| q0 <| ⟨i64.wrap (i0+(1:Int)),⟨h0,by kernel_rfl,o0⟩,H⟩
 ·exact qx 0 <| Or.inl (⟨rfl,i0,oi H,af.fz a0,af.fz b0,.int .i64 i0,.bool (decide (i0<(a0.length:Int))),h0,by kernel_rfl,o0⟩)
theorem rM {aW:FuncId→bY}(ha:aW 14=yR)  (a0:List Int)(b0:List Int)(h:AHeap)(L:Mem)  (o:Has h (L)){out:Bool}(H:ca.f m a0 b0=some out) :
  ∃r h',bb Try.prog aW cf m 14 [af.fz a0,af.fz b0] h=some (r,h')∧fj h' r (.bool out):=by
 refine ar (fn:=Try.f14) ha Try.func14 (by kernel_rfl) (by kernel_rfl) ?_
 refine aG (Q:=fun s=>ca.fin L out s) (fun _ _ h=>h) ?_
 have H:_=some out:=H
 unfold ca.f at H
 show dy _ cf yR m _ ⟨af.fz a0::af.fz b0::Aw [],[],h⟩ _
 refine q1 <| qq <| qq <| q0 <| qc H (fun c0 H=>?_) (fun c0 H=>?_)
 ·obtain rfl:=oi H
  exact q1 <| qt <| ⟨.inl rfl,cX (.bool false) h (cV (aA))⟩
 ·refine qk <| qq <| qq <| q0 <| qb 0 ?_
  obtain⟨bQ,e2,H⟩:=bj H
  refine ql (ca.cO L a0 b0   (0:Int) _ _ ⟨h,by kernel_rfl,o⟩ e2) ?_
  rintro e s (⟨rfl,i1,rfl,g0,g1,g2,g3,h1,rfl,o1⟩| ⟨rfl,r0,rfl,uL⟩)
  ·try dsimp only at H
   obtain rfl:=oi H
   exact q1 <| qt <| ⟨.inl rfl,cX (.bool true) h1 (cV (aA))⟩
  ·try dsimp only at H
   obtain rfl:=oi H
   exact⟨.inl rfl,uL⟩
end
end Go.Proofs.Ytifafejidnjckaa
namespace Go.Proofs.Ytifafejidnjckaa
open Go Go.R
open Go.IntKind (i64 u64 u8 u32)
def BS:bY:=gK [0,1,2,3,4] [2,3] [19,15] [] []
def gj.f (m:Nat)(a0:aj)(b0:aj):Option (Bool):=if (a0.kind==b0.kind)=true then (if (a0.int==b0.int)=true then (if (a0.label.data.toList==b0.label.data.toList)=true then ((ca.f m a0.args b0.args).bind fun x0=>some x0) else (some false)) else (some false)) else (some false)
def gj.fin (L:Mem)(r:Bool)(s:St):Prop:=∃av,aM Try.prog (s.open BS) Try.f25.results.toList=some av∧fj s.h av (.bool r)
def P3 (cf:CallF)(m:Nat):Prop:=∀(a0:aj) (b0:aj) (r:Bool),gj.f m a0 b0=some r→∀h xs,aQ bJ h xs [.agg [.int .i64 a0.kind,.int .i64 a0.int,.str a0.label,af.fz a0.args],.agg [.int .i64 b0.kind,.int .i64 b0.int,.str b0.label,af.fz b0.args]]→cf 25 xs h=some (.bool r,h)
section
variable {cf:CallF}{m:Nat}
theorem qC {aW:FuncId→bY}(ha:aW 25=BS)(P4:SX cf m)(a0:aj)(b0:aj)(h:AHeap)(L:Mem)  (o:Has h (L)){out:Bool}(H:gj.f m a0 b0=some out) :
  ∃r h',bb Try.prog aW cf m 25 [.agg [.int .i64 a0.kind,.int .i64 a0.int,.str a0.label,af.fz a0.args],.agg [.int .i64 b0.kind,.int .i64 b0.int,.str b0.label,af.fz b0.args]] h=some (r,h')∧fj h' r (.bool out):=by
 refine ar (fn:=Try.f25) ha Try.func25 (by kernel_rfl) (by kernel_rfl) ?_
 refine aG (Q:=fun s=>gj.fin L out s) (fun _ _ h=>h) ?_
 have H:_=some out:=H
 unfold gj.f at H
 show dy _ cf BS m _ ⟨.agg [.int .i64 a0.kind,.int .i64 a0.int,.str a0.label,af.fz a0.args] :: .agg [.int .i64 b0.kind,.int .i64 b0.int,.str b0.label,af.fz b0.args]::nS [],[none,none],h⟩ _
 refine q1 <| qq ?_
 rcases ig H with⟨c0,H⟩| ⟨c0,H⟩
 ·rcases ig H with⟨c1,H⟩| ⟨c1,H⟩
  ·rcases ig H with⟨c2,H⟩| ⟨c2,H⟩
   ·obtain⟨x0,e0,H⟩:=bj H
    obtain rfl:=oi H
    exact qr [.b 5 c0,.b 12 c1,.b 19 c2,.a 24 (P4 _ _ _ e0 h _ (fq (ah (dW (E:=af)) (ah (dW (E:=af)) (aw)))))] <| qt <| ⟨.inl rfl,cX (.bool x0) h (cV (aA))⟩
   ·obtain rfl:=oi H
    exact qr [.b 5 c0,.b 12 c1,.b 19 c2] <| qt <| ⟨.inl rfl,cX (.bool false) h (cV (aA))⟩
  ·obtain rfl:=oi H
   exact qr [.b 5 c0,.b 12 c1] <| qt <| ⟨.inl rfl,cX (.bool false) h (cV (aA))⟩
 ·obtain rfl:=oi H
  exact qr [.b 5 c0] <| qt <| ⟨.inl rfl,cX (.bool false) h (cV (aA))⟩
end
end Go.Proofs.Ytifafejidnjckaa
namespace Go.Proofs.Ytifafejidnjckaa
open Go Go.R
open Go.IntKind (i64 u64 u8 u32)
def BT:bY:=gK [0] [14000000001] [1] [] []
def jj.f (m:Nat)  : Option (ab):=some (ab.mk true ([]:List aj) ([]:List Int))
def jj.fin (L:Mem)  (r:ab)(s:St):Prop:=∃dh gG gH:Nat,aM Try.prog (s.open BT) Try.f26.results.toList=some (.ptr dh 0)∧Has s.h ((dh,.ob [.bool r.ak,.rs gG 0 r.aa.length 4,.rs gH 0 r.ae.length 1])::(gG,.sl r.aa.length 4 (ai.l r.aa))::(gH,.sl r.ae.length 1 (af.l r.ae))::L)
def SY (cf:CallF)(m:Nat):Prop:=∀ (r:ab),jj.f m  = some r→∀h L,Has h (L)→∀xs,xs.map aO=[]→∃dh gG gH h',cf 26 xs h=some (.ptr dh 0,h')∧Has h' ((dh,.ob [.bool r.ak,.rs gG 0 r.aa.length 4,.rs gH 0 r.ae.length 1])::(gG,.sl r.aa.length 4 (ai.l r.aa))::(gH,.sl r.ae.length 1 (af.l r.ae))::L)
section
variable {cf:CallF}{m:Nat}
theorem tD {aW:FuncId→bY}(ha:aW 26=BT)   (h:AHeap)(L:Mem)  (o:Has h (L)){out:ab}(H:jj.f m  = some out) :
  ∃r h',bb Try.prog aW cf m 26 [] h=some (r,h')∧∃dh gG gH:Nat,r = .ptr dh 0∧Has h' ((dh,.ob [.bool out.ak,.rs gG 0 out.aa.length 4,.rs gH 0 out.ae.length 1])::(gG,.sl out.aa.length 4 (ai.l out.aa))::(gH,.sl out.ae.length 1 (af.l out.ae))::L):=by
 refine ar (fn:=Try.f26) ha Try.func26 (by kernel_rfl) (by kernel_rfl) ?_
 refine aG (Q:=fun s=>jj.fin L out s) (fun _ _ ⟨h1,dh,gG,gH,h2,h3⟩=>⟨h1,_,h2,dh,gG,gH,rfl,h3⟩) ?_
 have H:_=some out:=H
 unfold jj.f at H
 show dy _ cf BT m _ ⟨[.any],[none],h⟩ _
 refine q1 <| qq ?_
 have o0:Has h (((0),.sl (([]:List aj).length) 4 (ai.l ([]:List aj)))::L):=Has.nil o 4
 have o1:Has h ((((0)),.sl (([]:List Int).length) 1 (af.l ([]:List Int)))::((0),.sl (([]:List aj).length) 4 (ai.l ([]:List aj)))::L):=Has.nil o0 1
 obtain⟨aH,h0,e0,o2⟩:=gL (cs:=[.bool true,.rs (0) 0 (([]:List aj).length) 4,.rs ((0)) 0 (([]:List Int).length) 1]) o1 (by kernel_rfl)
 obtain rfl:=oi H
 exact qr [.a 1 e0] <| qt <| ⟨.inl rfl,⟨aH,(0),((0)),by kernel_rfl,he (Has.front (Has.front (Has.front o2 1 rfl) 2 rfl) 2 rfl)⟩⟩
end
end Go.Proofs.Ytifafejidnjckaa
