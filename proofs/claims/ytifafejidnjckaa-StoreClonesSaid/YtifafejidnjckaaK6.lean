/- Part of the proof: RBuf1, RBuf2, RBuf3, RBuf4, RBuf5, RG9, RFix, RGN, RGL, RSrt, RGS, RGC, RPT, RDV, RMB, RGR, QW, Q10, Q14, Q25, Q26, Q32. -/
import Derived.Test.YtifafejidnjckaaK5
import Derived.Shelf.LaysM
import Derived.Shelf.Bytes.GrowAt
import Derived.Lib.ByteType
import Derived.Lib.BufferAt
import Derived.Lib.BufferKept
import Derived.Lib.Walk
import Derived.Lib.BufferWrite
import Derived.Lib.Hide
import Derived.WalkKit
import Derived.BigCall
import Derived.BigGuard
import Derived.KernelRfl
import Derived.Shelf.Sort.Plain
import Derived.Shelf.Slices.In.SortNone
import Derived.Shelf.Slices.CompactI
import Derived.Test.YtifafejidnjckaaProg
set_option linter.unusedVariables false
set_option linter.unusedSimpArgs false
set_option maxRecDepth 100000
open Array renaming getElem?_eq_some_iff → VZ, getElem?_modify → Ws
open Bool renaming and_eq_true → Vu, false_eq_true → VB, not_true → Wn, true_and → WZ
open Eq renaming trans → WX
open Int renaming toNat_natCast → VD
open List renaming getElem?_eq_getElem → Vx, getElem?_eq_some_iff → Vy, length_append → VA, length_set → VC, drop_eq_getElem_cons → VE, length_cons → VF, getElem?_append_left → VG, mem_of_getElem? → VH, append_assoc → VI, replicate → VJ, all_eq_true → VK, getElem?_append_right → VL, length_map → VN, mem_singleton → VQ, mem_cons → VS, length_nil → VT, map_cons → VU, take_append_of_le_length → VW, mem_append → VX, map_append → VY, eq_nil_of_length_eq_zero → V3, take_of_length_le → V4, cons_append → V6, nil_append → V7, getElem?_cons_zero → V9, drop_zero → Wa, mem_append_left → Wk, length_take → Wt, getElem?_of_mem → Wu, getElem?_cons_succ → Wv, getElem?_map → Wx, take_append_drop → WA, append_nil → WN
open Nat renaming le_refl → Vv, zero_add → VO, beq → V5, lt_succ_self → Wd, le_trans → We, mul_le_mul_right → Wi, le_succ → Wy, lt_succ_of_lt → WC, add_sub_cancel_left → WD, ble → WK, min_eq_left → WL, zero_lt_one → WM, sub_self → WW
open Option renaming bind_eq_some_iff → Vp, bind_some → Vq, map_eq_some_iff → Vr, map_some → Vw, getD_some → Wl
open Option.some renaming injEq → Vt, inj → Wc
open Prod.mk renaming injEq → Vz
namespace Go.R
open Go Go.Proofs Go.Shelf Go.RowKit
variable {P:Program}{ρ:Ren}
end Go.R
namespace Go.R
open Go Go.Proofs Go.Shelf Go.RowKit
variable {P:Program}{ρ:Ren}
end Go.R
namespace Go.R
open Go Go.Proofs Go.Shelf Go.RowKit
variable {P:Program}{ρ:Ren}
end Go.R
namespace Go.R
open Go Go.Proofs Go.Shelf Go.RowKit
theorem Fr.none {c:Cx}{L0:Nat→Prop}(hrel:HRel c L0):Fr L0 c none0 (fun _=>0) [] ⟨fun _=>.any,fun _=>none,c.h⟩ ⟨#[],[]⟩:=
 ⟨rfl,by rw [show un L0 none0=L0 from by funext b; simp [un,none0]]; exact hrel,fun t=>by simp [SR,VR],fun k cs h=>(by cases h),fun k k' h=>(by cases h),fun t k off _ h=>(by cases h),rfl,fun b h=>h.elim⟩
end Go.R
namespace Go.R
open Go Go.Proofs Go.Shelf Go.RowKit
theorem intr_cons {P:Program}{f0:FuncId}{g0:List AV→AHeap→Option (AV × AHeap)}{intr:FuncId→Option (List AV→AHeap→Option (AV × AHeap))}(h0:CallOK P fun f' args h=>if f'=f0 then g0 args h else none)
  (hs:∀args h r h',g0 args h=some (r,h')→Steady h h') (h:IntrOK P intr):IntrOK P fun f=>if f=f0 then some g0 else intr f:=by
 intro f g hg
 dsimp only at hg
 split at hg
 ·rename_i hf
  subst hf
  cases hg
  exact⟨h0,hs⟩
 ·exact h f g hg
end Go.R
namespace Go.R
open Go
section
variable {h:AHeap}{L:Mem}{e:TypeId}{id i:Nat}{bs news r:List Int}{c:Int}{s:ByteArray}
variable {cf:CallF}{f:FuncId}
end
def jn {α β:Type}(b:α→Option β)(a:(α→Option β)→Option β):Option β:=a b
theorem oQ {α β:Type}{b:α→Option β}{a:(α→Option β)→Option β}{out:β}(H:jn b a=some out):∃j:α→Option β,(∀x,j x=b x)∧a j=some out:=⟨b,fun _=>rfl,H⟩
theorem bk {α β:Type}{o:Option α}{f:α→Option β}{b:β}(h:o.bind f=some b):∃a,o=some a∧f a=some b:=Vp.1 h
theorem SW {α:Type}{c:Bool}{a b z:α}(h:c=true)(H:(if c=true then a else b)=z):a=z:=(if_pos h).symm.trans H
theorem SX {α:Type}{c:Bool}{a b z:α}(h:c=false)(H:(if c=true then a else b)=z):b=z:=(if_neg (GG h)).symm.trans H
abbrev rA (l:List AV):List AV:=.any :: .any :: .any::l
abbrev oc (l:List AV):List AV:=.any :: .any :: .any :: .any::l
abbrev C9 (l:List AV):List AV:=.any :: .any :: .any :: .any :: .any::l
abbrev xk (l:List AV):List AV:=.any :: .any :: .any :: .any :: .any :: .any::l
abbrev HS (l:List AV):List AV:=.any :: .any :: .any :: .any :: .any :: .any :: .any::l
abbrev Cr (l:List AV):List AV:=.any :: .any :: .any :: .any :: .any :: .any :: .any :: .any::l
abbrev SY (l:List AV):List AV:=.any :: .any :: .any :: .any :: .any :: .any :: .any :: .any :: .any::l
abbrev Ll (l:List AV):List AV:=.any :: .any :: .any :: .any :: .any :: .any :: .any :: .any :: .any :: .any::l
abbrev sy (l:List AV):List AV:=.any :: .any :: .any :: .any :: .any :: .any :: .any :: .any :: .any :: .any :: .any::l
abbrev vz (l:List AV):List AV:=.any :: .any :: .any :: .any :: .any :: .any :: .any :: .any :: .any :: .any :: .any :: .any::l
abbrev qL (l:List AV):List AV:=.any :: .any :: .any :: .any :: .any :: .any :: .any :: .any :: .any :: .any :: .any :: .any :: .any::l
abbrev xl (l:List AV):List AV:=.any :: .any :: .any :: .any :: .any :: .any :: .any :: .any :: .any :: .any :: .any :: .any :: .any :: .any::l
abbrev NT (l:List AV):List AV:=.any :: .any :: .any :: .any :: .any :: .any :: .any :: .any :: .any :: .any :: .any :: .any :: .any :: .any :: .any::l
abbrev GM (l:List AV):List AV:=.any :: .any :: .any :: .any :: .any :: .any :: .any :: .any :: .any :: .any :: .any :: .any :: .any :: .any :: .any :: .any::l
abbrev NU (l:List AV):List AV:=.any :: .any :: .any :: .any :: .any :: .any :: .any :: .any :: .any :: .any :: .any :: .any :: .any :: .any :: .any :: .any :: .any::l
abbrev NV (l:List AV):List AV:=.any :: .any :: .any :: .any :: .any :: .any :: .any :: .any :: .any :: .any :: .any :: .any :: .any :: .any :: .any :: .any :: .any :: .any :: .any :: .any::l
abbrev NW (l:List AV):List AV:=.any :: .any :: .any :: .any :: .any :: .any :: .any :: .any :: .any :: .any :: .any :: .any :: .any :: .any :: .any :: .any :: .any :: .any :: .any :: .any :: .any::l
abbrev NX (l:List AV):List AV:=.any :: .any :: .any :: .any :: .any :: .any :: .any :: .any :: .any :: .any :: .any :: .any :: .any :: .any :: .any :: .any :: .any :: .any :: .any :: .any :: .any :: .any :: .any::l
abbrev NY (l:List AV):List AV:=.any :: .any :: .any :: .any :: .any :: .any :: .any :: .any :: .any :: .any :: .any :: .any :: .any :: .any :: .any :: .any :: .any :: .any :: .any :: .any :: .any :: .any :: .any :: .any :: .any::l
abbrev NZ (l:List AV):List AV:=.any :: .any :: .any :: .any :: .any :: .any :: .any :: .any :: .any :: .any :: .any :: .any :: .any :: .any :: .any :: .any :: .any :: .any :: .any :: .any :: .any :: .any :: .any :: .any :: .any :: .any :: .any::l
abbrev N0 (l:List AV):List AV:=.any :: .any :: .any :: .any :: .any :: .any :: .any :: .any :: .any :: .any :: .any :: .any :: .any :: .any :: .any :: .any :: .any :: .any :: .any :: .any :: .any :: .any :: .any :: .any :: .any :: .any :: .any :: .any :: .any::l
abbrev N1 (l:List AV):List AV:=.any :: .any :: .any :: .any :: .any :: .any :: .any :: .any :: .any :: .any :: .any :: .any :: .any :: .any :: .any :: .any :: .any :: .any :: .any :: .any :: .any :: .any :: .any :: .any :: .any :: .any :: .any :: .any :: .any :: .any :: .any :: .any :: .any :: .any::l
end Go.R
namespace Go.R
open Go
def tB {X:Type}(F:CallF→Option X):Prop:=∀cf x,F cf=some x→∃l:List (FuncId × List AV × AHeap × (AV × AHeap)),(∀e∈l,cf e.1 e.2.1 e.2.2.1=some e.2.2.2)∧∀Ao:CallF,(∀e∈l,Ao e.1 e.2.1 e.2.2.1=some e.2.2.2)→F Ao=some x
theorem bq {X:Type}(x:Option X):tB fun _=>x:=by
 intro cf y h
 refine⟨[],?_,fun _ _=>h⟩
 intro e he; cases he
theorem Ee (f:FuncId)(args:List AV)(h:AHeap):tB fun cf=>cf f args h:=by
 intro cf x hx
 refine⟨[(f,args,h,x)],?_,fun Ao h'=>h' (f,args,h,x) (VQ.2 rfl)⟩
 intro e he; cases (VQ.1 he); exact hx
theorem dX {X Y:Type}{F:CallF→Option X}{G:X→CallF→Option Y}(hF:tB F)(hG:∀y,tB (G y)):tB fun cf=>(F cf).bind fun y=>G y cf:=fun cf z hz=>by
 obtain⟨y,h1,h2⟩:=Vp.1 hz
 obtain⟨l1,a1,b1⟩:=hF cf y h1
 obtain⟨l2,a2,b2⟩:=hG y cf z h2
 refine⟨l1++l2,fun e he=>(VX.1 he).elim (a1 e) (a2 e),fun Ao h'=>?_⟩
 have e1:=b1 Ao fun e he=>h' e (Wk _ he)
 have e2:=b2 Ao fun e he=>h' e (List.mem_append_right _ he)
 show (F Ao).bind _=_
 rw [e1,Vq,e2]
theorem vA {X Y:Type}{F:CallF→Option X}{g:X→Y}(hF:tB F):tB fun cf=>(F cf).map g:=by
 intro cf x hx
 obtain⟨y,h1,h2⟩:=Vr.1 hx
 obtain⟨l,a,b⟩:=hF cf y h1
 refine⟨l,a,fun Ao h'=>?_⟩
 show (F Ao).map g=some x
 rw [b Ao h',Vw,h2]
theorem jy {X:Type}{c:Prop}[Decidable c]{F G:CallF→Option X}(hF:tB F)(hG:tB G):tB fun cf=>if c then F cf else G cf:=by
 by_cases h:c
 ·simp only [h,if_true]; exact hF
 ·simp only [h,if_false]; exact hG
section
variable {P:Program}{aE ds:List Nat}
theorem oR {X:Type}{F:CallF→Option X}(h:∀cf Ao,F cf=F Ao):tB F:=by
 intro cf x hx
 refine⟨[],?_,fun Ao _=>(h Ao cf).trans hx⟩
 intro e he; cases he
theorem Ap (e:Operand→AV)(s:RS)(o:Oper):tB fun cf=>yM P cf aE ds e s o:=by
 obtain⟨dst,op,type,pos,after,guard⟩:=o
 cases op with
 | call c=>
  obtain⟨callee,args,at_⟩:=c
  cases callee with
  | value f=>
   simp only [yM]
   cases e f with
   | fn f cap=>exact jy (vA (dX (Ee _ _ _) fun y=>bq _)) (bq _)
   | _=>exact bq _
  | _=>exact oR fun _ _=>rfl
 | makeFunc fn first cap=>cases fn<;>exact oR fun _ _=>rfl
 | makeMap t r=>cases r<;>exact oR fun _ _=>rfl
 | _=>exact oR fun _ _=>rfl
theorem Cs (ops:List Oper)(s:RS)(o:Oper):tB fun cf=>mi P cf aE ops s o:=by
 refine dX (bq (gP ops s.ρ o)) fun w=>?_
 exact jy (Ap _ _ _) (bq _)
theorem xm (ops:List Oper):∀(os:List Oper) (s:RS),tB fun cf=>qD P cf aE ops s os
 | [],s=>bq _
 | o::os,s=>dX (Cs ops s o) fun s'=>xm ops os s'
theorem xn (ops:List Oper):∀(os:List Oper) (s:RS),tB fun cf=>oo P cf aE ops s os
 | [],s=>bq _
 | o::os,s=>dX (bq (gP ops s.ρ o)) fun w=>dX (jy (Ap _ _ _) (bq _)) fun s1=>vA (xn ops os s1)
theorem zf (ops:Array Oper)(s:RS):tB fun cf=>jH P cf aE ops s:=by
 unfold jH
 exact jy (dX (xn _ _ _) fun x=>bq _) (bq _)
theorem uh {f:CallF→St→Option (Ex × St)}(hf:∀s,tB fun cf=>f cf s):∀(n:Nat) (s:St),tB fun cf=>kI (f cf) n s
 | 0,s=>bq _
 | n+1,s=>dX (hf s) fun x=>by
  obtain⟨x,s'⟩:=x
  cases x with
  | norm=>exact uh hf n s'
  | _=>exact bq _
theorem iV (A:b5)(n:Nat):∀(c:Code) (s:St),tB fun cf=>bJ P cf A n c s
 | .skip,s=>by simp only [bJ]; exact bq _
 | .label _,s=>by simp only [bJ]; exact bq _
 | .ret,s=>by simp only [bJ]; exact bq _
 | .exit _,s=>by simp only [bJ]; exact bq _
 | .seq a b,s=>by
  simp only [bJ]
  exact dX (iV A n a s) fun x=>by
   obtain⟨x,s'⟩:=x
   cases x with
   | norm=>exact iV A n b s'
   | _=>exact bq _
 | .cond k x y,s=>by
  simp only [bJ]
  exact dX (bq _) fun t=>jy (iV A n x s) (iV A n y s)
 | .block id b,s=>by simp only [bJ]; exact vA (iV A n b s)
 | .loop b,s=>by simp only [bJ]; exact uh (fun s=>iV A n b s) n s
 | .region r ops draw,s=>by
  simp only [bJ]
  exact dX (bq _) fun s=>dX (jy (zf _ _) (xm _ _ _)) fun s'=>bq _
 | .rangeFunc ..,s=>by simp only [bJ]; exact bq _
 | .scope _,s=>by simp only [bJ]; exact bq _
 | .goto _,s=>by simp only [bJ]; exact bq _
 | .refuse _,s=>by simp only [bJ]; exact bq _
theorem jE (aX:FuncId→b5)(m:Nat)(f:FuncId)(args:List AV)(h:AHeap):tB fun cf=>a6 P aX cf m f args h:=by
 unfold a6
 refine dX (bq _) fun fn=>dX (bq _) fun c=>jy (dX (iV _ _ _ _) fun x=>bq _) (bq _)
end
def qz (P:Program)(T:nu)(m:Nat)(cf:CallF):CallF:=fun f args h=>
 match T.intr f with
 | some g=>g args h
 | none=>
  match T.pure f with
  | some deep=>if T.eM f then (br h deep args).bind fun us=>(a6 P T.aX cf m f us bz).bind fun x=>(cR h.next x.1).map fun r=>(r,h.eM x.2) else
    if cJ args then (a6 P T.aX cf m f (dw args) bz).bind fun x=>(ck x.2 deep x.1).map fun r=>(r,h) else
    match br h deep args with
    | some zs=>(a6 P T.aX cf m f zs bz).bind fun x=>(fW x.2 deep x.1).map fun r=>(r,h)
    | none=>a6 P T.aX cf m f (args.map aM) h
  | none=>a6 P T.aX cf m f (args.map aM) h
section
variable {P:Program}{T:nu}{m:Nat}
theorem ui (f:FuncId)(args:List AV)(h:AHeap):tB fun cf=>qz P T m cf f args h:=by
 unfold qz
 cases T.intr f with
 | some g=>exact bq _
 | none=>
  cases T.pure f with
  | none=>exact jE _ _ _ _ _
  | some deep=>
   refine jy (dX (bq _) fun us=>dX (jE _ _ _ _ _) fun x=>bq _) ?_
   refine jy (dX (jE _ _ _ _ _) fun x=>bq _) ?_
   cases br h deep args with
   | none=>exact jE _ _ _ _ _
   | some zs=>exact dX (jE _ _ _ _ _) fun x=>bq _
theorem sA:∀(n:Nat) (f:FuncId) (args:List AV) (h:AHeap) (x:AV × AHeap),eO P T m n f args h=some x→eO P T m (n+1) f args h=some x
 | 0,f,args,h,x,hc=>by simp [eO] at hc
 | n+1,f,args,h,x,hc=>by
  obtain⟨l,h1,h2⟩:=ui (P:=P) (T:=T) (m:=m) f args h _ _ hc
  exact h2 (eO P T m (n+1)) fun e he=>sA n _ _ _ _ (h1 e he)
theorem oS {n k:Nat}(hk:n≤k){f:FuncId}{args:List AV}{h:AHeap}{x:AV × AHeap}(hc:eO P T m n f args h=some x):eO P T m k f args h=some x:=by
 induction hk with
 | refl=>exact hc
 | step _ ih=>exact sA _ _ _ _ _ ih
open Classical in
noncomputable def iL (P:Program)(T:nu)(m:Nat):CallF:=fun f args h=>if H:∃x n,eO P T m n f args h=some x then some (Classical.choose H) else none
theorem kQ {f:FuncId}{args:List AV}{h:AHeap}{x:AV × AHeap}:iL P T m f args h=some x↔∃n,eO P T m n f args h=some x:=by
 have key:∀(H:∃x n,eO P T m n f args h=some x) (n:Nat),eO P T m n f args h=some x→Classical.choose H=x:=fun H n hn=>by
  obtain⟨k,hk⟩:=Classical.choose_spec H
  have h1:=oS (Nat.le_max_left n k) hn
  have h2:=oS (Nat.le_max_right n k) hk
  rw [h1] at h2
  exact (Wc h2).symm
 unfold iL
 constructor
 ·intro hc
  split at hc
  ·rename_i H
   obtain⟨n,hn⟩:=Classical.choose_spec H
   cases hc
   exact⟨n,hn⟩
  ·cases hc
 ·rintro⟨n,hn⟩
  have H:∃x n,eO P T m n f args h=some x:=⟨x,n,hn⟩
  rw [dif_pos H,key H n hn]
theorem Cu (l:List (FuncId × List AV × AHeap × (AV × AHeap)))(hl:∀e∈l,iL P T m e.1 e.2.1 e.2.2.1=some e.2.2.2):∃n,∀e∈l,eO P T m n e.1 e.2.1 e.2.2.1=some e.2.2.2:=by
 induction l with
 | nil=>exact⟨0,fun e he=>by cases he⟩
 | cons a l ih=>
  obtain⟨n,hn⟩:=ih fun e he=>hl e (List.mem_cons_of_mem _ he)
  obtain⟨k,hk⟩:=kQ.1 (hl a List.mem_cons_self)
  refine⟨max n k,fun e he=>?_⟩
  rcases VS.1 he with rfl | he
  ·exact oS (Nat.le_max_right n k) hk
  ·exact oS (Nat.le_max_left n k) (hn e he)
theorem kR {f:FuncId}{args:List AV}{h:AHeap}{x:AV × AHeap}(hc:qz P T m (iL P T m) f args h=some x):iL P T m f args h=some x:=by
 obtain⟨l,h1,h2⟩:=ui (P:=P) (T:=T) (m:=m) f args h _ _ hc
 obtain⟨n,hn⟩:=Cu l h1
 exact kQ.2 ⟨n+1,h2 (eO P T m n) hn⟩
theorem Ef (hP:Fit P)(qv:IntrOK P T.intr):CallOK P (iL P T m):=fun f args h r h' hc=>by
 obtain⟨n,hn⟩:=kQ.1 hc
 exact oK hP qv m n f args h r h' hn
theorem aY:Has bz []:=⟨fun j i c h=>by simp at h,fun j j' i c c' h=>by simp at h,WM⟩
end
section
variable {P:Program}{T:nu}{m f deep:Nat}{h:AHeap}{xs ys:List AV}{y:AV}{x:AV × AHeap}
theorem GN (h1:T.intr f=none)(h2:T.pure f=some deep)(h3:T.eM f=false)(hd:ig+bQ≤deep)(hx:xg xs ys)(hb:∃r h',a6 P T.aX (iL P T m) m f ys bz=some (r,h')∧NP h' r y):iL P T m f xs h=some (y,h):=by
 obtain⟨r,h',hb,hf⟩:=hb
 refine kR ?_
 have hd:ig+4503599627370496≤deep:=We (Nat.add_le_add_left (by decide) _) hd
 simp only [qz,h1,h2,h3,VB,if_false,hx.1,if_true,hx.2,hb,Vq,hf deep hd,Vw]
theorem bm (h1:T.intr f=none)(h2:T.pure f=some deep)(h3:T.eM f=false)(hd:ig+bQ≤deep)(hx:aQ bQ h xs ys)(hb:∃r h',a6 P T.aX (iL P T m) m f ys bz=some (r,h')∧fD h' r y):iL P T m f xs h=some (y,h):=by
 have h4:=hx deep hd
 have F0:ig+4503599627370496≤deep:=We (Nat.add_le_add_left (by decide) _) hd
 by_cases hn:cJ xs=true
 ·have:=gG deep xs ys hn h4
  obtain⟨r,h',hb,hf⟩:=hb
  exact GN h1 h2 h3 hd ⟨hn,this.symm⟩ ⟨r,h',hb,hf.Gd⟩
 ·obtain⟨r,h',hb,hf⟩:=hb
  refine kR ?_
  simp only [qz,h1,h2,h3,VB,if_false,hn,h4,hb,Vq,hf deep F0,Vw]
theorem gz (h1:T.intr f=none)(h2:T.pure f=none)(hx:xs.map aM=ys)(hb:a6 P T.aX (iL P T m) m f ys h=some x):iL P T m f xs h=some x:=by
 refine kR ?_
 simp only [qz,h1,h2,hx,hb]
theorem GO {g:List AV→AHeap→Option (AV × AHeap)}(h1:T.intr f=some g)(hx:g xs h=some x):iL P T m f xs h=some x:=by
 refine kR ?_
 simp only [qz,h1,hx]
theorem nT {g:List AV→AHeap→Option (AV × AHeap)}(h1:T.intr f=some g):iL P T m f xs h=g xs h:=by
 cases hg:g xs h with
 | some x=>exact GO h1 hg
 | none=>
  cases hc:iL P T m f xs h with
  | none=>rfl
  | some x=>
   obtain⟨n,hn⟩:=kQ.1 hc
   cases n with
   | zero=>simp [eO] at hn
   | succ n=>simp only [eO,h1,hg] at hn; cases hn
end
end Go.R
namespace Go.R
open Go
def bF:List aq→List Nat→List (aq × Nat)
 | [],_=>[]
 | n::ns,ids=>(n,ids.headD 0)::bF ns ids.tail
def Kd (ids:List Nat)(i:Int):Nat:=ids.getD i.toNat 0
def vB (ns:List aq)(ids:List Nat):List Nat:=(bF ns ids).map fun p=>p.2
def gu:bM (aq × Nat):={n:=4,f:=fun x=>[.int .i64 x.1.kind,.int .i64 x.1.int,.str x.1.label,.rs x.2 0 x.1.args.length 1],len:=fun _=>rfl,pos:=by decide,flat:=false,pure:=fun _ h=>(by cases h),canon:=fun _=>rfl}
def zg (p:aq × Nat):Nat × Ct:=(p.2,.sl p.1.args.length 1 (af.l p.1.args))
def gi (ns:List aq)(ids:List Nat):Mem:=(bF ns ids).map zg
theorem fQ:∀(ns:List aq) (ids:List Nat),(bF ns ids).length=ns.length
 | [],_=>rfl
 | n::ns,ids=>by simp [bF,fQ ns]
theorem zh (ids:List Nat):ids.headD 0=ids.getD 0 0:=by cases ids<;>rfl
theorem Cv (ids:List Nat)(i:Nat):ids.tail.getD i 0=ids.getD (i+1) 0:=by cases ids<;>simp
theorem sB:∀(ns:List aq) (ids:List Nat) (i:Nat) (n:aq),ns[i]? = some n→(bF ns ids)[i]? = some (n,ids.getD i 0)
 | [],_,i,n,h=>by simp at h
 | a::ns,ids,0,n,h=>by
  simp only [V9,Vt] at h
  subst h
  show (some (a,ids.headD 0):Option (aq × Nat))=some (a,ids.getD 0 0)
  rw [zh]
 | a::ns,ids,i+1,n,h=>by
  simp only [Wv] at h
  have:=sB ns ids.tail i n h
  simp only [bF,Wv,this,Cv]
theorem rB {ns:List aq}{ids:List Nat}{i:Int}{n:aq}(h:ix ns i=some n):ix (bF ns ids) i=some (n,Kd ids i):=by
 obtain⟨h0,h1,h2⟩:=gR h
 unfold ix Kd
 rw [if_pos h0,sB ns ids _ _ h2]
theorem sC:∀(ns:List aq) (ids:List Nat) (n:aq) (ad:Nat),bF (ns++[n]) (vB ns ids++[ad])=bF ns ids++[(n,ad)]
 | [],ids,n,ad=>rfl
 | a::ns,ids,n,ad=>by
  have:=sC ns ids.tail n ad
  simp only [vB,bF,VU,V6,List.headD_cons,List.tail_cons] at this ⊢
  rw [this]
theorem GP (ns:List aq)(ids:List Nat)(n:aq)(ad:Nat):gi (ns++[n]) (vB ns ids++[ad])=gi ns ids++[zg (n,ad)]:=by
 unfold gi; rw [sC,VY]; rfl
theorem Has.perm {h:AHeap}{K K':Mem}(o:Has h K)(p:K'.Perm K):Has h K':=by
 have hP:K.Pairwise fun a b=>a.1≠0→a.1≠b.1:=by
  rw [List.pairwise_iff_getElem]
  intro i j hi hj yy h0 he
  have:=o.nd i j K[i].1 K[i].2 K[j].2 (by rw [Vx hi]) (by rw [Vx hj,he]) h0
  omega
 have N2:K'.Pairwise fun a b=>a.1≠0→a.1≠b.1:=(p.pairwise_iff (fun {a b} h h0 he=>h (by rw [←he]; exact h0) he.symm)).2 hP
 rw [List.pairwise_iff_getElem] at N2
 refine⟨fun j i c hj=>?_,fun j j' i c c' hj yx h0=>?_,o.pos⟩
 ·obtain⟨j',yx⟩:=Wu (p.mem_iff.1 (VH hj))
  exact o.at_ j' i c yx
 ·obtain⟨a1,a2⟩:=Vy.1 hj
  obtain⟨b1,b2⟩:=Vy.1 yx
  rcases Nat.lt_trichotomy j j' with hl | hl | hl
  ·have:=N2 j j' a1 b1 hl
   rw [a2,b2] at this
   exact absurd rfl (this h0)
  ·exact hl
  ·have:=N2 j' j b1 a1 hl
   rw [a2,b2] at this
   exact absurd rfl (this h0)
section
variable {P:Program}{t t2 tf:TypeId}{h:AHeap}{pre L:Mem}{ns r:List aq}{ids:List Nat}{i ad k n2:Nat}{j a v:Int}{n:aq}
theorem Has.gone (o:Has h (pre++(gi ns ids++L))):Has h (pre++L):=by
 refine o.sub (fun q=>if q<pre.length then q else q+(gi ns ids).length) (fun q p hq=>?_) (fun q q' he=>?_)
 ·by_cases hl:q<pre.length
  ·rw [VG hl] at hq
   rw [if_pos hl,VG hl]; exact hq
  ·rw [VL (by omega)] at hq
   rw [if_neg hl,VL (by omega),VL (by omega),←hq]
   congr 1; omega
 ·split at he<;>split at he<;>omega
theorem IW {b:Nat}{kind int:Int}{label:ByteArray}{args:List Int}{x:AV}(T:xc P t 4 b=true)(o:Has h ((i,.sl k 4 (gu.l (bF ns ids)))::(ad,.sl n2 1 (af.l args))::(pre++(gi ns ids++L))))
  (hx:fH h 4 x=some ([.int .i64 kind,.int .i64 int,.str label,.rs ad 0 n2 1],1)) (gB:iA P t2 x=true) (hr:app b ns [⟨kind,int,label,args⟩]=some r) :
  ∃i' Lm h',dE P h t t2 (.rs i 0 k 4) x=some (.rs i' 0 r.length 4,h')∧Has h' ((i',.sl r.length 4 (gu.l (bF r Lm)))::(pre++(gi r Lm++L))):=by
 have hn:n2=args.length:=cG (E:=af) o (q:=1) rfl
 subst hn
 obtain⟨_,_,rfl⟩:=xd hr
 have y8:app b (bF ns ids) [((⟨kind,int,label,args⟩:aq),ad)]=some (bF ns ids++[((⟨kind,int,label,args⟩:aq),ad)]):=by
  unfold app at hr ⊢
  rw [fQ]
  split at hr
  ·rename_i hh
   simp only [VF,VT] at hh ⊢
   rw [if_pos hh]
  ·cases hr
 have Gp:fH h gu.n x=some (gu.l [((⟨kind,int,label,args⟩:aq),ad)],[((⟨kind,int,label,args⟩:aq),ad)].length):=hx
 obtain⟨i',h',e,o'⟩:=iH (E:=gu) (l:=bF ns ids) (q:=0) T o rfl Gp gB y8
 have e:dE P h t t2 (.rs i 0 k 4) x=some (.rs i' 0 (bF ns ids++[((⟨kind,int,label,args⟩:aq),ad)]).length 4,h'):=e
 refine⟨i',vB ns ids++[ad],h',?_,?_⟩
 ·rw [e,VA,VA,fQ]; rfl
 ·rw [GP,sC]
  have o':Has h' ((i',.sl (bF ns ids++[((⟨kind,int,label,args⟩:aq),ad)]).length 4 (gu.l (bF ns ids++[((⟨kind,int,label,args⟩:aq),ad)])))::zg (⟨kind,int,label,args⟩,ad)::(pre++(gi ns ids++L))):=o'
  have el:(ns++[(⟨kind,int,label,args⟩:aq)]).length=(bF ns ids++[((⟨kind,int,label,args⟩:aq),ad)]).length:=by
   rw [VA,VA,fQ]; rfl
  rw [el]
  refine o'.perm (List.Perm.cons _ ?_)
  have k1:pre++((gi ns ids++[zg ((⟨kind,int,label,args⟩:aq),ad)])++L)=(pre++gi ns ids)++zg (⟨kind,int,label,args⟩,ad)::L:=by simp
  have k2:pre++(gi ns ids++L)=(pre++gi ns ids)++L:=by simp
  rw [k1,k2]
  exact List.perm_middle
def cE:Nat:=2251799813685248
end
end Go.R
namespace Go.R
open Go
inductive wk
 | b (i:Nat) {x y:Bool} (h:x=y)
 | v (i:Nat) {e:Option AV} {z:AV} (h:e=some z)
 | w (i:Nat) {e:Option AHeap} {g:AHeap} (h:e=some g)
 | a (i:Nat) {e:Option (AV × AHeap)} {z:AV} {g:AHeap} (h:e=some (z,g))
 | m (i:Nat) {e:AV × AHeap} {z:AV} {g:AHeap} (h:e=(z,g))
def wk.SZ:wk→Nat × AV × Option AHeap
 | @b i x y h=>(i,.bool y,none)
 | @v i e z h=>(i,z,none)
 | @w i e g h=>(i,.any,some g)
 | @a i e z g h=>(i,z,some g)
 | @m i e z g h=>(i,z,some g)
def wk.fr:wk→AV × AHeap
 | @a i e z g h=>(z,g)
 | _=>(.any,bz)
def wk.p:wk→Prop
 | @b i x y h=>AV.bool x=AV.bool y
 | @v i e z h=>e=some z
 | @w i e g h=>e=some g
 | @a i e z g h=>e=some (z,g)
 | @m i e z g h=>e=(z,g)
theorem wk.ok:∀g:wk,g.p
 | @b i x y h=>congrArg AV.bool h
 | @v i e z h=>h
 | @w i e g h=>h
 | @a i e z g h=>h
 | @m i e z g h=>h
def xo:List wk→GA
 | []=>[]
 | g::gs=>g.SZ::xo gs
def Cw:List wk→List (AV × AHeap)
 | []=>[]
 | g::gs=>g.fr::Cw gs
def ps:List wk→Prop
 | []=>True
 | g::gs=>g.p∧ps gs
theorem xp:∀gs,ps gs
 | []=>trivial
 | g::gs=>⟨g.ok,xp gs⟩
def cA:Code→Code
 | .seq a _=>a
 | .cond _ a _=>a
 | .block _ a=>a
 | .loop a=>a
 | _=>.skip
def cB:Code→Code
 | .seq _ b=>b
 | .cond _ _ b=>b
 | _=>.skip
def kd:Code→Nat
 | .skip=>0
 | .ret=>1
 | .seq _ _=>2
 | .loop _=>3
 | _=>9
def N3:Code→Option Nat
 | .exit i=>some i
 | _=>none
def N4:Code→Option Nat
 | .block i _=>some i
 | _=>none
def N5 (A:b5)(c:Code)(s:St):Option AV:=
 match c with
 | .cond k _ _=>some (bL (s.open A).ρ k)
 | _=>none
def nx (P:Program)(cf:CallF)(A:b5)(c:Code)(fs gs:List wk)(s:St):St:=((nB P cf A c (Cw fs) (xo gs) s).map (·.2)).getD s
section
variable {P:Program}{cf:CallF}{A:b5}{m:Nat}{c:Code}{s:St}{Q R:Ex→St→Prop}
theorem Ln (fs gs:List wk)(hQ:Q .norm (nx P cf A c fs gs s))(h:(nB P cf A c (Cw fs) (xo gs) s).map (·.1)=some (ps fs∧ps gs):=by kernel_rfl):du P cf A m c s Q:=by
 unfold nx at hQ
 obtain⟨⟨p,s'⟩,h1,rfl⟩:=Vr.1 h
 rw [h1] at hQ
 exact DV h1 ⟨xp fs,xp gs⟩ hQ
theorem qr (gs:List wk)(hQ:Q .norm (nx P cf A c [] gs s))(h:(nB P cf A c [] (xo gs) s).map (·.1)=some (True∧ps gs):=by kernel_rfl):du P cf A m c s Q:=Ln [] gs hQ h
theorem q0 (hQ:Q .norm (nx P cf A c [] [] s))(h:(nB P cf A c [] [] s).map (·.1)=some (True∧True):=by kernel_rfl):du P cf A m c s Q:=Ln [] [] hQ h
theorem Qv (h:kd c=2):c = .seq (cA c) (cB c):=by cases c<;>first | rfl | cases h
theorem qq (hQ:du P cf A m (cA c) s (IL (fun s'=>du P cf A m (cB c) s' Q) Q))(h:kd c=2:=by kernel_rfl):du P cf A m c s Q:=by rw [Qv h]; exact w9 hQ
theorem Qw (fs gs:List wk)(hQ:du P cf A m (cB c) (nx P cf A (cA c) fs gs s) Q)(h:kd c=2:=by kernel_rfl)(h2:(nB P cf A (cA c) (Cw fs) (xo gs) s).map (·.1)=some (ps fs∧ps gs):=by kernel_rfl):du P cf A m c s Q:=qq (Ln fs gs hQ h2) h
theorem qs (gs:List wk)(hQ:du P cf A m (cB c) (nx P cf A (cA c) [] gs s) Q)(h:kd c=2:=by kernel_rfl)(h2:(nB P cf A (cA c) [] (xo gs) s).map (·.1)=some (True∧ps gs):=by kernel_rfl):du P cf A m c s Q:=Qw [] gs hQ h h2
theorem q1 (hQ:du P cf A m (cB c) (nx P cf A (cA c) [] [] s) Q)(h:kd c=2:=by kernel_rfl)(h2:(nB P cf A (cA c) [] [] s).map (·.1)=some (True∧True):=by kernel_rfl):du P cf A m c s Q:=Qw [] [] hQ h h2
theorem qk (hQ:Q .norm s)(h:kd c=0:=by kernel_rfl):du P cf A m c s Q:=by
 have:c = .skip:=by cases c<;>first | rfl | cases h
 rw [this]; exact Cf hQ
theorem qt (hQ:Q .ret s)(h:kd c=1:=by kernel_rfl):du P cf A m c s Q:=by
 have:c = .ret:=by cases c<;>first | rfl | cases h
 rw [this]; exact DW hQ
theorem qx (i:Nat)(hQ:Q (.exit i) s)(h:N3 c=some i:=by kernel_rfl):du P cf A m c s Q:=by
 have:c = .exit i:=by cases c<;>first | (cases h; rfl) | cases h
 rw [this]; exact Cg hQ
theorem qb (i:Nat)(hQ:du P cf A m (cA c) s (NN i Q))(h:N4 c=some i:=by kernel_rfl):du P cf A m c s Q:=by
 have:c = .block i (cA c):=by cases c<;>first | (cases h; rfl) | cases h
 rw [this]; exact zb hQ
theorem qc {α:Type}{b:Bool}{x y z:Option α}(H:(if b=true then x else y)=z)(ht:b=true→x=z→du P cf A m (cA c) s Q)(hf:b=false→y=z→du P cf A m (cB c) s Q)(h:N5 A c s=some (.bool b):=by kernel_rfl):du P cf A m c s Q:=by
 cases c<;>first | cases h | skip
 rename_i k a e
 exact pJ b (Wc h) (fun hb=>ht hb (SW hb H)) (fun hb=>hf hb (SX hb H))
theorem Ke (hQ:du P cf A m (cA c) s Q)(h:N5 A c s=some (.bool true):=by kernel_rfl):du P cf A m c s Q:=by
 cases c<;>first | cases h | skip
 exact pJ true (Wc h) (fun _=>hQ) (fun hb=>by cases hb)
theorem Eg (hQ:du P cf A m (cB c) s Q)(h:N5 A c s=some (.bool false):=by kernel_rfl):du P cf A m c s Q:=by
 cases c<;>first | cases h | skip
 exact pJ false (Wc h) (fun hb=>by cases hb) (fun _=>hQ)
theorem ql {c':Code}(h:du P cf A m c' s Q)(k:∀e s',Q e s'→R e s')(hc:c=c':=by kernel_rfl):du P cf A m c s R:=by rw [hc]; exact ud h k
theorem qj {α β:Type}{S:α→St→Prop}(f:α→Option β){out:β}{z:Option β}(h0:z=some out)(hB:∀σ s,S σ s→f σ=some out→du P cf A m (cB c) s Q)
  (hA:(∀σ s,S σ s→f σ=some out→du P cf A m (cB c) s Q)→du P cf A m (cA c) s (IL (fun s'=>du P cf A m (cB c) s' Q) Q)) (h:kd c=2:=by kernel_rfl):du P cf A m c s Q:=by
 rw [Qv h]; exact w9 (hA hB)
end
def dY {S O:Type}(P:Program)(cf:CallF)(A:b5)(m:Nat)(c:Code)(l:Nat→S→Option O)(R:S→St→Prop)(Q:O→Ex→St→Prop):Prop:=∀σ s out,R σ s→l m σ=some out→du P cf A m (.loop c) s (Q out)
theorem mf {S O:Type}{P:Program}{cf:CallF}{A:b5}{m:Nat}{c:Code}{l:Nat→S→Option O}{R:S→St→Prop}{Q:O→Ex→St→Prop}(h0:∀σ,l 0 σ=none)
  (step:∀k σ s out,R σ s→l (k+1) σ=some out→du P cf A m c s (DX l R Q k out)):dY P cf A m c l R Q:=fun _ _ _ hr H=>Ch l R Q h0 step hr H (fun _ _ _ h=>h)
def IX:Nat→List Nat→List Nat
 | _,[]=>[]
 | k,x::xs=>bif V5 (k % 2) 1 then x::IX (k / 2) xs else IX (k / 2) xs
def Lp (keep:List Nat):Nat→List Nat→List (Nat × List Nat)
 | _,[]=>[]
 | r,k::ks=>(r,IX k keep)::Lp keep (r+1) ks
def gV (keep aE ms:List Nat)(Gd yN:List (Nat × List (Nat × Option Nat × Nat))):b5:={keep:=keep,aE:=aE,dead:=Lp keep 0 ms,Gd:=Gd,yN:=yN}
theorem iw {α:Type}{b:Bool}{x y z:α}(H:(if b=true then x else y)=z):(b=true∧x=z)∨(b=false∧y=z):=by
 cases b with
 | true=>exact .inl ⟨rfl,H⟩
 | false=>exact .inr ⟨rfl,H⟩
theorem oi {α:Type}{a b:α}(h:some a=some b):a=b:=Wc h
theorem dv {P:Program}{A:b5}{s:St}{rs:List ResultVar}{y:AV}(av:AV)(g:AHeap)(h:fD g av y)(h1:aP P (s.open A) rs=some av:=by kernel_rfl)(h2:s.h=g:=by kernel_rfl):∃av,aP P (s.open A) rs=some av∧fD s.h av y:=⟨av,h1,h2 ▸ h⟩
theorem he {g g':AHeap}{K:Mem}(o:Has g K)(h:g'=g:=by kernel_rfl):Has g' K:=h ▸ o
end Go.R
namespace Go.R
open Go Go.Proofs Go.Shelf Go.RowKit Go.Sort
def nU:List AV→Option (List Int)
 | []=>some []
 | .int .i64 z::xs=>(nU xs).map fun l=>z::l
 | _=>none
theorem mE:∀{xs:List AV} {l:List Int},nU xs=some l→xs=l.map fun z=>.int .i64 z
 | [],l,h=>by cases h; rfl
 | x::xs,l,h=>by
  unfold nU at h
  split at h
  ·rename_i e; cases e
  ·rename_i z ys e
   obtain⟨rfl,rfl⟩:=List.cons.inj e
   obtain⟨l',h1,rfl⟩:=Vr.1 h
   rw [mE h1]; rfl
  ·cases h
theorem sD:∀l:List Int,nU (l.map fun z=>.int .i64 z)=some l
 | []=>rfl
 | z::l=>by simp only [VU,nU,sD l,Vw]
def kS (l:List Int):List Int:=l.mergeSort fun x y=>decide (x≤y)
noncomputable def IY (args:List AV)(h:AHeap):Option (AV × AHeap):=
 match args with
 | [.rs id 0 n 1]=>if n=0 then some (.tup [],h) else (h.get id).bind fun
  | .cells cs=>if n≤cs.length∧n<4611686018427387904 then (nU (cs.take n)).map fun l=>(.tup [],h.put id (.cells ((kS l).map (fun z=>.int .i64 z)++cs.drop n))) else none
  | _=>none
 | _=>none
theorem Cy:∀args h r h',IY args h=some (r,h')→Steady h h':=by
 intro args h r h' hs
 unfold IY at hs
 split at hs
 ·split at hs
  ·cases hs; exact Steady.refl _
  ·rw [Vp] at hs
   obtain⟨o,_,hs⟩:=hs
   split at hs
   ·split at hs
    ·obtain⟨l,_,hs⟩:=Vr.1 hs
     cases hs; exact Steady.put _ _ _
    ·cases hs
   ·cases hs
 ·cases hs
section
variable {c:Cx}{L0:Nat→Prop}
theorem Cz (hrel:HRel c L0){id n:Nat}{cs:List AV}{l:List Int}(hid:c.h.get id=some (.cells cs))(hl:nU (cs.take n)=some l):Holds (Value.int .i64) c.w (c.β id).1 (c.β id).2 l.toArray:=by
 obtain⟨m,⟨C,T,hC,hn⟩,hle,hcl⟩:=hrel.obj _ _ hid
 intro j hj
 have hj:j<l.length:=by simpa using hj
 have hx:cs[j]? = some (.int .i64 l[j]):=by
  have h1:(cs.take n)[j]? = some (.int .i64 l[j]):=by rw [mE hl,Wx,Vx hj]; rfl
  rw [List.getElem?_take] at h1
  split at h1
  ·exact h1
  ·cases h1
 obtain⟨v,h1,_,h3⟩:=hcl.get' j _ hx
 simp only [VR] at h3
 subst h3
 refine⟨by rw [h1]; simp [hj],by simp [World.frozen?,hC]⟩
theorem GQ (hrel:HRel c L0)(hbs:c.base≤c.w.heap.size){id n:Nat}{cs:List AV}{new:List Int}(hid:c.h.get id=some (.cells cs))(hn:n≤cs.length)(hnew:new.length=n)(q:Nat)(os:Array Obj) :
  let w':=grow (putRow (Value.int .i64) (Sort.ahead c.w q) (c.β id).1 (c.β id).2 new.toArray) os
  let c':Cx:=⟨c.β,c.h.put id (.cells (new.map (fun z=>.int .i64 z)++cs.drop n)),w',c.base⟩
  HRel c' L0∧Ext c none0 c' none0∧c'.len (c.β id).1=c.len (c.β id).1:=by
 intro w' c'
 have hun:un L0 none0=L0:=by funext b; simp [un,none0]
 have f:=Fr.none hrel
 obtain⟨m,⟨C,T,hC,hm⟩,hle,hcl⟩:=hrel.obj _ _ hid
 have hlive:Live c.h id:=⟨hrel.lt _ _ hid,by rw [hid]; rfl⟩
 have hblt:(c.β id).1<c.w.heap.size:=(VZ.1 hC).1
 have qG:∀k,k<c.w.heap.size→w'.heap[k]? = if k=(c.β id).1 then some (.cells (putCells (Value.int .i64) (c.β id).2 new.toArray C) T (0,0)) else c.w.heap[k]?:=fun k hk=>by
  show (grow _ os).heap[k]? = _
  rw [heap_grow_old _ _ (by simp [putRow,mapBlock,Sort.ahead]; exact hk)]
  by_cases h:k=(c.β id).1
  ·subst h; simp [putRow,mapBlock,Sort.ahead,Ws,hC,onCells]
  ·have h2:(c.β id).1≠k:=fun e=>h e.symm
   simp [putRow,mapBlock,Sort.ahead,Ws,h,h2]
 have th:w'.heap[(c.β id).1]? = some (.cells (putCells (Value.int .i64) (c.β id).2 new.toArray C) T (0,0)):=by rw [qG _ hblt,if_pos rfl]
 have hsz:(putCells (Value.int .i64) (c.β id).2 new.toArray C).size=C.size:=by simp [putCells]
 have hlen:((w'.shape? (c.β id).1).map (·.2)).getD 0=c.len (c.β id).1:=by
  simp only [Cx.len,World.shape?,th,hC,Vw,Wl,hsz]
 have Lq:c.w.heap.size≤w'.heap.size:=by
  show _≤(grow _ os).heap.size
  simp [grow,putRow,mapBlock,Sort.ahead]
 obtain⟨e2,f2⟩:=f.upd (w':=w') (β':=c.β) (h':=c.h.put id (.cells (new.map (fun z=>.int .i64 z)++cs.drop n))) id (.cells (new.map (fun z=>.int .i64 z)++cs.drop n)) (Steady.put _ _ _) (WC hlive.1) (by simp [AHeap.put,beq_nat])
  (fun j hj=>.inr ⟨by simp [AHeap.put,beq_nat,hj],rfl⟩) (fun _=>⟨hlive,rfl⟩) (.inr ⟨id,hlive,rfl,.inl rfl⟩)
  (fun _=>hlen) (fun k hk hne=>by rw [qG k hk,if_neg hne]) (fun k hk hne=>by rw [qG k (by omega),if_neg hne]) Lq hbs rfl rfl rfl
  (fun ee=>by
   refine⟨C.size,⟨_,T,th,hsz⟩,by rw [VA,VN,List.length_drop,hnew]; omega,?_⟩
   rw [Cells.iff]
   intro i x hx
   show ∃v,w'.cell? _=some v∧_
   rw [cell_of_block th]
   have hi:i<cs.length:=by
    have:=(Vy.1 hx).1
    rw [VA,VN,List.length_drop,hnew] at this; omega
   have S3:(putCells (Value.int .i64) (c.β id).2 new.toArray C)[(c.β id).2+i]? = C[(c.β id).2+i]?.map fun x=>if (c.β id).2≤(c.β id).2+i∧(c.β id).2+i<(c.β id).2+new.toArray.size then Value.int .i64 new.toArray[(c.β id).2+i - (c.β id).2]! else x:=by
    unfold putCells; rw [Array.getElem?_mapIdx]
   rw [S3]
   by_cases h:i<n
   ·rw [VG (by rw [VN,hnew]; exact h),Wx,Vx (by omega)] at hx
    simp only [Vw,Vt] at hx
    subst hx
    have S4:(c.β id).2+i<C.size:=by omega
    rw [Array.getElem?_eq_getElem S4]
    refine⟨.int .i64 new[i],?_,rfl,by simp [VR]⟩
    simp only [Vw,Vt]
    rw [if_pos ⟨by omega,by simp [hnew]; exact h⟩,WD]
    simp [show i<new.length by omega]
   ·rw [VL (by rw [VN,hnew]; omega),VN,hnew,List.getElem?_drop,show n+(i - n)=i by omega] at hx
    obtain⟨v,v1,v2,v3⟩:=hcl.get' i x hx
    rw [cell_of_block hC] at v1
    refine⟨v,?_,v2,?_⟩
    ·rw [v1]
     simp only [Vw,Vt]
     rw [if_neg (by simp [hnew]; omega)]
    ·have:=VR.ext ee (L0:=L0) x v (by rw [hun]; exact v3)
     exact this)
 exact⟨by have:=f2.rel; rwa [hun] at this,e2,hlen⟩
end
section
variable {P:Program}{ρ:Ren}
theorem Lr (L:Lays.n189 P ρ)(henter:∀(vs:Array Value) (w:World),(callFunc (ρ.f 189) vs).run P w = .ok (.enter (ρ.f 189) vs) w) :
  CallOK P fun f' args h=>if f'=ρ.f 189 then IY args h else none:=by
 intro f args h r h' hc
 dsimp only at hc
 split at hc
 rotate_left
 ·cases hc
 rename_i hf
 subst hf
 refine⟨henter,fun L0 c vs hh hb0 hrel hargs=>?_⟩
 subst hh
 unfold IY at hc
 split at hc
 rotate_left
 ·cases hc
 rename_i id n
 match vs,hargs with
 | [v1],⟨q1,_⟩=>
 split at hc
 ·rename_i hn
  subst hn
  cases hc
  have hs:∃a cap,v1 = .slice a 0 cap:=by
   simp only [VR] at q1
   rcases q1 with⟨_,_,_,a,rfl⟩| ⟨_,_,a,cap,rfl,_⟩
   ·exact⟨a,0,rfl⟩
   ·exact⟨a,cap,rfl⟩
  obtain⟨a,cap,rfl⟩:=hs
  refine (Any.slices_Sort_int_none L a cap c.w).mono ?_
  rintro e w' ⟨rfl,rfl⟩
  exact⟨c,_,rfl,rfl,rfl,by simp only [VR]; exact⟨#[],rfl,trivial⟩,hrel,Ext.refl _ _⟩
 ·rename_i hn
  rw [Vp] at hc
  obtain⟨o,hid,hc⟩:=hc
  split at hc
  rotate_left
  ·cases hc
  rename_i cs
  split at hc
  rotate_left
  ·cases hc
  rename_i hle
  obtain⟨l,hl,he⟩:=Vr.1 hc
  simp only [Vz] at he
  obtain⟨rfl,rfl⟩:=he
  have hlive:Live c.h id:=⟨hrel.lt _ _ hid,by rw [hid]; rfl⟩
  have hll:l.length=n:=by
   have:=congrArg List.length (mE hl)
   rw [VN,Wt] at this; omega
  simp only [VR] at q1
  rcases q1 with⟨_,_,h0,_⟩| ⟨_,_,a,cap,rfl,h1,h2,h3⟩
  ·exact absurd h0 hn
  rcases h3 hlive with⟨rfl,h4⟩| h4
  rotate_left
  ·omega
  have hc:=Any.slices_Sort_int L (c.β id).1 (c.β id).2 cap l c.w (Cz hrel hid hl) (hrel.block hlive) (by omega)
  rw [hll] at hc
  refine hc.mono ?_
  rintro e w' ⟨rfl,q,os,rfl⟩
  have hsl:(kS l).length=n:=by unfold kS; rw [List.length_mergeSort,hll]
  obtain⟨g1,g2,_⟩:=GQ hrel hb0 hid hle.1 hsl q os
  exact⟨_,_,rfl,rfl,rfl,by simp only [VR]; exact⟨#[],rfl,trivial⟩,g1,g2⟩
end
end Go.R
namespace Go.R
open Go
def HT (cf:CallF)(f:FuncId):Prop:=∀args h,cf f args h=IY args h
theorem pL (l:List Int):af.l l=l.map fun z=>.int .i64 z:=by
 induction l with
 | nil=>rfl
 | cons a l ih=>rw [bM.eK,ih]; rfl
theorem nc (l:List Int):(kS l).length=l.length:=by unfold kS; rw [List.length_mergeSort]
section
variable {h:AHeap}{L:Mem}{i n:Nat}{l:List Int}{cf:CallF}{f:FuncId}
theorem GR (o:Has h ((i,.sl n 1 (af.l l))::L))(hn:n≠0):n=l.length∧i≠0∧l.length<4611686018427387904∧∃rest,h.get i=some (.cells (l.map (fun z=>.int .i64 z)++rest)):=by
 obtain⟨⟨⟨h1,h2⟩,h3⟩,_⟩:=o.at_ 0 _ _ rfl
 have hl:(af.l l).length=l.length:=by rw [pL,VN]
 rw [hl] at h1 h2
 rcases h3 with⟨_,h⟩| ⟨h,rest,h4⟩
 ·exact absurd h hn
 ·rw [pL] at h4
  exact⟨by omega,h,by omega,rest,h4⟩
theorem IZ (o:Has h ((i,.sl 0 1 (af.l l))::L)):l=[]:=by
 obtain⟨⟨⟨h1,_⟩,_⟩,_⟩:=o.at_ 0 _ _ rfl
 rw [pL,VN] at h1
 exact V3 (by omega)
theorem I0 (S:HT cf f)(o:Has h ((i,.sl n 1 (af.l l))::L)):∃h',cf f [.rs i 0 n 1] h=some (.tup [],h')∧Has h' ((i,.sl n 1 (af.l (kS l)))::L):=by
 rw [S]
 by_cases hn:n=0
 ·subst hn
  have:=IZ o
  subst this
  have e:kS []=[]:=by simp [kS]
  exact⟨h,rfl,by rw [e]; exact o⟩
 ·obtain⟨h1,h2,h3,rest,h4⟩:=GR o hn
  subst h1
  have et:(l.map (fun z=>AV.int .i64 z)++rest).take l.length=l.map fun z=>AV.int .i64 z:=by
   rw [VW (by simp),V4 (by simp)]
  have ed:(l.map (fun z=>AV.int .i64 z)++rest).drop l.length=rest:=by
   have:=List.drop_left (l₁:=l.map fun z=>AV.int .i64 z) (l₂:=rest)
   rwa [VN] at this
  refine⟨h.put i (.cells ((kS l).map (fun z=>.int .i64 z)++rest)),?_,?_⟩
  ·unfold IY
   simp only
   rw [if_neg hn,h4,Vq]
   simp only
   rw [if_pos ⟨by simp,h3⟩,et,sD,Vw,ed]
  ·refine jx (q:=0) o rfl (ob:=.cells ((kS l).map (fun z=>.int .i64 z)++rest)) (c':=.sl l.length 1 (af.l (kS l))) ⟨⟨?_,?_⟩,.inr ⟨h2,rest,by rw [cZ,if_pos rfl,pL]⟩⟩
   ·rw [pL,VN,nc]; omega
   ·have:=(o.at_ 0 _ _ rfl).1.1.2
    rw [pL,VN] at this ⊢
    rw [nc]; exact this
end
end Go.R
namespace Go.R
open Go
def xq (z:Nat)(args:List AV)(h:AHeap):Option (AV × AHeap):=
 match args with
 | [.nils]=>some (.rs 0 0 0 z,h)
 | [.fz cs n _]=>if n=0 then some (.rs 0 0 0 z,h) else if cs.length=n*z∧n*1024≤1099511627776 then some (.rs h.next 0 n z,h.alloc (.cells (cs.map jF))) else none
 | [.rs id 0 n z']=>if n=0 then some (.rs 0 0 0 z,h) else (h.get id).bind fun
  | .cells cs=>if z'=z∧n*z≤cs.length∧n*1024≤1099511627776 then some (.rs h.next 0 n z,h.alloc (.cells ((cs.take (n*z)).map jF))) else none
  | _=>none
 | _=>none
def xr (cf:CallF)(f:FuncId)(z:Nat):Prop:=∀args h,cf f args h=xq z args h
def Aq (z:Nat){α:Type}(l:List α):Option (List α):=if l.length*1024≤1099511627776 then some l else none
theorem xt {z:Nat}{α:Type}{l r:List α}(h:Aq z l=some r):l.length*1024≤1099511627776∧r=l:=by
 unfold Aq at h
 split at h
 ·rename_i g; cases h; exact⟨g,rfl⟩
 ·cases h
section
variable {h:AHeap}{K:Mem}{i n q:Nat}{α:Type}{E:bM α}{l r:List α}{cf:CallF}{f:FuncId}
theorem Eh (o:Has h K)(hl:l≠[])(hb:l.length*1024≤1099511627776):Has (h.alloc (.cells (E.l l))) ((h.next,.sl l.length E.n (E.l l))::K):=
 o.new (fun k hk=>by rw [AHeap.alloc,cZ,if_neg (by omega)]) (Wy _) (.inr (Vv _)) (Wd _) ⟨⟨bM.bK,bM.na (by omega)⟩,.inr ⟨by have:=o.pos; omega,[],by rw [AHeap.alloc,cZ,if_pos rfl]; simp⟩⟩
theorem Ar (o:Has h K):Has h ((0,.sl ([]:List α).length E.n (E.l []))::K):=Has.nil o E.n
theorem Ls (S:xr cf f E.n)(o:Has h K)(hr:Aq E.n l=some r):∃i h',cf f [E.fz l] h=some (.rs i 0 r.length E.n,h')∧Has h' ((i,.sl r.length E.n (E.l r))::K):=by
 obtain⟨hb,rfl⟩:=xt hr
 rw [S]
 by_cases hl:r=[]
 ·subst hl
  exact⟨0,h,rfl,Ar o⟩
 ·have hn:r.length≠0:=fun e=>hl (V3 e)
  refine⟨h.next,_,?_,Eh o hl hb⟩
  show xq E.n [.fz (E.l r) r.length false] h=_
  unfold xq
  simp only
  rw [if_neg hn,if_pos ⟨bM.bK,hb⟩,bM.vo]
theorem HU (S:xr cf f E.n)(o:Has h K)(hq:K[q]? = some (i,.sl n E.n (E.l l)))(hr:Aq E.n l=some r):∃i' h',cf f [.rs i 0 n E.n] h=some (.rs i' 0 r.length E.n,h')∧Has h' ((i',.sl r.length E.n (E.l r))::K):=by
 obtain⟨hb,rfl⟩:=xt hr
 have hn:=cG o hq
 subst hn
 rw [S]
 by_cases hl:r=[]
 ·subst hl
  exact⟨0,h,rfl,Ar o⟩
 ·have hn:r.length≠0:=fun e=>hl (V3 e)
  obtain⟨⟨⟨h1,_⟩,h3⟩,_⟩:=o.at_ _ _ _ hq
  rcases h3 with⟨_,h4⟩| ⟨h0,rest,h4⟩
  ·exact absurd h4 hn
  ·refine⟨h.next,_,?_,Eh o hl hb⟩
   unfold xq
   simp only
   rw [if_neg hn,h4,Vq]
   simp only
   have h1:(E.l r).length=r.length*E.n:=bM.bK
   rw [if_pos ⟨trivial,by rw [VA,h1]; omega,hb⟩,VW (by omega),V4 (by omega),bM.vo]
end
end Go.R
namespace Go.R
open Go
section
variable {h:AHeap}{K:Mem}{i q off k:Nat}{cs ys:List AV}
theorem bS (o:Has h K)(hq:K[q]? = some (i,.ob cs))(f:aQ k h cs ys):kr (k+1) h (.ptr i off) (.fp ys off):=fun n hn=>by
 obtain⟨m,rfl⟩:∃m,n=m+1:=⟨n - 1,by simp only [ig] at hn; omega⟩
 obtain⟨⟨_,h2⟩,_⟩:=o.at_ _ _ _ hq
 simp only [ck,h2,Vq]
 rw [f m (by omega)]; rfl
theorem lC (hp:cJ cs=true∧dw cs=cs):(AV.fp cs off).dZ=true∧(AV.fp cs off).jj = .fp cs off:=⟨by simpa [AV.dZ] using hp.1,by show AV.fp (dw cs) off=_; rw [hp.2]⟩
theorem gv (hp:cJ cs=true∧dw cs=cs):kr 0 h (.fp cs off) (.fp cs off):=lA (lC hp).1 (fun _=>rfl) (lC hp).2
end
def I1 {α:Type}(o:Option α)(i:Nat):AV:=
 match o with
 | none=>.nk
 | some _=>.ptr i 0
def I2 {α:Type}(o:Option α)(f:α→Mem):Mem:=
 match o with
 | none=>[]
 | some y=>f y
def I3 {α β:Type}(o:Option α)(n:Option β)(s:α→Option β):Option β:=
 match o with
 | none=>n
 | some y=>s y
theorem CA {α β:Type}{o:Option α}{n:Option β}{s:α→Option β}{z:Option β}(h:I3 o n s=z):(o=none∧n=z)∨∃y,o=some y∧s y=z:=by
 cases o with
 | none=>exact .inl ⟨rfl,h⟩
 | some y=>exact .inr ⟨y,rfl,h⟩
end Go.R
namespace Go.R
open Go
def qM:List (AHeap × AHeap × Nat)→Prop
 | []=>True
 | (h,h',i)::l=>h.ver i=h'.ver i∧qM l
theorem oT:∀{a b:List (AHeap × AHeap × Nat)},qM (a++b)→qM a∧qM b
 | [],b,h=>⟨trivial,h⟩
 | (_,_,_)::a,b,h=>by
  have:=oT (a:=a) h.2
  exact⟨⟨h.1,this.1⟩,this.2⟩
theorem xu:∀{l:List Nat} {h h':AHeap},qM (l.map fun id=>(h,h',id))→∀id∈l,h.ver id=h'.ver id
 | i::l,h,h',hp,id,hm=>by
  rcases VS.1 hm with rfl | hm
  ·exact hp.1
  ·exact xu hp.2 id hm
def I4 (x y:lW):Bool:=
 match x.f.wb with
 | some k=>!y.f.rb.contains k&&y.f.wb != some k
 | none=>true
def vC (x y:lW):Option (List (AHeap × AHeap × Nat)):=
 bif I4 x y then (bif x.f.wh then (bif y.f.wh then none else some (y.f.rh.map fun id=>(x.s.h,x.s'.h,id))) else some []) else none
theorem uj {x y:lW}{l:List (AHeap × AHeap × Nat)}(h:vC x y=some l)(hp:qM l):x.jk y=true:=by
 have he:x.jk y=(I4 x y&&(!x.f.wh||(!y.f.wh&&y.f.rh.all fun id=>V5 (x.s.h.ver id) (x.s'.h.ver id)))):=rfl
 rw [he]
 unfold vC at h
 cases h1:I4 x y with
 | false=>rw [h1] at h; cases h
 | true=>
  rw [h1,cond_true] at h
  cases hw:x.f.wh with
  | false=>rfl
  | true=>
   rw [hw,cond_true] at h
   cases hy:y.f.wh with
   | true=>rw [hy] at h; cases h
   | false=>
    rw [hy,cond_false] at h
    cases h
    simp only [Wn,Bool.false_or,Bool.not_false,WZ,VK]
    intro id hid
    rw [xu hp id hid,Nat.beq_refl]
def xw (ms:List Nat)(x:lW)(i:Nat):List (lW × Nat)→Option (List (AHeap × AHeap × Nat))
 | []=>some []
 | y::l=>bif WK y.2 i||(ms.getD y.2 0).testBit i then xw ms x i l else (vC x y.1).bind fun a=>(vC y.1 x).bind fun b=>(xw ms x i l).map fun c=>a++(b++c)
theorem Ei {ms:List Nat}{x:lW}{i:Nat}(l:List (lW × Nat)):∀{v:List (AHeap × AHeap × Nat)},xw ms x i l=some v→qM v→∀p∈l,(WK p.2 i||(ms.getD p.2 0).testBit i||(x.jk p.1&&p.1.jk x))=true:=by
 induction l with
 | nil=>intro v _ _ p hm; cases hm
 | cons y l ih=>
  intro v h hp p hm
  simp only [xw] at h
  cases hc:(WK y.2 i||(ms.getD y.2 0).testBit i) with
  | true=>
   rw [hc,cond_true] at h
   rcases VS.1 hm with rfl | hm
   ·rw [hc,Bool.true_or]
   ·exact ih h hp p hm
  | false=>
   rw [hc,cond_false] at h
   simp only [Vp,Vr] at h
   obtain⟨a,ha,b,hb,c,hc,rfl⟩:=h
   obtain⟨p1,p2⟩:=oT hp
   obtain⟨p2,p3⟩:=oT p2
   rcases VS.1 hm with rfl | hm
   ·rw [uj ha p1,uj hb p2,Bool.and_self,Bool.or_true]
   ·exact ih hc p3 p hm
def As (ms:List Nat)(all:List (lW × Nat)):List (lW × Nat)→Option (List (AHeap × AHeap × Nat))
 | []=>some []
 | x::l=>(xw ms x.1 x.2 all).bind fun a=>(As ms all l).map fun b=>a++b
theorem Ej {ms:List Nat}{all:List (lW × Nat)}(l:List (lW × Nat)):∀{v:List (AHeap × AHeap × Nat)},As ms all l=some v→qM v→∀x∈l,∀p∈all,(WK p.2 x.2||(ms.getD p.2 0).testBit x.2||(x.1.jk p.1&&p.1.jk x.1))=true:=by
 induction l with
 | nil=>intro v _ _ x hm; cases hm
 | cons y l ih=>
  intro v h hp x hm
  simp only [As,Vp,Vr] at h
  obtain⟨a,ha,b,hb,rfl⟩:=h
  obtain⟨p1,p2⟩:=oT hp
  rcases VS.1 hm with rfl | hm
  ·exact Ei all ha p1
  ·exact ih hb p2 x hm
def I5 (ops:List Oper)(arr:Array Oper)(s:RS)(es:List lW):Option (List (AHeap × AHeap × Nat)):=
 let ms:=jl [] ops
 let is:=es.zipIdx
 let uO:=is.filter fun (x,_)=>!x.f.quiet
 if mU arr ms&&uO.all (fun (x,i)=>rj ms (ops.filterMap (·.dst)) s is x i) then As ms uO uO else none
theorem GS {P:Program}{cf:CallF}{aE:List Nat}{ops:Array Oper}{s r:RS}{es:List lW}{l:List (AHeap × AHeap × Nat)}(h:I5 ops.toList ops s es=some l)(hp:qM l)(hr:oo P cf aE ops.toList s ops.toList=some (es,r)):jH P cf aE ops s=some r:=by
 unfold I5 at h
 simp only at h
 split at h
 rotate_left
 ·cases h
 rename_i hc
 simp only [Vu] at hc
 obtain⟨h1,h2⟩:=hc
 unfold jH
 simp only [h1,if_true,hr,Vq]
 rw [if_pos]
 rw [VK] at h2 ⊢
 intro x hx
 have a:=h2 x hx
 simp only [Vu] at a ⊢
 refine⟨a,?_⟩
 rw [VK]
 intro y hy
 exact Ej _ h hp x hx y hy
def Au (P:Program)(cf:CallF)(A:b5)(c:Code)(fs:List (AV × AHeap))(zs:GA)(st:St):Option ((Prop × Prop) × St):=
 match c with
 | .region id ops draw=>(qK (st.open A) (fV id A.Gd) fs).bind fun (s0,p0)=>(qJ P cf A.aE ops.toList s0 0 ops.toList zs).bind fun (es,r,p)=>
   bif draw then (I5 ops.toList ops s0 es).bind fun l=>(kH r (fV id A.yN)).map fun r2=>((p0∧p,qM l),r2.mj A id) else none
 | _=>none
theorem Ek {P:Program}{cf:CallF}{A:b5}{m:Nat}{c:Code}{fs:List (AV × AHeap)}{zs:GA}{st js:St}{p q:Prop}(h:Au P cf A c fs zs st=some ((p,q),js))(hp:p)(hq:q):bJ P cf A m c st=some (.norm,js):=by
 unfold Au at h
 split at h
 rotate_left
 ·cases h
 rename_i id ops draw
 simp only [Vp] at h
 obtain⟨⟨s0,p0⟩,h0,⟨es,r,p1⟩,h1,h⟩:=h
 cases draw with
 | false=>cases h
 | true=>
  simp only [cond_true,Vp,Vr,Vz] at h
  obtain⟨l,hl,r2,h2,⟨rfl,rfl⟩,rfl⟩:=h
  obtain⟨g1,g2⟩:=vl h1 hp.2
  have g0:=rr h0 hp.1
  simp only [bJ,g0,Vq,if_true,GS hl hq g1,h2,Vw]
inductive Vg
 | mk {h h':AHeap} {i:Nat} (e:h.ver i=h'.ver i)
def Vg.t:Vg→AHeap × AHeap × Nat
 | @mk h h' i e=>(h,h',i)
theorem El:∀vs:List Vg,qM (vs.map Vg.t)
 | []=>trivial
 | @Vg.mk h h' i e::vs=>⟨e,El vs⟩
def Qx (P:Program)(cf:CallF)(A:b5)(c:Code)(fs gs:List wk)(s:St):St:=((Au P cf A c (Cw fs) (xo gs) s).map (·.2)).getD s
section
variable {P:Program}{cf:CallF}{A:b5}{m:Nat}{c:Code}{s:St}{Q R:Ex→St→Prop}
theorem Kf (fs gs:List wk)(vs:List Vg)(hQ:Q .norm (Qx P cf A c fs gs s))(h:(Au P cf A c (Cw fs) (xo gs) s).map (·.1)=some (ps fs∧ps gs,qM (vs.map Vg.t)):=by kernel_rfl):du P cf A m c s Q:=by
 unfold Qx at hQ
 obtain⟨⟨p,s'⟩,h1,rfl⟩:=Vr.1 h
 rw [h1] at hQ
 exact⟨.norm,s',Ek h1 ⟨xp fs,xp gs⟩ (El vs),hQ⟩
end
section
variable {P:Program}{h h':AHeap}{K:Mem}{i j n z q q2:Nat}{c:Ct}{cs:List AV}{x y:AV}{t t2:TypeId}
theorem vD {o:AObj}(hj:j≠i):h.ver j=(h.put i o).ver j:=by
 simp only [AHeap.put,beq_nat]
 simp [hj]
theorem xy (hj:j≠i):h.ver j=(h.kill i).ver j:=by
 simp only [AHeap.kill,beq_nat]
 simp [hj]
theorem GU {s:AV}(e:dE P h t t2 s x=some (y,h'))(hs:∀i off n z,s = .rs i off n z→j≠i)(hj:j≠h.next):h.ver j=h'.ver j:=by
 have ha:∀o:AObj,h.ver j=(h.alloc o).ver j:=fun o=>vD hj
 unfold dE at e
 simp only [Vp] at e
 obtain⟨u,hu,e⟩:=e
 split at e
 rotate_left
 ·cases e
 simp only [Vp] at e
 obtain⟨inf,hi,⟨new,m⟩,hc,e⟩:=e
 split at e
 ·cases e
 split at e
 ·split at e
  ·cases e
  ·split at e
   ·cases e; rfl
   ·cases e; exact ha _
 ·split at e
  ·cases e
  ·split at e
   ·split at e<;>(cases e; rfl)
   ·cases e; exact ha _
 ·rename_i id off len ij
  have hne:=hs _ _ _ _ rfl
  split at e
  ·split at e
   ·cases e
   ·split at e
    ·cases e; rfl
    ·cases e; exact ha _
  ·simp only [Vp] at e
   obtain⟨ob,ho,e⟩:=e
   split at e
   rotate_left
   ·cases e
   split at e
   ·cases e
   ·split at e
    ·cases e; rfl
    ·cases e
     exact (xy hne).trans (vD hj)
 ·cases e
theorem zi (o:Has h K)(hq:K[q]? = some (i,c))(GV:K[q2]? = some (j,.ob cs))(hne:q≠q2)(e:dE P h t t2 (.rs i 0 n z) x=some (y,h')):h.ver j=h'.ver j:=by
 obtain⟨⟨h1,_⟩,h2⟩:=o.at_ _ _ _ GV
 refine GU e (fun i' _ _ _ he=>?_) (by omega)
 cases he
 intro hji
 subst hji
 exact hne (o.nd _ _ _ _ _ hq GV h1)
end
theorem zj {cf:CallF}{f:FuncId}{z:Nat}{h h':AHeap}{K:Mem}{q2 j:Nat}{cs:List AV}{x y:AV}(S:xr cf f z)(o:Has h K)(GV:K[q2]? = some (j,.ob cs))(e:cf f [x] h=some (y,h')):h.ver j=h'.ver j:=by
 obtain⟨⟨h1,_⟩,h2⟩:=o.at_ _ _ _ GV
 have ha:∀o:AObj,h.ver j=(h.alloc o).ver j:=fun o=>vD (Nat.ne_of_lt h2)
 rw [S] at e
 unfold xq at e
 split at e
 ·cases e; rfl
 ·split at e
  ·cases e; rfl
  ·split at e
   ·cases e; exact ha _
   ·cases e
 ·split at e
  ·cases e; rfl
  ·rw [Vp] at e
   obtain⟨ob,ho,e⟩:=e
   split at e
   ·split at e
    ·cases e; exact ha _
    ·cases e
   ·cases e
 ·cases e
theorem Lt {x:Option (AV × AHeap)}{a:AV}{h:AHeap}{z:AV × AHeap}(h1:x=some (a,h))(h2:jb 0 h a=some z):x.bind (fun x=>jb 0 x.2 x.1)=some z:=by rw [h1]; exact h2
theorem I6 {P:Program}{h:AHeap}{K:Mem}{q i t e n:Nat}{inf:TypeInfo}{l:List Int}{j:Int}(ht:P.underlying t=some (.slice e))(hi:P.info? e=some inf)(hs:inf.size=1)(hz:iz P e=some (.int .i64 0))(o:Has h K)(hq:K[q]? = some (i,.sl n 1 (af.l l)))(h0:0≤j)(h1:j≤(l.length:Int)) :
  ∃h',lj P h t (.rs i (0+j.toNat*1) (n - j.toNat) 1)=some h'∧Has h' (K.set q (i,.sl n 1 (af.l (l.take j.toNat++VJ (l.length - j.toNat) 0)))):=by
 have hn:n=l.length:=cG (E:=af) o hq
 subst hn
 have hll:(l.take j.toNat++VJ (l.length - j.toNat) 0).length=l.length:=by simp; omega
 unfold lj
 rw [ht,Vq]
 simp only
 by_cases hl:l.length - j.toNat=0
 ·refine⟨h,by rw [if_pos hl],?_⟩
  have:l.take j.toNat++VJ (l.length - j.toNat) 0=l:=by rw [hl,List.replicate_zero,WN,V4 (by omega)]
  rw [this]
  have hK:K.set q (i,.sl l.length 1 (af.l l))=K:=by
   obtain⟨g1,g2⟩:=Vy.1 hq
   rw [←g2,List.set_getElem_self]
  rw [hK]; exact o
 ·rw [if_neg hl]
  obtain⟨⟨⟨hlen,qH⟩,lR⟩,hlt⟩:=o.at_ _ _ _ hq
  rcases lR with⟨_,h5⟩| ⟨h5,rest,h6⟩
  ·omega
  rw [if_neg h5]
  simp only [hi,hz,h6,Vq,hs]
  have S5:ik [AV.int .i64 0] (l.length - j.toNat)=af.l (VJ (l.length - j.toNat) 0):=by
   generalize l.length - j.toNat=k
   induction k with
   | zero=>rfl
   | succ k ih=>show [AV.int .i64 0]++ik [AV.int .i64 0] k=_; rw [ih]; rfl
  rw [if_pos ⟨trivial,rfl,by decide,rfl,by rw [VA,hlen]; omega⟩]
  refine⟨_,rfl,?_⟩
  refine jx o hq ?_
  have Ig:(af.l (l.take j.toNat++VJ (l.length - j.toNat) 0)).length=l.length*1:=(bM.bK (E:=af)).trans (by rw [hll]; rfl)
  refine⟨⟨Ig,by rw [Ig]; rw [hlen] at qH; exact qH⟩,.inr ⟨h5,rest,?_⟩⟩
  rw [cZ,if_pos rfl]
  congr 2
  show di (af.l l++rest) (0+j.toNat*1) (ik [AV.int .i64 0] (l.length - j.toNat))=_
  rw [S5,bM.hJ]
  have I7:=hU (af.l (l.drop j.toNat)) (af.l (VJ (l.length - j.toNat) 0)) (af.l (l.take j.toNat)) rest (by
   rw [bM.bK,bM.bK]; simp)
  rw [←bM.hJ,WA] at I7
  have hp:(af.l (l.take j.toNat)).length=0+j.toNat*1:=by
   rw [bM.bK]; show _*1=_; simp; omega
  rw [hp] at I7
  exact I7
end Go.R
namespace Go.R
open Go
def Qy (P:Program)(t:TypeId):Bool:=
 match P.underlying t with
 | some (.map kt et)=>(P.underlying kt matches some (.int .i64))&&(match iz P et with | some (.bool b)=>!b | _=>false)
 | _=>false
section
variable {P:Program}{h:AHeap}{K:Mem}{i q n b:Nat}{t t2:TypeId}{α:Type}{E:bM α}{l r s:List α}{x:AV}
def Lu {α:Type}(l s:List α):Option (List α):=if s.length≤l.length then some (s++l.drop s.length) else none
theorem GW (T:xc P t E.n b=true)(o:Has h K)(hq:K[q]? = some (i,.sl n E.n (E.l l)))(hc:eu h E.n x=some (E.l s,s.length))(gB:iA P t2 x=true)(n9:(E.l s).all AV.bR=true)(hr:Lu l s=some r) :
  ∃h',p7 P h t t2 (.rs i 0 n E.n) x=some (.int .i64 s.length,h')∧Has h' (K.set q (i,.sl n E.n (E.l r))):=by
 have hn:=cG o hq
 subst hn
 unfold Lu at hr
 split at hr
 rotate_left
 ·cases hr
 rename_i hle
 cases hr
 obtain⟨e,inf,g1,g2,g3,g4,g5,g6⟩:=jS T
 obtain⟨⟨⟨hlen,qH⟩,lR⟩,hlt⟩:=o.at_ _ _ _ hq
 have hll:(s++l.drop s.length).length=l.length:=by simp; omega
 simp only [p7,g1,Vq,g2,g3,hc,gB,Bool.true_eq_false,if_false]
 rcases lR with⟨h0,h1⟩| ⟨h0,rest,h1⟩
 ·have hl0:l=[]:=by simpa using h1
  subst hl0
  have hs0:s=[]:=by cases s with | nil=>rfl | cons _ _=>simp at hle
  subst hs0
  refine⟨h,by simp [h0],?_⟩
  have hK:K.set q (i,.sl ([]:List α).length E.n (E.l ([]++([]:List α).drop ([]:List α).length)))=K:=by
   obtain⟨g1,g2⟩:=Vy.1 hq
   show K.set q (i,.sl ([]:List α).length E.n (E.l []))=K
   rw [←g2,List.set_getElem_self]
  rw [hK]; exact o
 ·rw [if_neg h0,h1]
  simp only [Vq]
  rw [if_pos ⟨trivial,hle,by
   rw [VA,hlen,VO]
   exact We (Wi _ hle) (Nat.le_add_right _ _)⟩]
  refine⟨_,rfl,jx o hq ⟨⟨by rw [bM.bK,hll],by rw [bM.bK,hll,←hlen]; exact qH⟩,.inr ⟨h0,rest,?_⟩⟩⟩
  rw [cZ,if_pos rfl]
  congr 2
  have I7:=hU (E.l (l.take s.length)) (E.l s) [] (E.l (l.drop s.length)++rest) (by rw [bM.bK,bM.bK,Wt,WL hle])
  simp only [V7,VT] at I7
  rw [←VI,←bM.hJ,WA] at I7
  rw [I7,bM.hJ,VI]
theorem I8:eu h E.n (E.fz l)=some (E.l l,l.length):=by
 simp only [eu,bM.fz]
 rw [if_pos bM.bK]
end
theorem Lv:∀l:List Int,(af.l l).all AV.bR=true:=fun l=>by
 induction l with
 | nil=>rfl
 | cons a l ih=>rw [bM.eK,List.all_append,ih]; rfl
section
variable {P:Program}{h:AHeap}{K:Mem}{i q n b:Nat}{t:TypeId}{α:Type}{E:bM α}{l:List α}{j:Int}{k:IntKind}
def Kg (l:List Int)(j:Int):Option (List Int):=if 0≤j∧j≤l.length then some (l.take j.toNat++VJ (l.length - j.toNat) 0) else none
theorem sE {l r:List Int}{j:Int}(h:Kg l j=some r):0≤j∧j≤l.length∧r=l.take j.toNat++VJ (l.length - j.toNat) 0:=by
 unfold Kg at h
 split at h
 ·rename_i g; cases h; exact⟨g.1,g.2,rfl⟩
 ·cases h
theorem I9 (T:xc P t E.n b=true)(o:Has h K)(hq:K[q]? = some (i,.sl n E.n (E.l l)))(h0:0≤j)(h1:j≤(l.length:Int)):lg P t (.rs i 0 n E.n) (some (.int k j)) none none=some (.rs i (0+j.toNat*E.n) (n - j.toNat) E.n):=by
 have hn:=cG o hq
 subst hn
 obtain⟨e,inf,g1,g2,g3,g4,g5,g6⟩:=jS T
 simp only [lg,g1,Vq,g6,if_true,ka]
 rw [if_pos ⟨h0,by omega⟩]
 simp only [Vq,Vw,VD]
def N6 (P:Program)(t:TypeId):Bool:=
 match P.underlying t with
 | some (.slice e)=>(match P.info? e with | some inf=>inf.size==1 | none=>false)&&(match iz P e with | some (.int .i64 z)=>z==0 | _=>false)
 | _=>false
theorem Ja {l r:List Int}(T:N6 P t=true)(o:Has h K)(hq:K[q]? = some (i,.sl n 1 (af.l l)))(hr:Kg l j=some r) :
  ∃h',(lj P h t (.rs i (0+j.toNat*1) (n - j.toNat) 1)).map (fun h=>(AV.tup [],h))=some (AV.tup [],h')∧Has h' (K.set q (i,.sl n 1 (af.l r))):=by
 obtain⟨h0,h1,rfl⟩:=sE hr
 unfold N6 at T
 split at T
 rotate_left
 ·cases T
 rename_i e ht
 simp only [Vu] at T
 obtain⟨T1,T2⟩:=T
 split at T1
 rotate_left
 ·cases T1
 rename_i inf hi
 split at T2
 rotate_left
 ·cases T2
 rename_i z hz
 simp only [beq_iff_eq] at T1 T2
 subst T2
 obtain⟨h',e1,o1⟩:=I6 ht hi T1 hz o hq h0 h1
 exact⟨h',by rw [e1]; rfl,o1⟩
end
section
variable {h:AHeap}{f k k2:Nat}{cs ys:List AV}
theorem sF (g:aQ k h cs ys):kr (k+1) h (.fn f cs) (.fn f ys):=fun n hn=>by
 obtain⟨m,rfl⟩:∃m,n=m+1:=⟨n - 1,by simp only [ig] at hn; omega⟩
 simp only [ck]
 rw [g m (by omega)]; rfl
theorem aQ.mono {k k':Nat}{x y:List AV}(hk:k≤k')(f:aQ k h x y):aQ k' h x y:=fun n hn=>f n (by omega)
theorem iM {xs:List AV}(f:aQ k h xs ys)(hk:k≤cE:=by decide):aQ cE h xs ys:=aQ.mono hk f
theorem Em:∀{us bs cs ys:List AV} {k1 k2:Nat},aQ k1 h us bs→aQ k2 h cs ys→aQ (k1+k2+us.length+1) h (us++cs) (bs++ys)
 | [],bs,cs,ys,k1,k2,f,g=>fun n hn=>by
  have:=f (ig+k1) (Vv _)
  have hb:bs=[]:=by
   cases hm:ig+k1 with
   | zero=>simp [ig] at hm
   | succ m=>rw [hm] at this; simp only [br,Vt] at this; exact this.symm
  subst hb
  exact g n (by omega)
 | a::us,bs,cs,ys,k1,k2,f,g=>fun n hn=>by
  have h1:=f (ig+k1) (Vv _)
  obtain⟨m,rfl⟩:∃m,n=m+1:=⟨n - 1,by simp only [ig] at hn; omega⟩
  have hb:∃b Lw,bs=b::Lw:=by
   cases hm:ig+k1 with
   | zero=>simp [ig] at hm
   | succ m=>
    rw [hm] at h1
    simp only [br,Vp,Vr] at h1
    obtain⟨y,_,zs,_,e⟩:=h1
    exact⟨y,zs,e.symm⟩
  obtain⟨b,Lw,rfl⟩:=hb
  have key:∀n',ig+k1≤n'+1→ck h n' a=some b∧br h n' us=some Lw:=fun n' Nv=>by
   have:=f (n'+1) Nv
   simp only [br,Vp,Vr] at this
   obtain⟨y,hy,zs,hz,e⟩:=this
   cases e
   exact⟨hy,hz⟩
  have f2:aQ k1 h us Lw:=fun n' Nv=>(key n' (by omega)).2
  have:=Em f2 g m (by simp only [VF] at hn; omega)
  show br h (m+1) (a::(us++cs))=some (b::(Lw++ys))
  simp only [br]
  rw [(key m (by omega)).1,this]
  rfl
theorem HV {us bs:List AV}{k:Nat}(f:aQ k h us bs)(g:aQ cE h cs ys)(hk:k≤500:=by decide)(hl:us.length≤400:=by simp):aQ bQ h (us++cs) (bs++ys):=(Em f g).mono (by
 have:k+cE+us.length+1≤cE+1001:=by omega
 exact We this (by decide))
end
theorem En {α:Type}{E:bM α}{l:List α}{h h':AHeap}{K:Mem}{q q2 i j n:Nat}{cs:List AV}{y:AV}(o:Has h K)(hq:K[q]? = some (i,.sl n E.n (E.l l)))(GV:K[q2]? = some (j,.ob cs))(e:jb 0 h (.rs i 0 n E.n)=some (y,h'))(hp:E.flat=true:=by rfl):h.ver j=h'.ver j:=by
 have hn:=cG o hq
 subst hn
 obtain⟨⟨⟨hlen,qH⟩,lR⟩,hlt⟩:=o.at_ _ _ _ hq
 obtain⟨⟨hj,_⟩,_⟩:=o.at_ _ _ _ GV
 have hne:j≠i:=by
  intro he
  subst he
  have:=o.nd _ _ _ _ _ hq GV hj
  subst this
  rw [hq] at GV
  cases GV
 simp only [jb] at e
 rcases lR with⟨h0,h1⟩| ⟨h0,rest,h1⟩
 ·rw [if_pos h0,if_pos h1] at e
  cases e; rfl
 ·rw [if_neg h0,h1] at e
  simp only [Vq] at e
  have e1:((E.l l++rest).drop 0).take (l.length*E.n)=E.l l:=by
   rw [Wa,VW (by rw [hlen]; exact Vv _),V4 (by rw [hlen]; exact Vv _)]
  rw [e1,if_pos (by rw [VA,hlen]; omega),pD (bM.nQ hp).1] at e
  cases e
  exact xy hne
end Go.R
namespace Go.R
open Go
def od (k i:Nat):Nat:=if i=0 then 0 else i+k
theorem Av {k i off n z:Nat}:cR k (.rs i off n z)=some (.rs (od k i) off n z):=by
 unfold cR od
 split<;>rfl
theorem rC {k:Nat}:cq k []=some []:=rfl
theorem gH {k:Nat}{x y:AV}{xs ys:List AV}(a:cR k x=some y)(b:cq k xs=some ys):cq k (x::xs)=some (y::ys):=by
 simp only [cq,a,b,Vq,Vw]
theorem Eo {k:Nat}{xs ys:List AV}(b:cq k xs=some ys):cR k (.agg xs)=some (.agg ys):=by
 simp only [cR,b,Vw]
theorem Jb {k:Nat}{xs ys:List AV}(b:cq k xs=some ys):cR k (.tup xs)=some (.tup ys):=by
 simp only [cR,b,Vw]
theorem mF {k:Nat}:∀{a a' b b':List AV},cq k a=some a'→cq k b=some b'→cq k (a++b)=some (a'++b')
 | [],a',b,b',h1,h2=>by simp only [cq,Vt] at h1; subst h1; exact h2
 | x::a,a',b,b',h1,h2=>by
  simp only [cq,Vp,Vr] at h1
  obtain⟨y,h3,ys,h4,rfl⟩:=h1
  exact gH h3 (mF h4 h2)
theorem nV {k:Nat}:∀{a a':List AV} (r:List AV),cq k a=some a'→fG k (a++r)=a'++fG k r
 | [],a',r,h1=>by simp only [cq,Vt] at h1; subst h1; rfl
 | x::a,a',r,h1=>by
  simp only [cq,Vp,Vr] at h1
  obtain⟨y,h3,ys,h4,rfl⟩:=h1
  have e:fG k (x::(a++r))=y::fG k (a++r):=by rw [fG,h3]
  show fG k (x::(a++r))=(y::ys)++fG k r
  rw [e,nV r h4]; rfl
theorem qA {k:Nat}:∀{a a':List AV},cq k a=some a'→a'.length=a.length
 | [],a',h1=>by simp only [cq,Vt] at h1; subst h1; rfl
 | x::a,a',h1=>by
  simp only [cq,Vp,Vr] at h1
  obtain⟨y,h3,ys,h4,rfl⟩:=h1
  rw [VF,VF,qA h4]
def N7 (k:Nat):Nat × Ct→Nat × Ct→Prop
 | (i,.sl n z cs),b=>∃fi,cq k cs=some fi∧b=(od k i,.sl n z fi)
 | (i,.ob cs),b=>∃fi,cq k cs=some fi∧b=(od k i,.ob fi)
 | _,_=>False
inductive Da (k:Nat)(L:Mem):Mem→Mem→Prop
 | nil:Da k L [] L
 | cons {a b:Nat × Ct} {K K':Mem} (e:N7 k a b) (g:Da k L K K'):Da k L (a::K) (b::K')
section
variable {k i n z:Nat}{L K K':Mem}{α:Type}{E:bM α}{l:List α}
theorem Lx (hE:∀a,cq k (E.f a)=some (E.f a)):∀l:List α,cq k (E.l l)=some (E.l l)
 | []=>rfl
 | a::l=>by rw [bM.eK]; exact mF (hE a) (Lx hE l)
theorem HW (hE:∀a,cq k (E.f a)=some (E.f a))(g:Da k L K K'):Da k L ((i,.sl n z (E.l l))::K) ((od k i,.sl n z (E.l l))::K'):=.cons ⟨_,Lx hE l,rfl⟩ g
theorem Ep:∀(ns:List aq) (ids:List Nat),cq k (gu.l (bF ns ids))=some (gu.l (bF ns (ids.map (od k))))
 | [],_=>rfl
 | a::ns,ids=>by
  have h1:(ids.map (od k)).headD 0=od k (ids.headD 0):=by cases ids<;>rfl
  have h2:(ids.map (od k)).tail=ids.tail.map (od k):=by cases ids<;>rfl
  show cq k (gu.f (a,ids.headD 0)++gu.l (bF ns ids.tail))=some (gu.f (a,(ids.map (od k)).headD 0)++gu.l (bF ns (ids.map (od k)).tail))
  rw [h1,h2]
  exact mF (gH rfl (gH rfl (gH rfl (gH Av rC)))) (Ep ns ids.tail)
theorem HX {ns:List aq}{ids:List Nat}(g:Da k L K K'):Da k L ((i,.sl n z (gu.l (bF ns ids)))::K) ((od k i,.sl n z (gu.l (bF ns (ids.map (od k)))))::K'):=.cons ⟨_,Ep ns ids,rfl⟩ g
theorem zk:∀{ns:List aq} {ids:List Nat},Da k L K K'→Da k L (gi ns ids++K) (gi ns (ids.map (od k))++K')
 | [],_,g=>g
 | a::ns,ids,g=>by
  have h1:(ids.map (od k)).headD 0=od k (ids.headD 0):=by cases ids<;>rfl
  have h2:(ids.map (od k)).tail=ids.tail.map (od k):=by cases ids<;>rfl
  show Da k L (zg (a,ids.headD 0)::(gi ns ids.tail++K)) (zg (a,(ids.map (od k)).headD 0)::(gi ns (ids.map (od k)).tail++K'))
  rw [h1,h2]
  exact HW (E:=af) (fun _=>rfl) (zk g)
end
theorem Jc {k:Nat}{L K K':Mem}(g:Da k L K K'):∃K2,K'=K2++L∧K2.length=K.length∧∀(j:Nat) b,K2[j]? = some b→∃a,K[j]? = some a∧N7 k a b:=by
 induction g with
 | nil=>exact⟨[],rfl,rfl,fun j b h=>by simp at h⟩
 | cons e g ih=>
  rename_i a b K K'
  obtain⟨K2,rfl,h2,h3⟩:=ih
  refine⟨b::K2,rfl,by rw [VF,VF,h2],fun j c hj=>?_⟩
  cases j with
  | zero=>simp only [V9,Vt] at hj; subst hj; exact⟨a,rfl,e⟩
  | succ j=>simp only [Wv] at hj ⊢; exact h3 j c hj
theorem vE {k i i':Nat}{c c':Ct}(e:N7 k (i,c) (i',c')):i'=od k i:=by
 cases c with
 | sl n z cs=>obtain⟨_,_,h⟩:=e; cases h; rfl
 | ob cs=>obtain⟨_,_,h⟩:=e; cases h; rfl
 | mp es=>exact e.elim
 | row t cs=>exact e.elim
theorem Has.eM {h h1:AHeap}{K1 K2 L:Mem}(o:Has h L)(o1:Has h1 K1)(g:Da h.next L K1 K2):Has (h.eM h1) K2:=by
 obtain⟨K3,rfl,hlen,BW⟩:=Jc g
 have hnx:(h.eM h1).next=h.next+h1.next:=rfl
 have FY:∀{i:Nat},i≠0→od h.next i=i+h.next:=fun hi=>if_neg hi
 have hget:∀{i:Nat} {cs:List AV},i≠0→h1.get i=some (.cells cs)→(h.eM h1).get (od h.next i)=some (.cells (fG h.next cs)):=fun {i cs} hi hg=>by
  rw [FY hi,(jQ (Nat.le_add_left _ _)).1,Nat.add_sub_cancel,hg]; rfl
 have hidlt:∀{i:Nat},i<h1.next→od h.next i<(h.eM h1).next:=fun {i} hi=>by
  rw [hnx]
  by_cases h0:i=0
  ·subst h0; show 0<_; have:=o.pos; omega
  ·rw [FY h0]; omega
 refine⟨fun j i c hj=>?_,fun j j' i c c' hj yx hi=>?_,by rw [hnx]; have:=o.pos; omega⟩
 ·by_cases hl:j<K3.length
  ·rw [VG hl] at hj
   obtain⟨⟨i1,c1⟩,ha,he⟩:=BW j _ hj
   obtain⟨w1,w2⟩:=o1.at_ _ _ _ ha
   cases c1 with
   | sl n z cs=>
    obtain⟨fi,h3,h4⟩:=he
    cases h4
    refine⟨⟨by rw [qA h3]; exact w1.1,?_⟩,hidlt w2⟩
    rcases w1.2 with⟨h5,h6⟩| ⟨h5,rest,h6⟩
    ·left; subst h5; exact⟨rfl,h6⟩
    ·right
     refine⟨by rw [FY h5]; omega,fG h.next rest,?_⟩
     rw [hget h5 h6,nV rest h3]
   | ob cs=>
    obtain⟨fi,h3,h4⟩:=he
    cases h4
    refine⟨⟨by rw [FY w1.1]; have:=w1.1; omega,?_⟩,hidlt w2⟩
    rw [hget w1.1 w1.2]
    have:=nV [] h3
    rw [WN] at this
    rw [this]; simp [fG]
   | mp es=>exact he.elim
   | row t cs=>exact he.elim
  ·rw [VL (by omega)] at hj
   obtain⟨w1,w2⟩:=o.at_ _ _ _ hj
   exact⟨nS (fun _=>(jf w2).1) w1,by rw [hnx]; omega⟩
 ·by_cases hl:j<K3.length<;>by_cases n6:j'<K3.length
  ·rw [VG hl] at hj
   rw [VG n6] at yx
   obtain⟨⟨i1,c1⟩,ha,he⟩:=BW j _ hj
   obtain⟨⟨i2,c2⟩,S8,S9⟩:=BW j' _ yx
   have e1:=vE he
   have e2:=vE S9
   have n1:i1≠0:=fun h0=>hi (by rw [e1,h0]; rfl)
   have n2:i2≠0:=fun h0=>hi (by rw [e2,h0]; rfl)
   rw [FY n1] at e1
   rw [FY n2] at e2
   have:i2=i1:=by omega
   subst this
   exact o1.nd _ _ _ _ _ ha S8 n1
  ·rw [VG hl] at hj
   rw [VL (by omega)] at yx
   obtain⟨⟨i1,c1⟩,ha,he⟩:=BW j _ hj
   have e1:=vE he
   have n1:i1≠0:=fun h0=>hi (by rw [e1,h0]; rfl)
   rw [FY n1] at e1
   have:=(o.at_ _ _ _ yx).2
   omega
  ·rw [VL (by omega)] at hj
   rw [VG n6] at yx
   obtain⟨⟨i1,c1⟩,ha,he⟩:=BW j' _ yx
   have e1:=vE he
   have n1:i1≠0:=fun h0=>hi (by rw [e1,h0]; rfl)
   rw [FY n1] at e1
   have:=(o.at_ _ _ _ hj).2
   omega
  ·rw [VL (by omega)] at hj yx
   have:=o.nd _ _ _ _ _ hj yx hi
   omega
theorem pM (h h1:AHeap):∀j,j<h.next→h.ver j=(h.eM h1).ver j:=fun j hj=>(jf hj).2.symm
theorem sG {P:Program}{T:nu}{m f deep:Nat}{h h':AHeap}{xs ys:List AV}{r y:AV}(h1:T.intr f=none)(h2:T.pure f=some deep)(h3:T.eM f=true)(hd:ig+bQ≤deep)(hx:aQ bQ h xs ys)(hb:a6 P T.aX (iL P T m) m f ys bz=some (r,h'))(hg:cR h.next r=some y):iL P T m f xs h=some (y,h.eM h'):=by
 refine kR ?_
 simp only [qz,h1,h2,h3,if_true,hx deep hd,Vq,hb,hg,Vw]
theorem GX {P:Program}{t:TypeId}{a b c d:Int}(h:∀a b c d:Int,mh P .eql t (.agg [.int .i64 a,.int .i64 b]) (.agg [.int .i64 c,.int .i64 d])=some (.bool (fC (.agg [.int .i64 a,.int .i64 b]) (.agg [.int .i64 c,.int .i64 d])==true))) :
  mh P .eql t (.agg [.int .i64 a,.int .i64 b]) (.agg [.int .i64 c,.int .i64 d])=some (.bool (a==c&&b==d)):=by
 rw [h]
 congr 2
 have:=lB [a,b] [c,d]
 have e:fC (.agg [.int .i64 a,.int .i64 b]) (.agg [.int .i64 c,.int .i64 d])=lh (af.l [a,b]) (af.l [c,d]):=rfl
 rw [e,this]
 by_cases h1:a=c<;>by_cases h2:b=d<;>simp [h1,h2]
theorem Has.xz {h:AHeap}{pre mid N L:Mem}(o:Has h (pre++(mid++(N++L)))):Has h (pre++(N++(mid++L))):=by
 refine o.perm (List.Perm.append_left _ ?_)
 rw [←VI,←VI]
 exact List.Perm.append_right _ List.perm_append_comm
def vF (ns:List aq)(ids:List Nat)(j:Int)(ad:Nat):List Nat:=(vB ns ids).set j.toNat ad
theorem uk:∀(ns:List aq) (ids:List Nat),bF ns (vB ns ids)=bF ns ids
 | [],_=>rfl
 | a::ns,ids=>by
  have:=uk ns ids.tail
  simp only [vB,bF,VU,List.headD_cons,List.tail_cons] at this ⊢
  rw [this]
theorem um:∀(ns:List aq) (ids:List Nat) (i:Nat) (n:aq) (ad:Nat),ns.length=ids.length→bF (ns.set i n) (ids.set i ad)=(bF ns ids).set i (n,ad)
 | [],_,_,_,_,_=>rfl
 | a::ns,[],_,_,_,h=>by simp at h
 | a::ns,j::ids,0,n,ad,_=>rfl
 | a::ns,j::ids,i+1,n,ad,h=>by
  have:=um ns ids i n ad (by simpa using h)
  simp only [List.set_cons_succ,bF,List.headD_cons,List.tail_cons,this]
theorem uo (ns:List aq)(ids:List Nat)(j:Int)(n:aq)(ad:Nat):bF (ns.set j.toNat n) (vF ns ids j ad)=(bF ns ids).set j.toNat (n,ad):=by
 unfold vF
 rw [um ns (vB ns ids) j.toNat n ad (by unfold vB; rw [VN,fQ]),uk]
section
variable {P:Program}{tf:TypeId}{h:AHeap}{pre L:Mem}{ns:List aq}{ids:List Nat}{i ad k n2 q:Nat}{j:Int}{n:aq}{args:List Int}
theorem GY (o:Has h ((i,.sl k 4 (gu.l (bF ns ids)))::(ad,.sl n2 1 (af.l args))::(pre++(gi ns ids++L))))(hs:fe P tf=some 1)(hx:ix ns j=some n) :
  ∃h',iR P h tf (.ptr i (0+j.toNat*4+3)) (.rs ad 0 n2 1)=some h'∧
   Has h' ((i,.sl k 4 (gu.l (bF (ns.set j.toNat ⟨n.kind,n.int,n.label,args⟩) (vF ns ids j ad))))::(pre++(gi (ns.set j.toNat ⟨n.kind,n.int,n.label,args⟩) (vF ns ids j ad)++L))):=by
 have hn:n2=args.length:=cG (E:=af) o (q:=1) rfl
 subst hn
 obtain⟨h0,h1,h2⟩:=gR hx
 obtain⟨h',e,o'⟩:=GF (P:=P) (tf:=tf) (E:=gu) (l:=bF ns ids) (q:=0) (off:=3) (v:=((⟨n.kind,n.int,n.label,args⟩:aq),ad)) (x:=.rs ad 0 args.length 1) o rfl hs (rB hx) rfl rfl (by decide) rfl
 refine⟨h',e,?_⟩
 have e1:(bF ns ids).set j.toNat ((⟨n.kind,n.int,n.label,args⟩:aq),ad)=bF (ns.set j.toNat ⟨n.kind,n.int,n.label,args⟩) (vF ns ids j ad):=(uo ns ids j _ ad).symm
 have e2:gi (ns.set j.toNat ⟨n.kind,n.int,n.label,args⟩) (vF ns ids j ad)=(gi ns ids).set j.toNat (zg (⟨n.kind,n.int,n.label,args⟩,ad)):=by
  unfold gi; rw [uo,List.map_set]
 rw [←e1,e2]
 have o2:Has h' ((i,.sl k 4 (gu.l ((bF ns ids).set j.toNat ((⟨n.kind,n.int,n.label,args⟩:aq),ad))))::zg (⟨n.kind,n.int,n.label,args⟩,ad)::(pre++(gi ns ids++L))):=o'
 have hl:j.toNat<(gi ns ids).length:=by unfold gi; rw [VN,fQ]; omega
 have e3:(gi ns ids).set j.toNat (zg (⟨n.kind,n.int,n.label,args⟩,ad))=(gi ns ids).take j.toNat++zg (⟨n.kind,n.int,n.label,args⟩,ad)::(gi ns ids).drop (j.toNat+1):=by
  rw [List.set_eq_take_append_cons_drop,if_pos hl]
 have e4:gi ns ids=(gi ns ids).take j.toNat++(gi ns ids)[j.toNat]::(gi ns ids).drop (j.toNat+1):=by
  conv=>lhs; rw [←WA j.toNat (gi ns ids),VE hl]
 rw [e3]
 generalize hA:(gi ns ids).take j.toNat=A at *
 generalize hB:(gi ns ids).drop (j.toNat+1)=B at *
 rw [e4] at o2
 have o3:=(o2.del (pre.length+A.length+2))
 have e5:((i,Ct.sl k 4 (gu.l ((bF ns ids).set j.toNat ((⟨n.kind,n.int,n.label,args⟩:aq),ad))))::zg (⟨n.kind,n.int,n.label,args⟩,ad)::(pre++((A++(gi ns ids)[j.toNat]::B)++L))).eraseIdx (pre.length+A.length+2)=(i,Ct.sl k 4 (gu.l ((bF ns ids).set j.toNat ((⟨n.kind,n.int,n.label,args⟩:aq),ad))))::zg (⟨n.kind,n.int,n.label,args⟩,ad)::(pre++((A++B)++L)):=by
  show _::_::(pre++((A++(gi ns ids)[j.toNat]::B)++L)).eraseIdx (pre.length+A.length)=_
  congr 2
  rw [List.eraseIdx_append_of_length_le (by omega),WD,VI,List.eraseIdx_append_of_length_le (by omega),WW]
  simp
 rw [e5] at o3
 refine o3.perm (List.Perm.cons _ ?_)
 have k1:pre++((A++zg ((⟨n.kind,n.int,n.label,args⟩:aq),ad)::B)++L)=(pre++A)++zg (⟨n.kind,n.int,n.label,args⟩,ad)::(B++L):=by simp
 have k2:pre++((A++B)++L)=(pre++A)++(B++L):=by simp
 rw [k1,k2]
 exact List.perm_middle
theorem ng:∀(ns:List aq) (ids:List Nat) (k:Nat),bF (ns.drop k) (ids.drop k)=(bF ns ids).drop k
 | ns,ids,0=>rfl
 | [],_,k+1=>by simp [bF]
 | a::ns,[],k+1=>by
  have:=ng ns [] k
  simpa [bF] using this
 | a::ns,j::ids,k+1=>by
  have:=ng ns ids k
  simpa [bF] using this
theorem Er (o:Has h (pre++(gi (ns.drop j.toNat) (ids.drop j.toNat)++L)))(hq:pre[q]? = some (i,.sl k 4 (gu.l (bF ns ids))))(hx:ix ns j=some n) :
  Has h ((Kd ids j,.sl n.args.length 1 (af.l n.args))::(pre++(gi (ns.drop (IntKind.i64.wrap (j+(1:Int))).toNat) (ids.drop (IntKind.i64.wrap (j+(1:Int))).toNat)++L))):=by
 obtain⟨h0,h1,h2⟩:=gR hx
 have Ta:q<pre.length:=(Vy.1 hq).1
 have uX:(pre++(gi (ns.drop j.toNat) (ids.drop j.toNat)++L))[q]? = some (i,.sl k 4 (gu.l (bF ns ids))):=by rw [VG Ta]; exact hq
 obtain⟨⟨⟨_,qH⟩,_⟩,_⟩:=o.at_ _ _ _ uX
 have qH:(gu.l (bF ns ids)).length≤1125899906842624:=qH
 rw [bM.bK,fQ] at qH
 have qH:ns.length*4≤1125899906842624:=qH
 have hw:(IntKind.i64.wrap (j+(1:Int))).toNat=j.toNat+1:=by
  have hm:(j+1) % 18446744073709551616=j+1:=Int.emod_eq_of_lt (by omega) (by omega)
  have:IntKind.i64.wrap (j+(1:Int))=j+1:=by
   show (if true&&decide ((j+1) % 18446744073709551616≥9223372036854775808) then (j+1) % 18446744073709551616 - 18446744073709551616 else (j+1) % 18446744073709551616)=j+1
   rw [hm]
   have:decide (j+1≥9223372036854775808)=false:=by rw [decide_eq_false_iff_not]; omega
   rw [this]; rfl
  rw [this]; omega
 rw [hw]
 have e:gi (ns.drop j.toNat) (ids.drop j.toNat)=(Kd ids j,.sl n.args.length 1 (af.l n.args))::gi (ns.drop (j.toNat+1)) (ids.drop (j.toNat+1)):=by
  unfold gi
  rw [ng,ng]
  have hz:=sB ns ids _ _ h2
  have hl:j.toNat<(bF ns ids).length:=by rw [fQ]; omega
  rw [VE hl]
  have:(bF ns ids)[j.toNat]=(n,ids.getD j.toNat 0):=(Vy.1 hz).2
  rw [this]
  rfl
 rw [e] at o
 refine o.perm ?_
 exact List.perm_middle.symm
end
end Go.R
namespace Go.Proofs.Ytifafejidnjckaa
open Go Go.R
open Go.IntKind (i64 u64 u8 u32)
structure aN where
 eh:Int
 rD:Int
 yz:Int
 dV:ByteArray
 eW:List Int
 qN:bw
structure ab where
 aj:Bool
 aa:List aq
 ae:List Int
structure bb where
 j7:Int
 ld:Int
def aH:bM aN:={n:=7,f:=fun x=>[.int .i64 x.eh,.int .i64 x.rD,.int .i64 x.yz,.str x.dV,af.fz x.eW,ai.fz x.qN.nodes,.int .i64 x.qN.root],len:=fun _=>rfl,pos:=by decide,pure:=fun x _=>pure_cons gr (pure_cons gr (pure_cons gr (pure_cons mC (pure_cons bM.bG (pure_cons bM.bG (pure_cons gr (pure_nil))))))),canon:=fun _=>rfl}
def dI:bM bb:={n:=2,f:=fun x=>[.int .i64 x.j7,.int .i64 x.ld],len:=fun _=>rfl,pos:=by decide,pure:=fun x _=>pure_cons gr (pure_cons gr (pure_nil)),canon:=fun _=>rfl}
theorem HY:xc Try.prog 22 7 96=true:=by kernel_rfl
theorem gI:xc Try.prog 33 1 8=true:=by kernel_rfl
theorem yA:xc Try.prog 40 4 56=true:=by kernel_rfl
theorem N8:xc Try.prog 93 2 16=true:=by kernel_rfl
theorem A3:fT Try.prog 3=some false:=by kernel_rfl
theorem Tb:fT Try.prog 33=some false:=by kernel_rfl
theorem Qz:fT Try.prog 40=some false:=by kernel_rfl
theorem Ly:fT Try.prog 44=some true:=by kernel_rfl
theorem F5:fT Try.prog 51=some true:=by kernel_rfl
theorem Z3:fe Try.prog 3=some 1:=by kernel_rfl
theorem Tc:fe Try.prog 33=some 1:=by kernel_rfl
theorem Lz:fe Try.prog 44=some 7:=by kernel_rfl
theorem F6:fe Try.prog 51=some 4:=by kernel_rfl
theorem U9:Try.prog.underlying 9=some .string:=by kernel_rfl
theorem LA:xi Try.prog 82=true:=by kernel_rfl
theorem Aw:xj Try.prog 113 9=true:=by kernel_rfl
theorem Es:Try.prog.underlying 113=some (.map 115 3):=by kernel_rfl
theorem uq:Cq Try.prog 115 9=true:=by kernel_rfl
theorem N9:N6 Try.prog 33=true:=by kernel_rfl
theorem Oa:∀a b c d:Int,mh Try.prog .eql 92 (.agg [.int .i64 a,.int .i64 b]) (.agg [.int .i64 c,.int .i64 d])=some (.bool (fC (.agg [.int .i64 a,.int .i64 b]) (.agg [.int .i64 c,.int .i64 d])==true)):=by
 intro a b c d
 kernel_rfl
def dP.f (m:Nat):Option Bool:=some true
def QB (cf:CallF)(m:Nat):Prop:=∀r:Bool,dP.f m=some r→∀h xs,aQ bQ h xs []→cf 11 xs h=some (.bool r,h)
def QC (cf:CallF)(m:Nat):Prop:=xr cf 38 4
def Ob (cf:CallF)(m:Nat):Prop:=xr cf 39 1
def QD (cf:CallF)(m:Nat):Prop:=HT cf 60
end Go.Proofs.Ytifafejidnjckaa
namespace Go.Proofs.Ytifafejidnjckaa
open Go Go.R
open Go.IntKind (i64 u64 u8 u32)
def xA:b5:=gV [0,2,3,7,26] [] [30,26,18,26,10,29,29] [] []
def bB.l0 (m:Nat)(l0:List aN):Nat→Int→Option (Sum Bool (Int))
 | 0,_=>none
 | k+1,i0=>if (decide (i0<(l0.length:Int)))=true then ((ix l0 i0).bind fun v0=>if (decide ((v0.qN.nodes.length:Int) > (40:Int)))=true then (some (.inl true)) else ((ix l0 i0).bind fun v1=>if (decide ((v1.eW.length:Int) > (40:Int)))=true then (some (.inl true)) else (bB.l0 m l0 k (i64.wrap (i0+(1:Int)))))) else (some (.inr i0))
def bB.f (m:Nat)(l0:List aN):Option (Bool):=(bB.l0 m l0 m (0:Int)).bind fun cg=>match cg with | .inl r0=>some r0 | .inr i1=>some (decide ((l0.length:Int) > (60:Int)))
def bB.fin (L:Mem)(r:Bool)(s:St):Prop:=∃av,aP Try.prog (s.open xA) Try.f10.results.toList=some av∧fD s.h av (.bool r)
def QE (cf:CallF)(m:Nat):Prop:=∀(l0:List aN) (r:Bool),bB.f m l0=some r→∀h xs,aQ bQ h xs [aH.fz l0]→cf 10 xs h=some (.bool r,h)
section
variable {cf:CallF}{m:Nat}
theorem bB.dy (L:Mem)(l0:List aN)   : dY Try.prog cf xA m (sub [1,0,1,0,0] (b8 Try.f10)) (fun k (σ:Int)=>bB.l0 m l0 k σ) (fun σ s=>match σ with | i0=>∃h0,s=⟨[aH.fz l0,.any,.int .i64 i0,.any,.any],[],h0⟩∧Has h0 (L)) (fun out e s=>(e = .exit 0∧∃i0,.inr i0=out∧∃GZ CB h0,s=⟨[aH.fz l0,.any,GZ,CB,.any],[],h0⟩∧Has h0 (L))∨(e = .ret∧∃r,.inl r=out∧bB.fin L r s)):=by
 refine mf (fun _=>rfl) ?_
 rintro k i0 s out ⟨h0,rfl,o0⟩ H
 have H:bB.l0 m l0 (k+1) i0=some out:=H
 refine qq <| qq <| q0 <| qc H (fun c0 H=>?_) (fun c0 H=>?_)
 ·refine qk <| qq <| qb 1 <| qq ?_
  obtain⟨v0,e0,H⟩:=bk H
  rcases iw H with⟨c1,H⟩| ⟨c1,H⟩
  ·exact qr [.v 2 (fm (k:=.i64) (E:=aH) (l:=l0) HY e0),.v 5 (sm  (E:=aH) (l:=l0) (off:=5) h0 Qz e0 rfl),.b 8 c1] <| Ke <| qq <| q0 <| qt <| Or.inr (⟨rfl,_,oi H,dv (.bool true) h0 (dq (aD))⟩)
  ·obtain⟨v1,e1,H⟩:=bk H
   refine qr [.v 2 (fm (k:=.i64) (E:=aH) (l:=l0) HY e0),.v 5 (sm  (E:=aH) (l:=l0) (off:=5) h0 Qz e0 rfl),.b 8 c1,.v 11 (fm (k:=.i64) (E:=aH) (l:=l0) HY e1),.v 13 (sm  (E:=aH) (l:=l0) (off:=4) h0 Tb e1 rfl)] <| qc H (fun c3 H=>?_) (fun c3 H=>?_)
   ·exact q1 <| qt <| Or.inr (⟨rfl,_,oi H,dv (.bool true) h0 (dq (aD))⟩)
   ·exact qk <| q0 <| ⟨i64.wrap (i0+(1:Int)),⟨h0,by kernel_rfl,o0⟩,H⟩
 ·exact qx 0 <| Or.inl (⟨rfl,i0,oi H,.int .i64 i0,.bool (decide (i0<(l0.length:Int))),h0,by kernel_rfl,o0⟩)
theorem pN {aX:FuncId→b5}(ha:aX 10=xA)  (l0:List aN)(h:AHeap)(L:Mem)  (o:Has h (L)){out:Bool}(H:bB.f m l0=some out) :
  ∃r h',a6 Try.prog aX cf m 10 [aH.fz l0] h=some (r,h')∧fD h' r (.bool out):=by
 refine au (fn:=Try.f10) ha Try.func10 (by kernel_rfl) (by kernel_rfl) ?_
 refine aK (Q:=fun s=>bB.fin L out s) (fun _ _ h=>h) ?_
 have H:_=some out:=H
 unfold bB.f at H
 show du _ cf xA m _ ⟨aH.fz l0::oc [],[],h⟩ _
 refine q1 <| qq <| qq <| q0 <| qb 0 ?_
 obtain⟨cg,e2,H⟩:=bk H
 refine ql (bB.dy L l0   (0:Int) _ _ ⟨h,by kernel_rfl,o⟩ e2) ?_
 rintro e s (⟨rfl,i1,rfl,g0,g1,h1,rfl,o1⟩| ⟨rfl,r0,rfl,zl⟩)
 ·try dsimp only at H
  obtain rfl:=oi H
  exact q1 <| qt <| ⟨.inl rfl,dv (.bool (decide ((l0.length:Int) > (60:Int)))) h1 (dq (aD))⟩
 ·try dsimp only at H
  obtain rfl:=oi H
  exact⟨.inl rfl,zl⟩
end
end Go.Proofs.Ytifafejidnjckaa
namespace Go.Proofs.Ytifafejidnjckaa
open Go Go.R
open Go.IntKind (i64 u64 u8 u32)
def xB:b5:=gV [0,1,4,5,10,14,25] [] [124,108,123,116,84,116,52,123,123] [] []
def b9.l0 (m:Nat)(a0:List Int)(b0:List Int):Nat→Int→Option (Sum Bool (Int))
 | 0,_=>none
 | k+1,i0=>if (decide (i0<(a0.length:Int)))=true then ((ix a0 i0).bind fun v0=>(ix b0 i0).bind fun v1=>if (!(v0==v1))=true then (some (.inl false)) else (b9.l0 m a0 b0 k (i64.wrap (i0+(1:Int))))) else (some (.inr i0))
def b9.f (m:Nat)(a0:List Int)(b0:List Int):Option (Bool):=if (!((a0.length:Int)==(b0.length:Int)))=true then (some false) else ((b9.l0 m a0 b0 m (0:Int)).bind fun cg=>match cg with | .inl r0=>some r0 | .inr i1=>some true)
def b9.fin (L:Mem)(r:Bool)(s:St):Prop:=∃av,aP Try.prog (s.open xB) Try.f14.results.toList=some av∧fD s.h av (.bool r)
def QF (cf:CallF)(m:Nat):Prop:=∀(a0:List Int) (b0:List Int) (r:Bool),b9.f m a0 b0=some r→∀h xs,aQ bQ h xs [af.fz a0,af.fz b0]→cf 14 xs h=some (.bool r,h)
section
variable {cf:CallF}{m:Nat}
theorem b9.dy (L:Mem)(a0:List Int)(b0:List Int)   : dY Try.prog cf xB m (sub [1,1,0,1,0,0] (b8 Try.f14)) (fun k (σ:Int)=>b9.l0 m a0 b0 k σ) (fun σ s=>match σ with | i0=>∃h0,s=⟨af.fz a0::af.fz b0 :: .any :: .int .i64 i0::rA [],[],h0⟩∧Has h0 (L)) (fun out e s=>(e = .exit 0∧∃i0,.inr i0=out∧∃oU vG LB Et h0,s=⟨[oU,vG,.any,LB,.any,Et,.any],[],h0⟩∧Has h0 (L))∨(e = .ret∧∃r,.inl r=out∧b9.fin L r s)):=by
 refine mf (fun _=>rfl) ?_
 rintro k i0 s out ⟨h0,rfl,o0⟩ H
 have H:b9.l0 m a0 b0 (k+1) i0=some out:=H
 refine qq <| qq <| q0 <| qc H (fun c1 H=>?_) (fun c1 H=>?_)
 ·refine qk <| qq <| qb 1 <| qq ?_
  obtain⟨v0,e0,H⟩:=bk H
  obtain⟨v1,e1,H⟩:=bk H
  refine qr [.v 2 (fm (k:=.i64) (E:=af) (l:=a0) gI e0),.v 3 (iS  (E:=af) (l:=a0) h0 A3 e0 rfl),.v 6 (fm (k:=.i64) (E:=af) (l:=b0) gI e1),.v 7 (iS  (E:=af) (l:=b0) h0 A3 e1 rfl)] <| qc H (fun c2 H=>?_) (fun c2 H=>?_)
  ·exact q1 <| qt <| Or.inr (⟨rfl,_,oi H,dv (.bool false) h0 (dq (aD))⟩)
  ·exact qk <| q0 <| ⟨i64.wrap (i0+(1:Int)),⟨h0,by kernel_rfl,o0⟩,H⟩
 ·exact qx 0 <| Or.inl (⟨rfl,i0,oi H,af.fz a0,af.fz b0,.int .i64 i0,.bool (decide (i0<(a0.length:Int))),h0,by kernel_rfl,o0⟩)
theorem qO {aX:FuncId→b5}(ha:aX 14=xB)  (a0:List Int)(b0:List Int)(h:AHeap)(L:Mem)  (o:Has h (L)){out:Bool}(H:b9.f m a0 b0=some out) :
  ∃r h',a6 Try.prog aX cf m 14 [af.fz a0,af.fz b0] h=some (r,h')∧fD h' r (.bool out):=by
 refine au (fn:=Try.f14) ha Try.func14 (by kernel_rfl) (by kernel_rfl) ?_
 refine aK (Q:=fun s=>b9.fin L out s) (fun _ _ h=>h) ?_
 have H:_=some out:=H
 unfold b9.f at H
 show du _ cf xB m _ ⟨af.fz a0::af.fz b0::C9 [],[],h⟩ _
 refine q1 <| qq <| qq <| q0 <| qc H (fun c0 H=>?_) (fun c0 H=>?_)
 ·obtain rfl:=oi H
  exact q1 <| qt <| ⟨.inl rfl,dv (.bool false) h (dq (aD))⟩
 ·refine qk <| qq <| qq <| q0 <| qb 0 ?_
  obtain⟨cg,e2,H⟩:=bk H
  refine ql (b9.dy L a0 b0   (0:Int) _ _ ⟨h,by kernel_rfl,o⟩ e2) ?_
  rintro e s (⟨rfl,i1,rfl,g0,g1,g2,g3,h1,rfl,o1⟩| ⟨rfl,r0,rfl,zl⟩)
  ·try dsimp only at H
   obtain rfl:=oi H
   exact q1 <| qt <| ⟨.inl rfl,dv (.bool true) h1 (dq (aD))⟩
  ·try dsimp only at H
   obtain rfl:=oi H
   exact⟨.inl rfl,zl⟩
end
end Go.Proofs.Ytifafejidnjckaa
namespace Go.Proofs.Ytifafejidnjckaa
open Go Go.R
open Go.IntKind (i64 u64 u8 u32)
end Go.Proofs.Ytifafejidnjckaa
namespace Go.Proofs.Ytifafejidnjckaa
open Go Go.R
open Go.IntKind (i64 u64 u8 u32)
def Ax:b5:=gV [0] [14000000001] [1] [] []
def iW.f (m:Nat)  : Option (ab):=some (ab.mk true ([]:List aq) ([]:List Int))
def iW.fin (L:Mem)  (r:ab)(s:St):Prop:=∃eB dQ dR:Nat,aP Try.prog (s.open Ax) Try.f26.results.toList=some (.ptr eB 0)∧Has s.h ((eB,.ob [.bool r.aj,.rs dQ 0 r.aa.length 4,.rs dR 0 r.ae.length 1])::(dQ,.sl r.aa.length 4 (ai.l r.aa))::(dR,.sl r.ae.length 1 (af.l r.ae))::L)
def QG (cf:CallF)(m:Nat):Prop:=∀ (r:ab),iW.f m  = some r→∀h L,Has h (L)→∀xs,xs.map aM=[]→∃eB dQ dR h',cf 26 xs h=some (.ptr eB 0,h')∧Has h' ((eB,.ob [.bool r.aj,.rs dQ 0 r.aa.length 4,.rs dR 0 r.ae.length 1])::(dQ,.sl r.aa.length 4 (ai.l r.aa))::(dR,.sl r.ae.length 1 (af.l r.ae))::L)
section
variable {cf:CallF}{m:Nat}
theorem sH {aX:FuncId→b5}(ha:aX 26=Ax)   (h:AHeap)(L:Mem)  (o:Has h (L)){out:ab}(H:iW.f m  = some out) :
  ∃r h',a6 Try.prog aX cf m 26 [] h=some (r,h')∧∃eB dQ dR:Nat,r = .ptr eB 0∧Has h' ((eB,.ob [.bool out.aj,.rs dQ 0 out.aa.length 4,.rs dR 0 out.ae.length 1])::(dQ,.sl out.aa.length 4 (ai.l out.aa))::(dR,.sl out.ae.length 1 (af.l out.ae))::L):=by
 refine au (fn:=Try.f26) ha Try.func26 (by kernel_rfl) (by kernel_rfl) ?_
 refine aK (Q:=fun s=>iW.fin L out s) (fun _ _ ⟨h1,eB,dQ,dR,h2,h3⟩=>⟨h1,_,h2,eB,dQ,dR,rfl,h3⟩) ?_
 have H:_=some out:=H
 unfold iW.f at H
 show du _ cf Ax m _ ⟨[.any],[none],h⟩ _
 refine q1 <| qq ?_
 have o0:Has h (((0),.sl (([]:List aq).length) 4 (ai.l ([]:List aq)))::L):=Has.nil o 4
 have o1:Has h ((((0)),.sl (([]:List Int).length) 1 (af.l ([]:List Int)))::((0),.sl (([]:List aq).length) 4 (ai.l ([]:List aq)))::L):=Has.nil o0 1
 obtain⟨aG,h0,e0,o2⟩:=fY (cs:=[.bool true,.rs (0) 0 (([]:List aq).length) 4,.rs ((0)) 0 (([]:List Int).length) 1]) o1 (by kernel_rfl)
 obtain rfl:=oi H
 exact qr [.a 1 e0] <| qt <| ⟨.inl rfl,⟨aG,(0),((0)),by kernel_rfl,he (Has.front (Has.front (Has.front o2 1 rfl) 2 rfl) 2 rfl)⟩⟩
end
end Go.Proofs.Ytifafejidnjckaa
namespace Go.Proofs.Ytifafejidnjckaa
open Go Go.R
open Go.IntKind (i64 u64 u8 u32)
def xC:b5:=gV [0,1,5,6,7,8,9] [] [70,6,66,70,70] [] []
def be.l0 (m:Nat)(aF:List Int):Nat→Int→ab→Option (Int × ab)
 | 0,_,_=>none
 | k+1,x0,s1=>if (decide (x0<(aF.length:Int)))=true then ((ix aF x0).bind fun v0=>(ix s1.ae v0).bind fun v1=>be.l0 m aF k (i64.wrap (x0+(1:Int))) (ab.mk s1.aj s1.aa (s1.ae.set v0.toNat v0))) else (some ((x0,s1)))
def be.f (m:Nat)(s0:ab)(aF:List Int):Option (ab):=(be.l0 m aF m (0:Int) s0).bind fun cg=>match cg with | (x1,s2)=>some s2
def be.fin (L:Mem)(ao:Nat)(ak:Nat)(an:Nat)(s0:ab)(aF:List Int)(r:ab)(s:St):Prop:=∃aA aB:Nat,aP Try.prog (s.open xC) Try.f32.results.toList=some (.tup [])∧Has s.h ((ao,.ob [.bool r.aj,.rs aA 0 r.aa.length 4,.rs aB 0 r.ae.length 1])::(aA,.sl r.aa.length 4 (ai.l r.aa))::(aB,.sl r.ae.length 1 (af.l r.ae))::L)
def Oc (cf:CallF)(m:Nat):Prop:=∀(s0:ab) (aF:List Int) (r:ab),be.f m s0 aF=some r→∀h L (ao:Nat) (ak:Nat) (an:Nat),Has h ((ao,.ob [.bool s0.aj,.rs ak 0 s0.aa.length 4,.rs an 0 s0.ae.length 1])::(ak,.sl s0.aa.length 4 (ai.l s0.aa))::(an,.sl s0.ae.length 1 (af.l s0.ae))::L)→∀xs,xs.map aM=[.ptr ao 0,af.fz aF]→∃aA aB h',cf 32 xs h=some (.tup [],h')∧Has h' ((ao,.ob [.bool r.aj,.rs aA 0 r.aa.length 4,.rs aB 0 r.ae.length 1])::(aA,.sl r.aa.length 4 (ai.l r.aa))::(aB,.sl r.ae.length 1 (af.l r.ae))::L)
section
variable {cf:CallF}{m:Nat}
theorem be.dy (L:Mem)(ao:Nat)(ak:Nat)(an:Nat)(s0:ab)(aF:List Int)   : dY Try.prog cf xC m (sub [1,0,0] (b8 Try.f32)) (fun k (σ:Int × ab)=>be.l0 m aF k σ.1 σ.2) (fun σ s=>match σ with | (x0,s1)=>∃aG eo h0,s=⟨[.ptr ao 0,.any,.any,af.fz aF,.int .i64 (aF.length:Int),.int .i64 x0,.any],[],h0⟩∧Has h0 ((ao,.ob [.bool s1.aj,.rs aG 0 s1.aa.length 4,.rs eo 0 s1.ae.length 1])::(aG,.sl s1.aa.length 4 (ai.l s1.aa))::(eo,.sl s1.ae.length 1 (af.l s1.ae))::L)) (fun out e s=>(e = .exit 0∧∃x0 s1,(x0,s1)=out∧∃oU G0 CB CC xD aG eo h0,s=⟨[oU,.any,.any,G0,CB,CC,xD],[],h0⟩∧Has h0 ((ao,.ob [.bool s1.aj,.rs aG 0 s1.aa.length 4,.rs eo 0 s1.ae.length 1])::(aG,.sl s1.aa.length 4 (ai.l s1.aa))::(eo,.sl s1.ae.length 1 (af.l s1.ae))::L))):=by
 refine mf (fun _=>rfl) ?_
 rintro k ⟨x0,s1⟩ s out ⟨aG,eo,h0,rfl,o0⟩ H
 have H:be.l0 m aF (k+1) x0 s1=some out:=H
 refine q1 <| qq <| qc H (fun c0 H=>?_) (fun c0 H=>?_)
 ·refine qk <| qq <| qb 1 <| qq ?_
  obtain⟨v0,e0,H⟩:=bk H
  refine qr [.v 0 (fm (k:=.i64) (E:=af) (l:=aF) gI e0),.v 1 (iS  (E:=af) (l:=aF) h0 A3 e0 rfl)] ?_
  obtain⟨v1,e1,H⟩:=bk H
  obtain⟨h1,e2,o1⟩:=fJ (P:=Try.prog) (tf:=3) (E:=af) (l:=s1.ae) (q:=2) (v:=v0) (x:=.int .i64 v0) o0 rfl Z3 e1 rfl rfl
  exact qr [.v 3 (show bl Try.prog h0 33 (.ptr ao 2)=some (.rs eo 0 s1.ae.length 1) from bV (q:=0) (cs:=[.bool s1.aj,.rs aG 0 s1.aa.length 4,.rs eo 0 s1.ae.length 1]) o0 rfl (by kernel_rfl)),.v 6 (bp (k:=.i64) (E:=af) (l:=s1.ae) (q:=2) gI o0 rfl e1),.w 7 e2] <| q0 <| ⟨(i64.wrap (x0+(1:Int)),(ab.mk s1.aj s1.aa (s1.ae.set v0.toNat v0))),⟨aG,eo,h1,(WX (b:=⟨[.ptr ao 0,.any,.any,af.fz aF,.int .i64 (aF.length:Int),.int .i64 (i64.wrap (x0+(1:Int))),.any],[],h1⟩) (by kernel_rfl) (by simp only [VC])),(by have o:Has h1 ((ao,.ob [.bool s1.aj,.rs aG 0 s1.aa.length 4,.rs eo 0 s1.ae.length 1])::(aG,.sl s1.aa.length 4 (ai.l s1.aa))::(eo,.sl s1.ae.length 1 (af.l (s1.ae.set v0.toNat v0)))::L):=o1; simpa only [VC] using o)⟩,H⟩
 ·exact qx 0 <| ⟨rfl,x0,s1,oi H,.ptr ao 0,af.fz aF,.int .i64 (aF.length:Int),.int .i64 x0,.bool (decide (x0<(aF.length:Int))),aG,eo,h0,by kernel_rfl,o0⟩
theorem lX {aX:FuncId→b5}(ha:aX 32=xC)  (s0:ab)(aF:List Int)(h:AHeap)(L:Mem)(ao:Nat)(ak:Nat)(an:Nat)  (o:Has h ((ao,.ob [.bool s0.aj,.rs ak 0 s0.aa.length 4,.rs an 0 s0.ae.length 1])::(ak,.sl s0.aa.length 4 (ai.l s0.aa))::(an,.sl s0.ae.length 1 (af.l s0.ae))::L)){out:ab}(H:be.f m s0 aF=some out) :
  ∃r h',a6 Try.prog aX cf m 32 [.ptr ao 0,af.fz aF] h=some (r,h')∧∃aA aB:Nat,r = .tup []∧Has h' ((ao,.ob [.bool out.aj,.rs aA 0 out.aa.length 4,.rs aB 0 out.ae.length 1])::(aA,.sl out.aa.length 4 (ai.l out.aa))::(aB,.sl out.ae.length 1 (af.l out.ae))::L):=by
 refine au (fn:=Try.f32) ha Try.func32 (by kernel_rfl) (by kernel_rfl) ?_
 refine aK (Q:=fun s=>be.fin L ao ak an s0 aF out s) (fun _ _ ⟨h1,aA,aB,h2,h3⟩=>⟨h1,_,h2,aA,aB,rfl,h3⟩) ?_
 have H:_=some out:=H
 unfold be.f at H
 show du _ cf xC m _ ⟨.ptr ao 0::af.fz aF::C9 [],[],h⟩ _
 refine q1 <| qb 0 ?_
 obtain⟨cg,e3,H⟩:=bk H
 refine ql (be.dy L ao ak an s0 aF   ((0:Int),s0) _ _ ⟨ak,an,h,by kernel_rfl,o⟩ e3) ?_
 rintro e s ⟨rfl,x1,s2,rfl,g0,g1,g2,g3,g4,eX,cV,h2,rfl,o2⟩
 try dsimp only at H
 obtain rfl:=oi H
 exact⟨.inr rfl,⟨eX,cV,by kernel_rfl,he o2⟩⟩
end
end Go.Proofs.Ytifafejidnjckaa
