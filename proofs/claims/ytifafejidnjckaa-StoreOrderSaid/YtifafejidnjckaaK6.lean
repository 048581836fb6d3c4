/- Part of the proof: RBuf1, RBuf2, RBuf3, RBuf4, RBuf5, RG9, RFix, RGN, RGL, RSrt, RGS, RGC, RPT, RDV, RMB, RGR, QW, Q10, Q14, Q25, Q26. -/
import Derived.Test.YtifafejidnjckaaK5
import Derived.Shelf.LaysM
import Derived.Shelf.Bytes.GrowAt
import Derived.Lib.ByteType
import Derived.Lib.BufferAt
import Derived.Lib.BufferKept
import Derived.Lib.Walk
import Derived.Lib.BufferWrite
import Derived.Lib.Hide
import Derived.WalkKit
import Derived.BigCall
import Derived.BigGuard
import Derived.KernelRfl
import Derived.Shelf.Sort.Plain
import Derived.Shelf.Slices.In.SortNone
import Derived.Shelf.Slices.CompactI
import Derived.Test.YtifafejidnjckaaProg
set_option linter.unusedVariables false
set_option linter.unusedSimpArgs false
set_option maxRecDepth 100000
open Array renaming getElem?_eq_some_iff → V4, getElem?_modify → WC
open Bool renaming and_eq_true → Vx, false_eq_true → VE, not_true → Wy, true_and → Xa
open Int renaming toNat_natCast → VF
open List renaming getElem?_eq_getElem → Vz, getElem?_eq_some_iff → VB, length_append → VD, length_cons → VH, drop_eq_getElem_cons → VI, getElem?_append_left → VJ, append_assoc → VK, length_map → VL, replicate → VM, mem_of_getElem? → VN, all_eq_true → VO, getElem?_append_right → VP, length_nil → VS, mem_cons → VT, mem_singleton → VV, map_cons → VX, mem_append → VY, eq_nil_of_length_eq_zero → VZ, map_append → V0, take_append_of_le_length → V3, take_of_length_le → V6, nil_append → V9, cons_append → Wb, getElem?_cons_zero → Wc, drop_zero → Wd, length_take → Wl, getElem?_of_mem → Wm, mem_append_left → Wn, take_append_drop → Wu, length_drop → Ww, mem_cons_of_mem → Wx, getElem?_map → Wz, getElem?_cons_succ → WE, append_nil → WN, drop_append_of_le_length → WQ
open Nat renaming le_refl → Vy, zero_add → VU, beq → Wa, mul_le_mul_right → We, lt_succ_self → Wh, le_trans → Wj, add_mul → Wv, le_succ → WI, min_eq_left → WM, lt_succ_of_lt → WO, add_sub_cancel_left → WR, ble → WX, zero_lt_one → WY, sub_self → W7
open Option renaming bind_eq_some_iff → Vt, bind_some → Vu, map_eq_some_iff → Vv, map_some → VA, getD_some → Wr
open Option.some renaming injEq → Vw, inj → Wg
open Prod.mk renaming injEq → VC
namespace Go.R
open Go Go.Proofs Go.Shelf Go.RowKit
variable {P:Program}{ρ:Ren}
end Go.R
namespace Go.R
open Go Go.Proofs Go.Shelf Go.RowKit
variable {P:Program}{ρ:Ren}
end Go.R
namespace Go.R
open Go Go.Proofs Go.Shelf Go.RowKit
variable {P:Program}{ρ:Ren}
end Go.R
namespace Go.R
open Go Go.Proofs Go.Shelf Go.RowKit
theorem Fr.none {c:Cx}{L0:Nat→Prop}(hrel:HRel c L0):Fr L0 c none0 (fun _=>0) [] ⟨fun _=>.any,fun _=>none,c.h⟩ ⟨#[],[]⟩:=
 ⟨rfl,by rw [show un L0 none0=L0 from by funext b; simp [un,none0]]; exact hrel,fun t=>by simp [SR,VR],fun k cs h=>(by cases h),fun k k' h=>(by cases h),fun t k off _ h=>(by cases h),rfl,fun b h=>h.elim⟩
end Go.R
namespace Go.R
open Go Go.Proofs Go.Shelf Go.RowKit
theorem intr_cons {P:Program}{f0:FuncId}{g0:List AV→AHeap→Option (AV × AHeap)}{intr:FuncId→Option (List AV→AHeap→Option (AV × AHeap))}(h0:CallOK P fun f' args h=>if f'=f0 then g0 args h else none)
  (hs:∀args h r h',g0 args h=some (r,h')→Steady h h') (h:IntrOK P intr):IntrOK P fun f=>if f=f0 then some g0 else intr f:=by
 intro f g hg
 dsimp only at hg
 split at hg
 ·rename_i hf
  subst hf
  cases hg
  exact⟨h0,hs⟩
 ·exact h f g hg
end Go.R
namespace Go.R
open Go
section
variable {h:AHeap}{L:Mem}{e:TypeId}{id i:Nat}{bs news r:List Int}{c:Int}{s:ByteArray}
variable {cf:CallF}{f:FuncId}
end
def jn {α β:Type}(b:α→Option β)(a:(α→Option β)→Option β):Option β:=a b
theorem lA {α β:Type}{b:α→Option β}{a:(α→Option β)→Option β}{out:β}(H:jn b a=some out):∃j:α→Option β,(∀x,j x=b x)∧a j=some out:=⟨b,fun _=>rfl,H⟩
section
variable {P:Program}{cf:CallF}{A:b5}{m:Nat}{s:St}{Q:Ex→St→Prop}
theorem er {c:Code}(fs:List (AV × AHeap))(zs:Gd)(jg:St)(p:Prop)(h:mz P cf A c fs zs s=some (p,jg))(hp:p)(hQ:Q .norm jg):dp P cf A m c s Q:=xe h hp hQ
end
theorem bh {α β:Type}{o:Option α}{f:α→Option β}{b:β}(h:o.bind f=some b):∃a,o=some a∧f a=some b:=Vt.1 h
theorem Tc {α:Type}{c:Bool}{a b z:α}(h:c=true)(H:(if c=true then a else b)=z):a=z:=(if_pos h).symm.trans H
theorem Td {α:Type}{c:Bool}{a b z:α}(h:c=false)(H:(if c=true then a else b)=z):b=z:=(if_neg (GP h)).symm.trans H
abbrev sv (l:List AV):List AV:=.any :: .any :: .any::l
abbrev og (l:List AV):List AV:=.any :: .any :: .any :: .any::l
abbrev Ap (l:List AV):List AV:=.any :: .any :: .any :: .any :: .any::l
abbrev xo (l:List AV):List AV:=.any :: .any :: .any :: .any :: .any :: .any::l
abbrev H9 (l:List AV):List AV:=.any :: .any :: .any :: .any :: .any :: .any :: .any::l
abbrev Aq (l:List AV):List AV:=.any :: .any :: .any :: .any :: .any :: .any :: .any :: .any::l
abbrev Te (l:List AV):List AV:=.any :: .any :: .any :: .any :: .any :: .any :: .any :: .any :: .any::l
abbrev LA (l:List AV):List AV:=.any :: .any :: .any :: .any :: .any :: .any :: .any :: .any :: .any :: .any::l
abbrev tI (l:List AV):List AV:=.any :: .any :: .any :: .any :: .any :: .any :: .any :: .any :: .any :: .any :: .any::l
abbrev vC (l:List AV):List AV:=.any :: .any :: .any :: .any :: .any :: .any :: .any :: .any :: .any :: .any :: .any :: .any::l
abbrev qP (l:List AV):List AV:=.any :: .any :: .any :: .any :: .any :: .any :: .any :: .any :: .any :: .any :: .any :: .any :: .any::l
abbrev vD (l:List AV):List AV:=.any :: .any :: .any :: .any :: .any :: .any :: .any :: .any :: .any :: .any :: .any :: .any :: .any :: .any::l
abbrev N8 (l:List AV):List AV:=.any :: .any :: .any :: .any :: .any :: .any :: .any :: .any :: .any :: .any :: .any :: .any :: .any :: .any :: .any::l
abbrev GX (l:List AV):List AV:=.any :: .any :: .any :: .any :: .any :: .any :: .any :: .any :: .any :: .any :: .any :: .any :: .any :: .any :: .any :: .any::l
abbrev N9 (l:List AV):List AV:=.any :: .any :: .any :: .any :: .any :: .any :: .any :: .any :: .any :: .any :: .any :: .any :: .any :: .any :: .any :: .any :: .any::l
abbrev Oa (l:List AV):List AV:=.any :: .any :: .any :: .any :: .any :: .any :: .any :: .any :: .any :: .any :: .any :: .any :: .any :: .any :: .any :: .any :: .any :: .any :: .any :: .any::l
abbrev Ob (l:List AV):List AV:=.any :: .any :: .any :: .any :: .any :: .any :: .any :: .any :: .any :: .any :: .any :: .any :: .any :: .any :: .any :: .any :: .any :: .any :: .any :: .any :: .any::l
abbrev Oc (l:List AV):List AV:=.any :: .any :: .any :: .any :: .any :: .any :: .any :: .any :: .any :: .any :: .any :: .any :: .any :: .any :: .any :: .any :: .any :: .any :: .any :: .any :: .any :: .any :: .any::l
abbrev Od (l:List AV):List AV:=.any :: .any :: .any :: .any :: .any :: .any :: .any :: .any :: .any :: .any :: .any :: .any :: .any :: .any :: .any :: .any :: .any :: .any :: .any :: .any :: .any :: .any :: .any :: .any :: .any::l
abbrev Oe (l:List AV):List AV:=.any :: .any :: .any :: .any :: .any :: .any :: .any :: .any :: .any :: .any :: .any :: .any :: .any :: .any :: .any :: .any :: .any :: .any :: .any :: .any :: .any :: .any :: .any :: .any :: .any :: .any :: .any::l
abbrev Of (l:List AV):List AV:=.any :: .any :: .any :: .any :: .any :: .any :: .any :: .any :: .any :: .any :: .any :: .any :: .any :: .any :: .any :: .any :: .any :: .any :: .any :: .any :: .any :: .any :: .any :: .any :: .any :: .any :: .any :: .any :: .any::l
abbrev Og (l:List AV):List AV:=.any :: .any :: .any :: .any :: .any :: .any :: .any :: .any :: .any :: .any :: .any :: .any :: .any :: .any :: .any :: .any :: .any :: .any :: .any :: .any :: .any :: .any :: .any :: .any :: .any :: .any :: .any :: .any :: .any :: .any :: .any :: .any :: .any :: .any::l
end Go.R
namespace Go.R
open Go
def tJ {X:Type}(F:CallF→Option X):Prop:=∀cf x,F cf=some x→∃l:List (FuncId × List AV × AHeap × (AV × AHeap)),(∀e∈l,cf e.1 e.2.1 e.2.2.1=some e.2.2.2)∧∀Ar:CallF,(∀e∈l,Ar e.1 e.2.1 e.2.2.1=some e.2.2.2)→F Ar=some x
theorem bp {X:Type}(x:Option X):tJ fun _=>x:=by
 intro cf y h
 refine⟨[],?_,fun _ _=>h⟩
 intro e he; cases he
theorem Ei (f:FuncId)(args:List AV)(h:AHeap):tJ fun cf=>cf f args h:=by
 intro cf x hx
 refine⟨[(f,args,h,x)],?_,fun Ar h'=>h' (f,args,h,x) (VV.2 rfl)⟩
 intro e he; cases (VV.1 he); exact hx
theorem dU {X Y:Type}{F:CallF→Option X}{G:X→CallF→Option Y}(hF:tJ F)(hG:∀y,tJ (G y)):tJ fun cf=>(F cf).bind fun y=>G y cf:=fun cf z hz=>by
 obtain⟨y,h1,h2⟩:=Vt.1 hz
 obtain⟨l1,a1,b1⟩:=hF cf y h1
 obtain⟨l2,a2,b2⟩:=hG y cf z h2
 refine⟨l1++l2,fun e he=>(VY.1 he).elim (a1 e) (a2 e),fun Ar h'=>?_⟩
 have e1:=b1 Ar fun e he=>h' e (Wn _ he)
 have e2:=b2 Ar fun e he=>h' e (List.mem_append_right _ he)
 show (F Ar).bind _=_
 rw [e1,Vu,e2]
theorem vE {X Y:Type}{F:CallF→Option X}{g:X→Y}(hF:tJ F):tJ fun cf=>(F cf).map g:=by
 intro cf x hx
 obtain⟨y,h1,h2⟩:=Vv.1 hx
 obtain⟨l,a,b⟩:=hF cf y h1
 refine⟨l,a,fun Ar h'=>?_⟩
 show (F Ar).map g=some x
 rw [b Ar h',VA,h2]
theorem jz {X:Type}{c:Prop}[Decidable c]{F G:CallF→Option X}(hF:tJ F)(hG:tJ G):tJ fun cf=>if c then F cf else G cf:=by
 by_cases h:c
 ·simp only [h,if_true]; exact hF
 ·simp only [h,if_false]; exact hG
section
variable {P:Program}{aE ds:List Nat}
theorem oR {X:Type}{F:CallF→Option X}(h:∀cf Ar,F cf=F Ar):tJ F:=by
 intro cf x hx
 refine⟨[],?_,fun Ar _=>(h Ar cf).trans hx⟩
 intro e he; cases he
theorem As (e:Operand→AV)(s:RS)(o:Oper):tJ fun cf=>yJ P cf aE ds e s o:=by
 obtain⟨dst,op,type,pos,after,guard⟩:=o
 cases op with
 | call c=>
  obtain⟨callee,args,at_⟩:=c
  cases callee with
  | value f=>
   simp only [yJ]
   cases e f with
   | fn f cap=>exact jz (vE (dU (Ei _ _ _) fun y=>bp _)) (bp _)
   | _=>exact bp _
  | _=>exact oR fun _ _=>rfl
 | makeFunc fn first cap=>cases fn<;>exact oR fun _ _=>rfl
 | makeMap t r=>cases r<;>exact oR fun _ _=>rfl
 | _=>exact oR fun _ _=>rfl
theorem Cy (ops:List Oper)(s:RS)(o:Oper):tJ fun cf=>mg P cf aE ops s o:=by
 refine dU (bp (gR ops s.ρ o)) fun w=>?_
 exact jz (As _ _ _) (bp _)
theorem xp (ops:List Oper):∀(os:List Oper) (s:RS),tJ fun cf=>qI P cf aE ops s os
 | [],s=>bp _
 | o::os,s=>dU (Cy ops s o) fun s'=>xp ops os s'
theorem xq (ops:List Oper):∀(os:List Oper) (s:RS),tJ fun cf=>ov P cf aE ops s os
 | [],s=>bp _
 | o::os,s=>dU (bp (gR ops s.ρ o)) fun w=>dU (jz (As _ _ _) (bp _)) fun s1=>vE (xq ops os s1)
theorem zd (ops:Array Oper)(s:RS):tJ fun cf=>jH P cf aE ops s:=by
 unfold jH
 exact jz (dU (xq _ _ _) fun x=>bp _) (bp _)
theorem uo {f:CallF→St→Option (Ex × St)}(hf:∀s,tJ fun cf=>f cf s):∀(n:Nat) (s:St),tJ fun cf=>kF (f cf) n s
 | 0,s=>bp _
 | n+1,s=>dU (hf s) fun x=>by
  obtain⟨x,s'⟩:=x
  cases x with
  | norm=>exact uo hf n s'
  | _=>exact bp _
theorem iX (A:b5)(n:Nat):∀(c:Code) (s:St),tJ fun cf=>bJ P cf A n c s
 | .skip,s=>by simp only [bJ]; exact bp _
 | .label _,s=>by simp only [bJ]; exact bp _
 | .ret,s=>by simp only [bJ]; exact bp _
 | .exit _,s=>by simp only [bJ]; exact bp _
 | .seq a b,s=>by
  simp only [bJ]
  exact dU (iX A n a s) fun x=>by
   obtain⟨x,s'⟩:=x
   cases x with
   | norm=>exact iX A n b s'
   | _=>exact bp _
 | .cond k x y,s=>by
  simp only [bJ]
  exact dU (bp _) fun t=>jz (iX A n x s) (iX A n y s)
 | .block id b,s=>by simp only [bJ]; exact vE (iX A n b s)
 | .loop b,s=>by simp only [bJ]; exact uo (fun s=>iX A n b s) n s
 | .region r ops draw,s=>by
  simp only [bJ]
  exact dU (bp _) fun s=>dU (jz (zd _ _) (xp _ _ _)) fun s'=>bp _
 | .rangeFunc ..,s=>by simp only [bJ]; exact bp _
 | .scope _,s=>by simp only [bJ]; exact bp _
 | .goto _,s=>by simp only [bJ]; exact bp _
 | .refuse _,s=>by simp only [bJ]; exact bp _
theorem jE (aV:FuncId→b5)(m:Nat)(f:FuncId)(args:List AV)(h:AHeap):tJ fun cf=>aZ P aV cf m f args h:=by
 unfold aZ
 refine dU (bp _) fun fn=>dU (bp _) fun c=>jz (dU (iX _ _ _ _) fun x=>bp _) (bp _)
end
def qE (P:Program)(T:ny)(m:Nat)(cf:CallF):CallF:=fun f args h=>
 match T.intr f with
 | some g=>g args h
 | none=>
  match T.pure f with
  | some deep=>if T.eG f then (bq h deep args).bind fun us=>(aZ P T.aV cf m f us bu).bind fun x=>(cR h.next x.1).map fun r=>(r,h.eG x.2) else
    if cH args then (aZ P T.aV cf m f (dn args) bu).bind fun x=>(cb x.2 deep x.1).map fun r=>(r,h) else
    match bq h deep args with
    | some zs=>(aZ P T.aV cf m f zs bu).bind fun x=>(fS x.2 deep x.1).map fun r=>(r,h)
    | none=>aZ P T.aV cf m f (args.map aK) h
  | none=>aZ P T.aV cf m f (args.map aK) h
section
variable {P:Program}{T:ny}{m:Nat}
theorem uq (f:FuncId)(args:List AV)(h:AHeap):tJ fun cf=>qE P T m cf f args h:=by
 unfold qE
 cases T.intr f with
 | some g=>exact bp _
 | none=>
  cases T.pure f with
  | none=>exact jE _ _ _ _ _
  | some deep=>
   refine jz (dU (bp _) fun us=>dU (jE _ _ _ _ _) fun x=>bp _) ?_
   refine jz (dU (jE _ _ _ _ _) fun x=>bp _) ?_
   cases bq h deep args with
   | none=>exact jE _ _ _ _ _
   | some zs=>exact dU (jE _ _ _ _ _) fun x=>bp _
theorem sw:∀(n:Nat) (f:FuncId) (args:List AV) (h:AHeap) (x:AV × AHeap),eH P T m n f args h=some x→eH P T m (n+1) f args h=some x
 | 0,f,args,h,x,hc=>by simp [eH] at hc
 | n+1,f,args,h,x,hc=>by
  obtain⟨l,h1,h2⟩:=uq (P:=P) (T:=T) (m:=m) f args h _ _ hc
  exact h2 (eH P T m (n+1)) fun e he=>sw n _ _ _ _ (h1 e he)
theorem oS {n k:Nat}(hk:n≤k){f:FuncId}{args:List AV}{h:AHeap}{x:AV × AHeap}(hc:eH P T m n f args h=some x):eH P T m k f args h=some x:=by
 induction hk with
 | refl=>exact hc
 | step _ ih=>exact sw _ _ _ _ _ ih
open Classical in
noncomputable def iO (P:Program)(T:ny)(m:Nat):CallF:=fun f args h=>if H:∃x n,eH P T m n f args h=some x then some (Classical.choose H) else none
theorem kO {f:FuncId}{args:List AV}{h:AHeap}{x:AV × AHeap}:iO P T m f args h=some x↔∃n,eH P T m n f args h=some x:=by
 have key:∀(H:∃x n,eH P T m n f args h=some x) (n:Nat),eH P T m n f args h=some x→Classical.choose H=x:=fun H n hn=>by
  obtain⟨k,hk⟩:=Classical.choose_spec H
  have h1:=oS (Nat.le_max_left n k) hn
  have h2:=oS (Nat.le_max_right n k) hk
  rw [h1] at h2
  exact (Wg h2).symm
 unfold iO
 constructor
 ·intro hc
  split at hc
  ·rename_i H
   obtain⟨n,hn⟩:=Classical.choose_spec H
   cases hc
   exact⟨n,hn⟩
  ·cases hc
 ·rintro⟨n,hn⟩
  have H:∃x n,eH P T m n f args h=some x:=⟨x,n,hn⟩
  rw [dif_pos H,key H n hn]
theorem Cz (l:List (FuncId × List AV × AHeap × (AV × AHeap)))(hl:∀e∈l,iO P T m e.1 e.2.1 e.2.2.1=some e.2.2.2):∃n,∀e∈l,eH P T m n e.1 e.2.1 e.2.2.1=some e.2.2.2:=by
 induction l with
 | nil=>exact⟨0,fun e he=>by cases he⟩
 | cons a l ih=>
  obtain⟨n,hn⟩:=ih fun e he=>hl e (Wx _ he)
  obtain⟨k,hk⟩:=kO.1 (hl a List.mem_cons_self)
  refine⟨max n k,fun e he=>?_⟩
  rcases VT.1 he with rfl | he
  ·exact oS (Nat.le_max_right n k) hk
  ·exact oS (Nat.le_max_left n k) (hn e he)
theorem kP {f:FuncId}{args:List AV}{h:AHeap}{x:AV × AHeap}(hc:qE P T m (iO P T m) f args h=some x):iO P T m f args h=some x:=by
 obtain⟨l,h1,h2⟩:=uq (P:=P) (T:=T) (m:=m) f args h _ _ hc
 obtain⟨n,hn⟩:=Cz l h1
 exact kO.2 ⟨n+1,h2 (eH P T m n) hn⟩
theorem Ej (hP:Fit P)(qB:IntrOK P T.intr):CallOK P (iO P T m):=fun f args h r h' hc=>by
 obtain⟨n,hn⟩:=kO.1 hc
 exact oM hP qB m n f args h r h' hn
theorem aW:Has bu []:=⟨fun j i c h=>by simp at h,fun j j' i c c' h=>by simp at h,WY⟩
end
section
variable {P:Program}{T:ny}{m f deep:Nat}{h:AHeap}{xs ys:List AV}{y:AV}{x:AV × AHeap}
theorem GY (h1:T.intr f=none)(h2:T.pure f=some deep)(h3:T.eG f=false)(hd:ik+bR≤deep)(hx:xk xs ys)(hb:∃r h',aZ P T.aV (iO P T m) m f ys bu=some (r,h')∧N4 h' r y):iO P T m f xs h=some (y,h):=by
 obtain⟨r,h',hb,hf⟩:=hb
 refine kP ?_
 have hd:ik+4503599627370496≤deep:=Wj (Nat.add_le_add_left (by decide) _) hd
 simp only [qE,h1,h2,h3,VE,if_false,hx.1,if_true,hx.2,hb,Vu,hf deep hd,VA]
theorem bk (h1:T.intr f=none)(h2:T.pure f=some deep)(h3:T.eG f=false)(hd:ik+bR≤deep)(hx:aO bR h xs ys)(hb:∃r h',aZ P T.aV (iO P T m) m f ys bu=some (r,h')∧fA h' r y):iO P T m f xs h=some (y,h):=by
 have h4:=hx deep hd
 have Gb:ik+4503599627370496≤deep:=Wj (Nat.add_le_add_left (by decide) _) hd
 by_cases hn:cH xs=true
 ·have:=gI deep xs ys hn h4
  obtain⟨r,h',hb,hf⟩:=hb
  exact GY h1 h2 h3 hd ⟨hn,this.symm⟩ ⟨r,h',hb,hf.Gp⟩
 ·obtain⟨r,h',hb,hf⟩:=hb
  refine kP ?_
  simp only [qE,h1,h2,h3,VE,if_false,hn,h4,hb,Vu,hf deep Gb,VA]
theorem gy (h1:T.intr f=none)(h2:T.pure f=none)(hx:xs.map aK=ys)(hb:aZ P T.aV (iO P T m) m f ys h=some x):iO P T m f xs h=some x:=by
 refine kP ?_
 simp only [qE,h1,h2,hx,hb]
theorem GZ {g:List AV→AHeap→Option (AV × AHeap)}(h1:T.intr f=some g)(hx:g xs h=some x):iO P T m f xs h=some x:=by
 refine kP ?_
 simp only [qE,h1,hx]
theorem sy {g:List AV→AHeap→Option (AV × AHeap)}(h1:T.intr f=some g):iO P T m f xs h=g xs h:=by
 cases hg:g xs h with
 | some x=>exact GZ h1 hg
 | none=>
  cases hc:iO P T m f xs h with
  | none=>rfl
  | some x=>
   obtain⟨n,hn⟩:=kO.1 hc
   cases n with
   | zero=>simp [eH] at hn
   | succ n=>simp only [eH,h1,hg] at hn; cases hn
end
end Go.R
namespace Go.R
open Go
def bF:List aq→List Nat→List (aq × Nat)
 | [],_=>[]
 | n::ns,ids=>(n,ids.headD 0)::bF ns ids.tail
def Ks (ids:List Nat)(i:Int):Nat:=ids.getD i.toNat 0
def vF (ns:List aq)(ids:List Nat):List Nat:=(bF ns ids).map fun p=>p.2
def gj:bL (aq × Nat):={n:=4,f:=fun x=>[.int .i64 x.1.kind,.int .i64 x.1.int,.str x.1.label,.rs x.2 0 x.1.args.length 1],len:=fun _=>rfl,pos:=by decide,flat:=false,pure:=fun _ h=>(by cases h),canon:=fun _=>rfl}
def ze (p:aq × Nat):Nat × Ct:=(p.2,.sl p.1.args.length 1 (af.l p.1.args))
def gd (ns:List aq)(ids:List Nat):Mem:=(bF ns ids).map ze
theorem fN:∀(ns:List aq) (ids:List Nat),(bF ns ids).length=ns.length
 | [],_=>rfl
 | n::ns,ids=>by simp [bF,fN ns]
theorem zf (ids:List Nat):ids.headD 0=ids.getD 0 0:=by cases ids<;>rfl
theorem CA (ids:List Nat)(i:Nat):ids.tail.getD i 0=ids.getD (i+1) 0:=by cases ids<;>simp
theorem sA:∀(ns:List aq) (ids:List Nat) (i:Nat) (n:aq),ns[i]? = some n→(bF ns ids)[i]? = some (n,ids.getD i 0)
 | [],_,i,n,h=>by simp at h
 | a::ns,ids,0,n,h=>by
  simp only [Wc,Vw] at h
  subst h
  show (some (a,ids.headD 0):Option (aq × Nat))=some (a,ids.getD 0 0)
  rw [zf]
 | a::ns,ids,i+1,n,h=>by
  simp only [WE] at h
  have:=sA ns ids.tail i n h
  simp only [bF,WE,this,CA]
theorem rE {ns:List aq}{ids:List Nat}{i:Int}{n:aq}(h:ix ns i=some n):ix (bF ns ids) i=some (n,Ks ids i):=by
 obtain⟨h0,h1,h2⟩:=gT h
 unfold ix Ks
 rw [if_pos h0,sA ns ids _ _ h2]
theorem sB:∀(ns:List aq) (ids:List Nat) (n:aq) (ad:Nat),bF (ns++[n]) (vF ns ids++[ad])=bF ns ids++[(n,ad)]
 | [],ids,n,ad=>rfl
 | a::ns,ids,n,ad=>by
  have:=sB ns ids.tail n ad
  simp only [vF,bF,VX,Wb,List.headD_cons,List.tail_cons] at this ⊢
  rw [this]
theorem G0 (ns:List aq)(ids:List Nat)(n:aq)(ad:Nat):gd (ns++[n]) (vF ns ids++[ad])=gd ns ids++[ze (n,ad)]:=by
 unfold gd; rw [sB,V0]; rfl
theorem Has.perm {h:AHeap}{K K':Mem}(o:Has h K)(p:K'.Perm K):Has h K':=by
 have hP:K.Pairwise fun a b=>a.1≠0→a.1≠b.1:=by
  rw [List.pairwise_iff_getElem]
  intro i j hi hj yv h0 he
  have:=o.nd i j K[i].1 K[i].2 K[j].2 (by rw [Vz hi]) (by rw [Vz hj,he]) h0
  omega
 have Oh:K'.Pairwise fun a b=>a.1≠0→a.1≠b.1:=(p.pairwise_iff (fun {a b} h h0 he=>h (by rw [←he]; exact h0) he.symm)).2 hP
 rw [List.pairwise_iff_getElem] at Oh
 refine⟨fun j i c hj=>?_,fun j j' i c c' hj yu h0=>?_,o.pos⟩
 ·obtain⟨j',yu⟩:=Wm (p.mem_iff.1 (VN hj))
  exact o.at_ j' i c yu
 ·obtain⟨a1,a2⟩:=VB.1 hj
  obtain⟨b1,b2⟩:=VB.1 yu
  rcases Nat.lt_trichotomy j j' with hl | hl | hl
  ·have:=Oh j j' a1 b1 hl
   rw [a2,b2] at this
   exact absurd rfl (this h0)
  ·exact hl
  ·have:=Oh j' j b1 a1 hl
   rw [a2,b2] at this
   exact absurd rfl (this h0)
section
variable {P:Program}{t t2 tf:TypeId}{h:AHeap}{pre L:Mem}{ns r:List aq}{ids:List Nat}{i ad k n2:Nat}{j a v:Int}{n:aq}
theorem Has.gone (o:Has h (pre++(gd ns ids++L))):Has h (pre++L):=by
 refine o.sub (fun q=>if q<pre.length then q else q+(gd ns ids).length) (fun q p hq=>?_) (fun q q' he=>?_)
 ·by_cases hl:q<pre.length
  ·rw [VJ hl] at hq
   rw [if_pos hl,VJ hl]; exact hq
  ·rw [VP (by omega)] at hq
   rw [if_neg hl,VP (by omega),VP (by omega),←hq]
   congr 1; omega
 ·split at he<;>split at he<;>omega
theorem I9 {b:Nat}{kind int:Int}{label:ByteArray}{args:List Int}{x:AV}(T:tu P t 4 b=true)(o:Has h ((i,.sl k 4 (gj.l (bF ns ids)))::(ad,.sl n2 1 (af.l args))::(pre++(gd ns ids++L))))
  (hx:eJ h 4 x=some ([.int .i64 kind,.int .i64 int,.str label,.rs ad 0 n2 1],1)) (gB:iD P t2 x=true) (hr:app b ns [⟨kind,int,label,args⟩]=some r) :
  ∃i' LB h',dA P h t t2 (.rs i 0 k 4) x=some (.rs i' 0 r.length 4,h')∧Has h' ((i',.sl r.length 4 (gj.l (bF r LB)))::(pre++(gd r LB++L))):=by
 have hn:n2=args.length:=ck (E:=af) o (q:=1) rfl
 subst hn
 obtain⟨_,_,rfl⟩:=xg hr
 have y5:app b (bF ns ids) [((⟨kind,int,label,args⟩:aq),ad)]=some (bF ns ids++[((⟨kind,int,label,args⟩:aq),ad)]):=by
  unfold app at hr ⊢
  rw [fN]
  split at hr
  ·rename_i hh
   simp only [VH,VS] at hh ⊢
   rw [if_pos hh]
  ·cases hr
 have GA:eJ h gj.n x=some (gj.l [((⟨kind,int,label,args⟩:aq),ad)],[((⟨kind,int,label,args⟩:aq),ad)].length):=hx
 obtain⟨i',h',e,o'⟩:=gH (E:=gj) (l:=bF ns ids) (q:=0) T o rfl GA gB y5
 have e:dA P h t t2 (.rs i 0 k 4) x=some (.rs i' 0 (bF ns ids++[((⟨kind,int,label,args⟩:aq),ad)]).length 4,h'):=e
 refine⟨i',vF ns ids++[ad],h',?_,?_⟩
 ·rw [e,VD,VD,fN]; rfl
 ·rw [G0,sB]
  have o':Has h' ((i',.sl (bF ns ids++[((⟨kind,int,label,args⟩:aq),ad)]).length 4 (gj.l (bF ns ids++[((⟨kind,int,label,args⟩:aq),ad)])))::ze (⟨kind,int,label,args⟩,ad)::(pre++(gd ns ids++L))):=o'
  have el:(ns++[(⟨kind,int,label,args⟩:aq)]).length=(bF ns ids++[((⟨kind,int,label,args⟩:aq),ad)]).length:=by
   rw [VD,VD,fN]; rfl
  rw [el]
  refine o'.perm (List.Perm.cons _ ?_)
  have k1:pre++((gd ns ids++[ze ((⟨kind,int,label,args⟩:aq),ad)])++L)=(pre++gd ns ids)++ze (⟨kind,int,label,args⟩,ad)::L:=by simp
  have k2:pre++(gd ns ids++L)=(pre++gd ns ids)++L:=by simp
  rw [k1,k2]
  exact List.perm_middle
def cE:Nat:=2251799813685248
end
end Go.R
namespace Go.R
open Go
inductive wu
 | b (i:Nat) {x y:Bool} (h:x=y)
 | v (i:Nat) {e:Option AV} {z:AV} (h:e=some z)
 | w (i:Nat) {e:Option AHeap} {g:AHeap} (h:e=some g)
 | a (i:Nat) {e:Option (AV × AHeap)} {z:AV} {g:AHeap} (h:e=some (z,g))
 | m (i:Nat) {e:AV × AHeap} {z:AV} {g:AHeap} (h:e=(z,g))
def wu.Tf:wu→Nat × AV × Option AHeap
 | @b i x y h=>(i,.bool y,none)
 | @v i e z h=>(i,z,none)
 | @w i e g h=>(i,.any,some g)
 | @a i e z g h=>(i,z,some g)
 | @m i e z g h=>(i,z,some g)
def wu.fr:wu→AV × AHeap
 | @a i e z g h=>(z,g)
 | _=>(.any,bu)
def wu.p:wu→Prop
 | @b i x y h=>AV.bool x=AV.bool y
 | @v i e z h=>e=some z
 | @w i e g h=>e=some g
 | @a i e z g h=>e=some (z,g)
 | @m i e z g h=>e=(z,g)
theorem wu.ok:∀g:wu,g.p
 | @b i x y h=>congrArg AV.bool h
 | @v i e z h=>h
 | @w i e g h=>h
 | @a i e z g h=>h
 | @m i e z g h=>h
def xr:List wu→Gd
 | []=>[]
 | g::gs=>g.Tf::xr gs
def CB:List wu→List (AV × AHeap)
 | []=>[]
 | g::gs=>g.fr::CB gs
def ps:List wu→Prop
 | []=>True
 | g::gs=>g.p∧ps gs
theorem xt:∀gs,ps gs
 | []=>trivial
 | g::gs=>⟨g.ok,xt gs⟩
def cA:Code→Code
 | .seq a _=>a
 | .cond _ a _=>a
 | .block _ a=>a
 | .loop a=>a
 | _=>.skip
def cB:Code→Code
 | .seq _ b=>b
 | .cond _ _ b=>b
 | _=>.skip
def kd:Code→Nat
 | .skip=>0
 | .ret=>1
 | .seq _ _=>2
 | .loop _=>3
 | _=>9
def Oi:Code→Option Nat
 | .exit i=>some i
 | _=>none
def Oj:Code→Option Nat
 | .block i _=>some i
 | _=>none
def Ol (A:b5)(c:Code)(s:St):Option AV:=
 match c with
 | .cond k _ _=>some (bK (s.open A).ρ k)
 | _=>none
def nx (P:Program)(cf:CallF)(A:b5)(c:Code)(fs gs:List wu)(s:St):St:=((mz P cf A c (CB fs) (xr gs) s).map (·.2)).getD s
section
variable {P:Program}{cf:CallF}{A:b5}{m:Nat}{c:Code}{s:St}{Q R:Ex→St→Prop}
theorem Kt (fs gs:List wu)(hQ:Q .norm (nx P cf A c fs gs s))(h:(mz P cf A c (CB fs) (xr gs) s).map (·.1)=some (ps fs∧ps gs):=by kernel_rfl):dp P cf A m c s Q:=by
 unfold nx at hQ
 obtain⟨⟨p,s'⟩,h1,rfl⟩:=Vv.1 h
 rw [h1] at hQ
 exact xe h1 ⟨xt fs,xt gs⟩ hQ
theorem qr (gs:List wu)(hQ:Q .norm (nx P cf A c [] gs s))(h:(mz P cf A c [] (xr gs) s).map (·.1)=some (True∧ps gs):=by kernel_rfl):dp P cf A m c s Q:=Kt [] gs hQ h
theorem q0 (hQ:Q .norm (nx P cf A c [] [] s))(h:(mz P cf A c [] [] s).map (·.1)=some (True∧True):=by kernel_rfl):dp P cf A m c s Q:=Kt [] [] hQ h
theorem QI (h:kd c=2):c = .seq (cA c) (cB c):=by cases c<;>first | rfl | cases h
theorem qq (hQ:dp P cf A m (cA c) s (I0 (fun s'=>dp P cf A m (cB c) s' Q) Q))(h:kd c=2:=by kernel_rfl):dp P cf A m c s Q:=by rw [QI h]; exact xd hQ
theorem QJ (fs gs:List wu)(hQ:dp P cf A m (cB c) (nx P cf A (cA c) fs gs s) Q)(h:kd c=2:=by kernel_rfl)(h2:(mz P cf A (cA c) (CB fs) (xr gs) s).map (·.1)=some (ps fs∧ps gs):=by kernel_rfl):dp P cf A m c s Q:=qq (Kt fs gs hQ h2) h
theorem qs (gs:List wu)(hQ:dp P cf A m (cB c) (nx P cf A (cA c) [] gs s) Q)(h:kd c=2:=by kernel_rfl)(h2:(mz P cf A (cA c) [] (xr gs) s).map (·.1)=some (True∧ps gs):=by kernel_rfl):dp P cf A m c s Q:=QJ [] gs hQ h h2
theorem q1 (hQ:dp P cf A m (cB c) (nx P cf A (cA c) [] [] s) Q)(h:kd c=2:=by kernel_rfl)(h2:(mz P cf A (cA c) [] [] s).map (·.1)=some (True∧True):=by kernel_rfl):dp P cf A m c s Q:=QJ [] [] hQ h h2
theorem qk (hQ:Q .norm s)(h:kd c=0:=by kernel_rfl):dp P cf A m c s Q:=by
 have:c = .skip:=by cases c<;>first | rfl | cases h
 rw [this]; exact Cj hQ
theorem qt (hQ:Q .ret s)(h:kd c=1:=by kernel_rfl):dp P cf A m c s Q:=by
 have:c = .ret:=by cases c<;>first | rfl | cases h
 rw [this]; exact D1 hQ
theorem qx (i:Nat)(hQ:Q (.exit i) s)(h:Oi c=some i:=by kernel_rfl):dp P cf A m c s Q:=by
 have:c = .exit i:=by cases c<;>first | (cases h; rfl) | cases h
 rw [this]; exact Ck hQ
theorem qb (i:Nat)(hQ:dp P cf A m (cA c) s (N2 i Q))(h:Oj c=some i:=by kernel_rfl):dp P cf A m c s Q:=by
 have:c = .block i (cA c):=by cases c<;>first | (cases h; rfl) | cases h
 rw [this]; exact y9 hQ
theorem qc {α:Type}{b:Bool}{x y z:Option α}(H:(if b=true then x else y)=z)(ht:b=true→x=z→dp P cf A m (cA c) s Q)(hf:b=false→y=z→dp P cf A m (cB c) s Q)(h:Ol A c s=some (.bool b):=by kernel_rfl):dp P cf A m c s Q:=by
 cases c<;>first | cases h | skip
 rename_i k a e
 exact pJ b (Wg h) (fun hb=>ht hb (Tc hb H)) (fun hb=>hf hb (Td hb H))
theorem LC (hQ:dp P cf A m (cA c) s Q)(h:Ol A c s=some (.bool true):=by kernel_rfl):dp P cf A m c s Q:=by
 cases c<;>first | cases h | skip
 exact pJ true (Wg h) (fun _=>hQ) (fun hb=>by cases hb)
theorem Ek (hQ:dp P cf A m (cB c) s Q)(h:Ol A c s=some (.bool false):=by kernel_rfl):dp P cf A m c s Q:=by
 cases c<;>first | cases h | skip
 exact pJ false (Wg h) (fun hb=>by cases hb) (fun _=>hQ)
theorem ql {c':Code}(h:dp P cf A m c' s Q)(k:∀e s',Q e s'→R e s')(hc:c=c':=by kernel_rfl):dp P cf A m c s R:=by rw [hc]; exact uj h k
theorem qj {α β:Type}{S:α→St→Prop}(f:α→Option β){out:β}{z:Option β}(h0:z=some out)(hB:∀σ s,S σ s→f σ=some out→dp P cf A m (cB c) s Q)
  (hA:(∀σ s,S σ s→f σ=some out→dp P cf A m (cB c) s Q)→dp P cf A m (cA c) s (I0 (fun s'=>dp P cf A m (cB c) s' Q) Q)) (h:kd c=2:=by kernel_rfl):dp P cf A m c s Q:=by
 rw [QI h]; exact xd (hA hB)
end
def dV {S O:Type}(P:Program)(cf:CallF)(A:b5)(m:Nat)(c:Code)(l:Nat→S→Option O)(R:S→St→Prop)(Q:O→Ex→St→Prop):Prop:=∀σ s out,R σ s→l m σ=some out→dp P cf A m (.loop c) s (Q out)
theorem me {S O:Type}{P:Program}{cf:CallF}{A:b5}{m:Nat}{c:Code}{l:Nat→S→Option O}{R:S→St→Prop}{Q:O→Ex→St→Prop}(h0:∀σ,l 0 σ=none)
  (step:∀k σ s out,R σ s→l (k+1) σ=some out→dp P cf A m c s (D2 l R Q k out)):dV P cf A m c l R Q:=fun _ _ _ hr H=>Co l R Q h0 step hr H (fun _ _ _ h=>h)
def Ja:Nat→List Nat→List Nat
 | _,[]=>[]
 | k,x::xs=>bif Wa (k % 2) 1 then x::Ja (k / 2) xs else Ja (k / 2) xs
def LD (keep:List Nat):Nat→List Nat→List (Nat × List Nat)
 | _,[]=>[]
 | r,k::ks=>(r,Ja k keep)::LD keep (r+1) ks
def gX (keep aE ms:List Nat)(Gp yK:List (Nat × List (Nat × Option Nat × Nat))):b5:={keep:=keep,aE:=aE,dead:=LD keep 0 ms,Gp:=Gp,yK:=yK}
theorem iA {α:Type}{b:Bool}{x y z:α}(H:(if b=true then x else y)=z):(b=true∧x=z)∨(b=false∧y=z):=by
 cases b with
 | true=>exact .inl ⟨rfl,H⟩
 | false=>exact .inr ⟨rfl,H⟩
theorem oi {α:Type}{a b:α}(h:some a=some b):a=b:=Wg h
theorem dC {P:Program}{A:b5}{s:St}{rs:List ResultVar}{y:AV}(av:AV)(g:AHeap)(h:fA g av y)(h1:aM P (s.open A) rs=some av:=by kernel_rfl)(h2:s.h=g:=by kernel_rfl):∃av,aM P (s.open A) rs=some av∧fA s.h av y:=⟨av,h1,h2 ▸ h⟩
theorem he {g g':AHeap}{K:Mem}(o:Has g K)(h:g'=g:=by kernel_rfl):Has g' K:=h ▸ o
end Go.R
namespace Go.R
open Go Go.Proofs Go.Shelf Go.RowKit Go.Sort
def n5:List AV→Option (List Int)
 | []=>some []
 | .int .i64 z::xs=>(n5 xs).map fun l=>z::l
 | _=>none
theorem mG:∀{xs:List AV} {l:List Int},n5 xs=some l→xs=l.map fun z=>.int .i64 z
 | [],l,h=>by cases h; rfl
 | x::xs,l,h=>by
  unfold n5 at h
  split at h
  ·rename_i e; cases e
  ·rename_i z ys e
   obtain⟨rfl,rfl⟩:=List.cons.inj e
   obtain⟨l',h1,rfl⟩:=Vv.1 h
   rw [mG h1]; rfl
  ·cases h
theorem sC:∀l:List Int,n5 (l.map fun z=>.int .i64 z)=some l
 | []=>rfl
 | z::l=>by simp only [VX,n5,sC l,VA]
def kQ (l:List Int):List Int:=l.mergeSort fun x y=>decide (x≤y)
noncomputable def Jb (args:List AV)(h:AHeap):Option (AV × AHeap):=
 match args with
 | [.rs id 0 n 1]=>if n=0 then some (.tup [],h) else (h.get id).bind fun
  | .cells cs=>if n≤cs.length∧n<4611686018427387904 then (n5 (cs.take n)).map fun l=>(.tup [],h.put id (.cells ((kQ l).map (fun z=>.int .i64 z)++cs.drop n))) else none
  | _=>none
 | _=>none
theorem CC:∀args h r h',Jb args h=some (r,h')→Steady h h':=by
 intro args h r h' hs
 unfold Jb at hs
 split at hs
 ·split at hs
  ·cases hs; exact Steady.refl _
  ·rw [Vt] at hs
   obtain⟨o,_,hs⟩:=hs
   split at hs
   ·split at hs
    ·obtain⟨l,_,hs⟩:=Vv.1 hs
     cases hs; exact Steady.put _ _ _
    ·cases hs
   ·cases hs
 ·cases hs
section
variable {c:Cx}{L0:Nat→Prop}
theorem CD (hrel:HRel c L0){id n:Nat}{cs:List AV}{l:List Int}(hid:c.h.get id=some (.cells cs))(hl:n5 (cs.take n)=some l):Holds (Value.int .i64) c.w (c.β id).1 (c.β id).2 l.toArray:=by
 obtain⟨m,⟨C,T,hC,hn⟩,hle,hcl⟩:=hrel.obj _ _ hid
 intro j hj
 have hj:j<l.length:=by simpa using hj
 have hx:cs[j]? = some (.int .i64 l[j]):=by
  have h1:(cs.take n)[j]? = some (.int .i64 l[j]):=by rw [mG hl,Wz,Vz hj]; rfl
  rw [List.getElem?_take] at h1
  split at h1
  ·exact h1
  ·cases h1
 obtain⟨v,h1,_,h3⟩:=hcl.get' j _ hx
 simp only [VR] at h3
 subst h3
 refine⟨by rw [h1]; simp [hj],by simp [World.frozen?,hC]⟩
theorem G1 (hrel:HRel c L0)(hbs:c.base≤c.w.heap.size){id n:Nat}{cs:List AV}{new:List Int}(hid:c.h.get id=some (.cells cs))(hn:n≤cs.length)(hnew:new.length=n)(q:Nat)(os:Array Obj) :
  let w':=grow (putRow (Value.int .i64) (Sort.ahead c.w q) (c.β id).1 (c.β id).2 new.toArray) os
  let c':Cx:=⟨c.β,c.h.put id (.cells (new.map (fun z=>.int .i64 z)++cs.drop n)),w',c.base⟩
  HRel c' L0∧Ext c none0 c' none0∧c'.len (c.β id).1=c.len (c.β id).1:=by
 intro w' c'
 have hun:un L0 none0=L0:=by funext b; simp [un,none0]
 have f:=Fr.none hrel
 obtain⟨m,⟨C,T,hC,hm⟩,hle,hcl⟩:=hrel.obj _ _ hid
 have hlive:Live c.h id:=⟨hrel.lt _ _ hid,by rw [hid]; rfl⟩
 have hblt:(c.β id).1<c.w.heap.size:=(V4.1 hC).1
 have qL:∀k,k<c.w.heap.size→w'.heap[k]? = if k=(c.β id).1 then some (.cells (putCells (Value.int .i64) (c.β id).2 new.toArray C) T (0,0)) else c.w.heap[k]?:=fun k hk=>by
  show (grow _ os).heap[k]? = _
  rw [heap_grow_old _ _ (by simp [putRow,mapBlock,Sort.ahead]; exact hk)]
  by_cases h:k=(c.β id).1
  ·subst h; simp [putRow,mapBlock,Sort.ahead,WC,hC,onCells]
  ·have h2:(c.β id).1≠k:=fun e=>h e.symm
   simp [putRow,mapBlock,Sort.ahead,WC,h,h2]
 have tq:w'.heap[(c.β id).1]? = some (.cells (putCells (Value.int .i64) (c.β id).2 new.toArray C) T (0,0)):=by rw [qL _ hblt,if_pos rfl]
 have hsz:(putCells (Value.int .i64) (c.β id).2 new.toArray C).size=C.size:=by simp [putCells]
 have hlen:((w'.shape? (c.β id).1).map (·.2)).getD 0=c.len (c.β id).1:=by
  simp only [Cx.len,World.shape?,tq,hC,VA,Wr,hsz]
 have LF:c.w.heap.size≤w'.heap.size:=by
  show _≤(grow _ os).heap.size
  simp [grow,putRow,mapBlock,Sort.ahead]
 obtain⟨e2,f2⟩:=f.upd (w':=w') (β':=c.β) (h':=c.h.put id (.cells (new.map (fun z=>.int .i64 z)++cs.drop n))) id (.cells (new.map (fun z=>.int .i64 z)++cs.drop n)) (Steady.put _ _ _) (WO hlive.1) (by simp [AHeap.put,beq_nat])
  (fun j hj=>.inr ⟨by simp [AHeap.put,beq_nat,hj],rfl⟩) (fun _=>⟨hlive,rfl⟩) (.inr ⟨id,hlive,rfl,.inl rfl⟩)
  (fun _=>hlen) (fun k hk hne=>by rw [qL k hk,if_neg hne]) (fun k hk hne=>by rw [qL k (by omega),if_neg hne]) LF hbs rfl rfl rfl
  (fun ee=>by
   refine⟨C.size,⟨_,T,tq,hsz⟩,by rw [VD,VL,Ww,hnew]; omega,?_⟩
   rw [Cells.iff]
   intro i x hx
   show ∃v,w'.cell? _=some v∧_
   rw [cell_of_block tq]
   have hi:i<cs.length:=by
    have:=(VB.1 hx).1
    rw [VD,VL,Ww,hnew] at this; omega
   have Tg:(putCells (Value.int .i64) (c.β id).2 new.toArray C)[(c.β id).2+i]? = C[(c.β id).2+i]?.map fun x=>if (c.β id).2≤(c.β id).2+i∧(c.β id).2+i<(c.β id).2+new.toArray.size then Value.int .i64 new.toArray[(c.β id).2+i - (c.β id).2]! else x:=by
    unfold putCells; rw [Array.getElem?_mapIdx]
   rw [Tg]
   by_cases h:i<n
   ·rw [VJ (by rw [VL,hnew]; exact h),Wz,Vz (by omega)] at hx
    simp only [VA,Vw] at hx
    subst hx
    have Th:(c.β id).2+i<C.size:=by omega
    rw [Array.getElem?_eq_getElem Th]
    refine⟨.int .i64 new[i],?_,rfl,by simp [VR]⟩
    simp only [VA,Vw]
    rw [if_pos ⟨by omega,by simp [hnew]; exact h⟩,WR]
    simp [show i<new.length by omega]
   ·rw [VP (by rw [VL,hnew]; omega),VL,hnew,List.getElem?_drop,show n+(i - n)=i by omega] at hx
    obtain⟨v,v1,v2,v3⟩:=hcl.get' i x hx
    rw [cell_of_block hC] at v1
    refine⟨v,?_,v2,?_⟩
    ·rw [v1]
     simp only [VA,Vw]
     rw [if_neg (by simp [hnew]; omega)]
    ·have:=VR.ext ee (L0:=L0) x v (by rw [hun]; exact v3)
     exact this)
 exact⟨by have:=f2.rel; rwa [hun] at this,e2,hlen⟩
end
section
variable {P:Program}{ρ:Ren}
theorem LG (L:Lays.n189 P ρ)(henter:∀(vs:Array Value) (w:World),(callFunc (ρ.f 189) vs).run P w = .ok (.enter (ρ.f 189) vs) w) :
  CallOK P fun f' args h=>if f'=ρ.f 189 then Jb args h else none:=by
 intro f args h r h' hc
 dsimp only at hc
 split at hc
 rotate_left
 ·cases hc
 rename_i hf
 subst hf
 refine⟨henter,fun L0 c vs hh hb0 hrel hargs=>?_⟩
 subst hh
 unfold Jb at hc
 split at hc
 rotate_left
 ·cases hc
 rename_i id n
 match vs,hargs with
 | [v1],⟨q1,_⟩=>
 split at hc
 ·rename_i hn
  subst hn
  cases hc
  have hs:∃a cap,v1 = .slice a 0 cap:=by
   simp only [VR] at q1
   rcases q1 with⟨_,_,_,a,rfl⟩| ⟨_,_,a,cap,rfl,_⟩
   ·exact⟨a,0,rfl⟩
   ·exact⟨a,cap,rfl⟩
  obtain⟨a,cap,rfl⟩:=hs
  refine (Any.slices_Sort_int_none L a cap c.w).mono ?_
  rintro e w' ⟨rfl,rfl⟩
  exact⟨c,_,rfl,rfl,rfl,by simp only [VR]; exact⟨#[],rfl,trivial⟩,hrel,Ext.refl _ _⟩
 ·rename_i hn
  rw [Vt] at hc
  obtain⟨o,hid,hc⟩:=hc
  split at hc
  rotate_left
  ·cases hc
  rename_i cs
  split at hc
  rotate_left
  ·cases hc
  rename_i hle
  obtain⟨l,hl,he⟩:=Vv.1 hc
  simp only [VC] at he
  obtain⟨rfl,rfl⟩:=he
  have hlive:Live c.h id:=⟨hrel.lt _ _ hid,by rw [hid]; rfl⟩
  have hll:l.length=n:=by
   have:=congrArg List.length (mG hl)
   rw [VL,Wl] at this; omega
  simp only [VR] at q1
  rcases q1 with⟨_,_,h0,_⟩| ⟨_,_,a,cap,rfl,h1,h2,h3⟩
  ·exact absurd h0 hn
  rcases h3 hlive with⟨rfl,h4⟩| h4
  rotate_left
  ·omega
  have hc:=Any.slices_Sort_int L (c.β id).1 (c.β id).2 cap l c.w (CD hrel hid hl) (hrel.block hlive) (by omega)
  rw [hll] at hc
  refine hc.mono ?_
  rintro e w' ⟨rfl,q,os,rfl⟩
  have hsl:(kQ l).length=n:=by unfold kQ; rw [List.length_mergeSort,hll]
  obtain⟨g1,g2,_⟩:=G1 hrel hb0 hid hle.1 hsl q os
  exact⟨_,_,rfl,rfl,rfl,by simp only [VR]; exact⟨#[],rfl,trivial⟩,g1,g2⟩
end
end Go.R
namespace Go.R
open Go
def Ia (cf:CallF)(f:FuncId):Prop:=∀args h,cf f args h=Jb args h
theorem pM (l:List Int):af.l l=l.map fun z=>.int .i64 z:=by
 induction l with
 | nil=>rfl
 | cons a l ih=>rw [bL.eD,ih]; rfl
theorem nj (l:List Int):(kQ l).length=l.length:=by unfold kQ; rw [List.length_mergeSort]
section
variable {h:AHeap}{L:Mem}{i n:Nat}{l:List Int}{cf:CallF}{f:FuncId}
theorem G2 (o:Has h ((i,.sl n 1 (af.l l))::L))(hn:n≠0):n=l.length∧i≠0∧l.length<4611686018427387904∧∃rest,h.get i=some (.cells (l.map (fun z=>.int .i64 z)++rest)):=by
 obtain⟨⟨⟨h1,h2⟩,h3⟩,_⟩:=o.at_ 0 _ _ rfl
 have hl:(af.l l).length=l.length:=by rw [pM,VL]
 rw [hl] at h1 h2
 rcases h3 with⟨_,h⟩| ⟨h,rest,h4⟩
 ·exact absurd h hn
 ·rw [pM] at h4
  exact⟨by omega,h,by omega,rest,h4⟩
theorem Jc (o:Has h ((i,.sl 0 1 (af.l l))::L)):l=[]:=by
 obtain⟨⟨⟨h1,_⟩,_⟩,_⟩:=o.at_ 0 _ _ rfl
 rw [pM,VL] at h1
 exact VZ (by omega)
theorem Jd (S:Ia cf f)(o:Has h ((i,.sl n 1 (af.l l))::L)):∃h',cf f [.rs i 0 n 1] h=some (.tup [],h')∧Has h' ((i,.sl n 1 (af.l (kQ l)))::L):=by
 rw [S]
 by_cases hn:n=0
 ·subst hn
  have:=Jc o
  subst this
  have e:kQ []=[]:=by simp [kQ]
  exact⟨h,rfl,by rw [e]; exact o⟩
 ·obtain⟨h1,h2,h3,rest,h4⟩:=G2 o hn
  subst h1
  have et:(l.map (fun z=>AV.int .i64 z)++rest).take l.length=l.map fun z=>AV.int .i64 z:=by
   rw [V3 (by simp),V6 (by simp)]
  have ed:(l.map (fun z=>AV.int .i64 z)++rest).drop l.length=rest:=by
   have:=List.drop_left (l₁:=l.map fun z=>AV.int .i64 z) (l₂:=rest)
   rwa [VL] at this
  refine⟨h.put i (.cells ((kQ l).map (fun z=>.int .i64 z)++rest)),?_,?_⟩
  ·unfold Jb
   simp only
   rw [if_neg hn,h4,Vu]
   simp only
   rw [if_pos ⟨by simp,h3⟩,et,sC,VA,ed]
  ·refine jy (q:=0) o rfl (ob:=.cells ((kQ l).map (fun z=>.int .i64 z)++rest)) (c':=.sl l.length 1 (af.l (kQ l))) ⟨⟨?_,?_⟩,.inr ⟨h2,rest,by rw [cY,if_pos rfl,pM]⟩⟩
   ·rw [pM,VL,nj]; omega
   ·have:=(o.at_ 0 _ _ rfl).1.1.2
    rw [pM,VL] at this ⊢
    rw [nj]; exact this
end
end Go.R
namespace Go.R
open Go
def yw (z:Nat)(args:List AV)(h:AHeap):Option (AV × AHeap):=
 match args with
 | [.nils]=>some (.rs 0 0 0 z,h)
 | [.fz cs n _]=>if n=0 then some (.rs 0 0 0 z,h) else if cs.length=n*z∧n*1024≤1099511627776 then some (.rs h.next 0 n z,h.alloc (.cells (cs.map jo))) else none
 | [.rs id 0 n z']=>if n=0 then some (.rs 0 0 0 z,h) else (h.get id).bind fun
  | .cells cs=>if z'=z∧n*z≤cs.length∧n*1024≤1099511627776 then some (.rs h.next 0 n z,h.alloc (.cells ((cs.take (n*z)).map jo))) else none
  | _=>none
 | _=>none
def El (cf:CallF)(f:FuncId)(z:Nat):Prop:=∀args h,cf f args h=yw z args h
def G3 (z:Nat){α:Type}(l:List α):Option (List α):=if l.length*1024≤1099511627776 then some l else none
theorem Em {z:Nat}{α:Type}{l r:List α}(h:G3 z l=some r):l.length*1024≤1099511627776∧r=l:=by
 unfold G3 at h
 split at h
 ·rename_i g; cases h; exact⟨g,rfl⟩
 ·cases h
section
variable {h:AHeap}{K:Mem}{i n q:Nat}{α:Type}{E:bL α}{l r:List α}{cf:CallF}{f:FuncId}
theorem Je (o:Has h K)(hl:l≠[])(hb:l.length*1024≤1099511627776):Has (h.alloc (.cells (E.l l))) ((h.next,.sl l.length E.n (E.l l))::K):=
 o.new (fun k hk=>by rw [AHeap.alloc,cY,if_neg (by omega)]) (WI _) (.inr (Vy _)) (Wh _) ⟨⟨bL.bN,bL.nh (by omega)⟩,.inr ⟨by have:=o.pos; omega,[],by rw [AHeap.alloc,cY,if_pos rfl]; simp⟩⟩
theorem G4 (o:Has h K):Has h ((0,.sl ([]:List α).length E.n (E.l []))::K):=Has.nil o E.n
theorem LH (S:El cf f E.n)(o:Has h K)(hr:G3 E.n l=some r):∃i h',cf f [E.fz l] h=some (.rs i 0 r.length E.n,h')∧Has h' ((i,.sl r.length E.n (E.l r))::K):=by
 obtain⟨hb,rfl⟩:=Em hr
 rw [S]
 by_cases hl:r=[]
 ·subst hl
  exact⟨0,h,rfl,G4 o⟩
 ·have hn:r.length≠0:=fun e=>hl (VZ e)
  refine⟨h.next,_,?_,Je o hl hb⟩
  show yw E.n [.fz (E.l r) r.length false] h=_
  unfold yw
  simp only
  rw [if_neg hn,if_pos ⟨bL.bN,hb⟩,bL.vt]
end
end Go.R
namespace Go.R
open Go
section
variable {h:AHeap}{K:Mem}{i q off k:Nat}{cs ys:List AV}
theorem dQ (o:Has h K)(hq:K[q]? = some (i,.ob cs))(f:aO k h cs ys):jR (k+1) h (.ptr i off) (.fp ys off):=fun n hn=>by
 obtain⟨m,rfl⟩:∃m,n=m+1:=⟨n - 1,by simp only [ik] at hn; omega⟩
 obtain⟨⟨_,h2⟩,_⟩:=o.at_ _ _ _ hq
 simp only [cb,h2,Vu]
 rw [f m (by omega)]; rfl
theorem lB (hp:cH cs=true∧dn cs=cs):(AV.fp cs off).dS=true∧(AV.fp cs off).jm = .fp cs off:=⟨by simpa [AV.dS] using hp.1,by show AV.fp (dn cs) off=_; rw [hp.2]⟩
theorem gk (hp:cH cs=true∧dn cs=cs):jR 0 h (.fp cs off) (.fp cs off):=lu (lB hp).1 (fun _=>rfl) (lB hp).2
end
def Om {α β:Type}(o:Option α)(n:Option β)(s:α→Option β):Option β:=
 match o with
 | none=>n
 | some y=>s y
end Go.R
namespace Go.R
open Go
def qQ:List (AHeap × AHeap × Nat)→Prop
 | []=>True
 | (h,h',i)::l=>h.ver i=h'.ver i∧qQ l
theorem oT:∀{a b:List (AHeap × AHeap × Nat)},qQ (a++b)→qQ a∧qQ b
 | [],b,h=>⟨trivial,h⟩
 | (_,_,_)::a,b,h=>by
  have:=oT (a:=a) h.2
  exact⟨⟨h.1,this.1⟩,this.2⟩
theorem xu:∀{l:List Nat} {h h':AHeap},qQ (l.map fun id=>(h,h',id))→∀id∈l,h.ver id=h'.ver id
 | i::l,h,h',hp,id,hm=>by
  rcases VT.1 hm with rfl | hm
  ·exact hp.1
  ·exact xu hp.2 id hm
def Jf (x y:lU):Bool:=
 match x.f.wb with
 | some k=>!y.f.rb.contains k&&y.f.wb != some k
 | none=>true
def vG (x y:lU):Option (List (AHeap × AHeap × Nat)):=
 bif Jf x y then (bif x.f.wh then (bif y.f.wh then none else some (y.f.rh.map fun id=>(x.s.h,x.s'.h,id))) else some []) else none
theorem ur {x y:lU}{l:List (AHeap × AHeap × Nat)}(h:vG x y=some l)(hp:qQ l):x.jq y=true:=by
 have he:x.jq y=(Jf x y&&(!x.f.wh||(!y.f.wh&&y.f.rh.all fun id=>Wa (x.s.h.ver id) (x.s'.h.ver id)))):=rfl
 rw [he]
 unfold vG at h
 cases h1:Jf x y with
 | false=>rw [h1] at h; cases h
 | true=>
  rw [h1,cond_true] at h
  cases hw:x.f.wh with
  | false=>rfl
  | true=>
   rw [hw,cond_true] at h
   cases hy:y.f.wh with
   | true=>rw [hy] at h; cases h
   | false=>
    rw [hy,cond_false] at h
    cases h
    simp only [Wy,Bool.false_or,Bool.not_false,Xa,VO]
    intro id hid
    rw [xu hp id hid,Nat.beq_refl]
def xw (ms:List Nat)(x:lU)(i:Nat):List (lU × Nat)→Option (List (AHeap × AHeap × Nat))
 | []=>some []
 | y::l=>bif WX y.2 i||(ms.getD y.2 0).testBit i then xw ms x i l else (vG x y.1).bind fun a=>(vG y.1 x).bind fun b=>(xw ms x i l).map fun c=>a++(b++c)
theorem En {ms:List Nat}{x:lU}{i:Nat}(l:List (lU × Nat)):∀{v:List (AHeap × AHeap × Nat)},xw ms x i l=some v→qQ v→∀p∈l,(WX p.2 i||(ms.getD p.2 0).testBit i||(x.jq p.1&&p.1.jq x))=true:=by
 induction l with
 | nil=>intro v _ _ p hm; cases hm
 | cons y l ih=>
  intro v h hp p hm
  simp only [xw] at h
  cases hc:(WX y.2 i||(ms.getD y.2 0).testBit i) with
  | true=>
   rw [hc,cond_true] at h
   rcases VT.1 hm with rfl | hm
   ·rw [hc,Bool.true_or]
   ·exact ih h hp p hm
  | false=>
   rw [hc,cond_false] at h
   simp only [Vt,Vv] at h
   obtain⟨a,ha,b,hb,c,hc,rfl⟩:=h
   obtain⟨p1,p2⟩:=oT hp
   obtain⟨p2,p3⟩:=oT p2
   rcases VT.1 hm with rfl | hm
   ·rw [ur ha p1,ur hb p2,Bool.and_self,Bool.or_true]
   ·exact ih hc p3 p hm
def Au (ms:List Nat)(all:List (lU × Nat)):List (lU × Nat)→Option (List (AHeap × AHeap × Nat))
 | []=>some []
 | x::l=>(xw ms x.1 x.2 all).bind fun a=>(Au ms all l).map fun b=>a++b
theorem Eo {ms:List Nat}{all:List (lU × Nat)}(l:List (lU × Nat)):∀{v:List (AHeap × AHeap × Nat)},Au ms all l=some v→qQ v→∀x∈l,∀p∈all,(WX p.2 x.2||(ms.getD p.2 0).testBit x.2||(x.1.jq p.1&&p.1.jq x.1))=true:=by
 induction l with
 | nil=>intro v _ _ x hm; cases hm
 | cons y l ih=>
  intro v h hp x hm
  simp only [Au,Vt,Vv] at h
  obtain⟨a,ha,b,hb,rfl⟩:=h
  obtain⟨p1,p2⟩:=oT hp
  rcases VT.1 hm with rfl | hm
  ·exact En all ha p1
  ·exact ih hb p2 x hm
def Jg (ops:List Oper)(arr:Array Oper)(s:RS)(es:List lU):Option (List (AHeap × AHeap × Nat)):=
 let ms:=js [] ops
 let is:=es.zipIdx
 let uS:=is.filter fun (x,_)=>!x.f.quiet
 if mY arr ms&&uS.all (fun (x,i)=>rq ms (ops.filterMap (·.dst)) s is x i) then Au ms uS uS else none
theorem G5 {P:Program}{cf:CallF}{aE:List Nat}{ops:Array Oper}{s r:RS}{es:List lU}{l:List (AHeap × AHeap × Nat)}(h:Jg ops.toList ops s es=some l)(hp:qQ l)(hr:ov P cf aE ops.toList s ops.toList=some (es,r)):jH P cf aE ops s=some r:=by
 unfold Jg at h
 simp only at h
 split at h
 rotate_left
 ·cases h
 rename_i hc
 simp only [Vx] at hc
 obtain⟨h1,h2⟩:=hc
 unfold jH
 simp only [h1,if_true,hr,Vu]
 rw [if_pos]
 rw [VO] at h2 ⊢
 intro x hx
 have a:=h2 x hx
 simp only [Vx] at a ⊢
 refine⟨a,?_⟩
 rw [VO]
 intro y hy
 exact Eo _ h hp x hx y hy
def Av (P:Program)(cf:CallF)(A:b5)(c:Code)(fs:List (AV × AHeap))(zs:Gd)(st:St):Option ((Prop × Prop) × St):=
 match c with
 | .region id ops draw=>(qO (st.open A) (fR id A.Gp) fs).bind fun (s0,p0)=>(qN P cf A.aE ops.toList s0 0 ops.toList zs).bind fun (es,r,p)=>
   bif draw then (Jg ops.toList ops s0 es).bind fun l=>(kE r (fR id A.yK)).map fun r2=>((p0∧p,qQ l),r2.mh A id) else none
 | _=>none
theorem Ep {P:Program}{cf:CallF}{A:b5}{m:Nat}{c:Code}{fs:List (AV × AHeap)}{zs:Gd}{st jg:St}{p q:Prop}(h:Av P cf A c fs zs st=some ((p,q),jg))(hp:p)(hq:q):bJ P cf A m c st=some (.norm,jg):=by
 unfold Av at h
 split at h
 rotate_left
 ·cases h
 rename_i id ops draw
 simp only [Vt] at h
 obtain⟨⟨s0,p0⟩,h0,⟨es,r,p1⟩,h1,h⟩:=h
 cases draw with
 | false=>cases h
 | true=>
  simp only [cond_true,Vt,Vv,VC] at h
  obtain⟨l,hl,r2,h2,⟨rfl,rfl⟩,rfl⟩:=h
  obtain⟨g1,g2⟩:=vo h1 hp.2
  have g0:=rz h0 hp.1
  simp only [bJ,g0,Vu,if_true,G5 hl hq g1,h2,VA]
inductive Vg
 | mk {h h':AHeap} {i:Nat} (e:h.ver i=h'.ver i)
def Vg.t:Vg→AHeap × AHeap × Nat
 | @mk h h' i e=>(h,h',i)
theorem Er:∀vs:List Vg,qQ (vs.map Vg.t)
 | []=>trivial
 | @Vg.mk h h' i e::vs=>⟨e,Er vs⟩
def QK (P:Program)(cf:CallF)(A:b5)(c:Code)(fs gs:List wu)(s:St):St:=((Av P cf A c (CB fs) (xr gs) s).map (·.2)).getD s
section
variable {P:Program}{cf:CallF}{A:b5}{m:Nat}{c:Code}{s:St}{Q R:Ex→St→Prop}
theorem LI (fs gs:List wu)(vs:List Vg)(hQ:Q .norm (QK P cf A c fs gs s))(h:(Av P cf A c (CB fs) (xr gs) s).map (·.1)=some (ps fs∧ps gs,qQ (vs.map Vg.t)):=by kernel_rfl):dp P cf A m c s Q:=by
 unfold QK at hQ
 obtain⟨⟨p,s'⟩,h1,rfl⟩:=Vv.1 h
 rw [h1] at hQ
 exact⟨.norm,s',Ep h1 ⟨xt fs,xt gs⟩ (Er vs),hQ⟩
end
section
variable {P:Program}{h h':AHeap}{K:Mem}{i j n z q q2:Nat}{c:Ct}{cs:List AV}{x y:AV}{t t2:TypeId}
theorem vH {o:AObj}(hj:j≠i):h.ver j=(h.put i o).ver j:=by
 simp only [AHeap.put,beq_nat]
 simp [hj]
theorem xy (hj:j≠i):h.ver j=(h.kill i).ver j:=by
 simp only [AHeap.kill,beq_nat]
 simp [hj]
theorem G6 {s:AV}(e:dA P h t t2 s x=some (y,h'))(hs:∀i off n z,s = .rs i off n z→j≠i)(hj:j≠h.next):h.ver j=h'.ver j:=by
 have ha:∀o:AObj,h.ver j=(h.alloc o).ver j:=fun o=>vH hj
 unfold dA at e
 simp only [Vt] at e
 obtain⟨u,hu,e⟩:=e
 split at e
 rotate_left
 ·cases e
 simp only [Vt] at e
 obtain⟨inf,hi,⟨new,m⟩,hc,e⟩:=e
 split at e
 ·cases e
 split at e
 ·split at e
  ·cases e
  ·split at e
   ·cases e; rfl
   ·cases e; exact ha _
 ·split at e
  ·cases e
  ·split at e
   ·split at e<;>(cases e; rfl)
   ·cases e; exact ha _
 ·rename_i id off len iq
  have hne:=hs _ _ _ _ rfl
  split at e
  ·split at e
   ·cases e
   ·split at e
    ·cases e; rfl
    ·cases e; exact ha _
  ·simp only [Vt] at e
   obtain⟨ob,ho,e⟩:=e
   split at e
   rotate_left
   ·cases e
   split at e
   ·cases e
   ·split at e
    ·cases e; rfl
    ·cases e
     exact (xy hne).trans (vH hj)
 ·cases e
theorem zg (o:Has h K)(hq:K[q]? = some (i,c))(G7:K[q2]? = some (j,.ob cs))(hne:q≠q2)(e:dA P h t t2 (.rs i 0 n z) x=some (y,h')):h.ver j=h'.ver j:=by
 obtain⟨⟨h1,_⟩,h2⟩:=o.at_ _ _ _ G7
 refine G6 e (fun i' _ _ _ he=>?_) (by omega)
 cases he
 intro hji
 subst hji
 exact hne (o.nd _ _ _ _ _ hq G7 h1)
end
theorem Es {cf:CallF}{f:FuncId}{z:Nat}{h h':AHeap}{K:Mem}{q2 j:Nat}{cs:List AV}{x y:AV}(S:El cf f z)(o:Has h K)(G7:K[q2]? = some (j,.ob cs))(e:cf f [x] h=some (y,h')):h.ver j=h'.ver j:=by
 obtain⟨⟨h1,_⟩,h2⟩:=o.at_ _ _ _ G7
 have ha:∀o:AObj,h.ver j=(h.alloc o).ver j:=fun o=>vH (Nat.ne_of_lt h2)
 rw [S] at e
 unfold yw at e
 split at e
 ·cases e; rfl
 ·split at e
  ·cases e; rfl
  ·split at e
   ·cases e; exact ha _
   ·cases e
 ·split at e
  ·cases e; rfl
  ·rw [Vt] at e
   obtain⟨ob,ho,e⟩:=e
   split at e
   ·split at e
    ·cases e; exact ha _
    ·cases e
   ·cases e
 ·cases e
theorem LJ {x:Option (AV × AHeap)}{a:AV}{h:AHeap}{z:AV × AHeap}(h1:x=some (a,h))(h2:je 0 h a=some z):x.bind (fun x=>je 0 x.2 x.1)=some z:=by rw [h1]; exact h2
theorem Jh {P:Program}{h:AHeap}{K:Mem}{q i t e n:Nat}{inf:TypeInfo}{l:List Int}{j:Int}(ht:P.underlying t=some (.slice e))(hi:P.info? e=some inf)(hs:inf.size=1)(hz:iC P e=some (.int .i64 0))(o:Has h K)(hq:K[q]? = some (i,.sl n 1 (af.l l)))(h0:0≤j)(h1:j≤(l.length:Int)) :
  ∃h',lf P h t (.rs i (0+j.toNat*1) (n - j.toNat) 1)=some h'∧Has h' (K.set q (i,.sl n 1 (af.l (l.take j.toNat++VM (l.length - j.toNat) 0)))):=by
 have hn:n=l.length:=ck (E:=af) o hq
 subst hn
 have hll:(l.take j.toNat++VM (l.length - j.toNat) 0).length=l.length:=by simp; omega
 unfold lf
 rw [ht,Vu]
 simp only
 by_cases hl:l.length - j.toNat=0
 ·refine⟨h,by rw [if_pos hl],?_⟩
  have:l.take j.toNat++VM (l.length - j.toNat) 0=l:=by rw [hl,List.replicate_zero,WN,V6 (by omega)]
  rw [this]
  have hK:K.set q (i,.sl l.length 1 (af.l l))=K:=by
   obtain⟨g1,g2⟩:=VB.1 hq
   rw [←g2,List.set_getElem_self]
  rw [hK]; exact o
 ·rw [if_neg hl]
  obtain⟨⟨⟨hlen,qn⟩,k8⟩,hlt⟩:=o.at_ _ _ _ hq
  rcases k8 with⟨_,h5⟩| ⟨h5,rest,h6⟩
  ·omega
  rw [if_neg h5]
  simp only [hi,hz,h6,Vu,hs]
  have Tk:ir [AV.int .i64 0] (l.length - j.toNat)=af.l (VM (l.length - j.toNat) 0):=by
   generalize l.length - j.toNat=k
   induction k with
   | zero=>rfl
   | succ k ih=>show [AV.int .i64 0]++ir [AV.int .i64 0] k=_; rw [ih]; rfl
  rw [if_pos ⟨trivial,rfl,by decide,rfl,by rw [VD,hlen]; omega⟩]
  refine⟨_,rfl,?_⟩
  refine jy o hq ?_
  have Gr:(af.l (l.take j.toNat++VM (l.length - j.toNat) 0)).length=l.length*1:=(bL.bN (E:=af)).trans (by rw [hll]; rfl)
  refine⟨⟨Gr,by rw [Gr]; rw [hlen] at qn; exact qn⟩,.inr ⟨h5,rest,?_⟩⟩
  rw [cY,if_pos rfl]
  congr 2
  show dd (af.l l++rest) (0+j.toNat*1) (ir [AV.int .i64 0] (l.length - j.toNat))=_
  rw [Tk,bL.hU]
  have Ji:=hX (af.l (l.drop j.toNat)) (af.l (VM (l.length - j.toNat) 0)) (af.l (l.take j.toNat)) rest (by
   rw [bL.bN,bL.bN]; simp)
  rw [←bL.hU,Wu] at Ji
  have hp:(af.l (l.take j.toNat)).length=0+j.toNat*1:=by
   rw [bL.bN]; show _*1=_; simp; omega
  rw [hp] at Ji
  exact Ji
end Go.R
namespace Go.R
open Go
def QL (P:Program)(t:TypeId):Bool:=
 match P.underlying t with
 | some (.map kt et)=>(P.underlying kt matches some (.int .i64))&&(match iC P et with | some (.bool b)=>!b | _=>false)
 | _=>false
structure ko where
 a0:Int
 a1:Int
def kA:bL ko:={n:=2,f:=fun x=>[.int .i64 x.a0,.int .i64 x.a1],len:=fun _=>rfl,pos:=by decide,pure:=fun x _=>pure_cons ff (pure_cons ff pure_nil),canon:=fun _=>rfl}
section
variable {P:Program}{h:AHeap}{K:Mem}{i q n b:Nat}{t t2:TypeId}{α:Type}{E:bL α}{l r s:List α}{x:AV}
def LK {α:Type}(l s:List α):Option (List α):=if s.length≤l.length then some (s++l.drop s.length) else none
theorem G8 (T:tu P t E.n b=true)(o:Has h K)(hq:K[q]? = some (i,.sl n E.n (E.l l)))(hc:dT h E.n x=some (E.l s,s.length))(gB:iD P t2 x=true)(od:(E.l s).all AV.bS=true)(hr:LK l s=some r) :
  ∃h',qd P h t t2 (.rs i 0 n E.n) x=some (.int .i64 s.length,h')∧Has h' (K.set q (i,.sl n E.n (E.l r))):=by
 have hn:=ck o hq
 subst hn
 unfold LK at hr
 split at hr
 rotate_left
 ·cases hr
 rename_i hle
 cases hr
 obtain⟨e,inf,g1,g2,g3,g4,g5,g6⟩:=iK T
 obtain⟨⟨⟨hlen,qn⟩,k8⟩,hlt⟩:=o.at_ _ _ _ hq
 have hll:(s++l.drop s.length).length=l.length:=by simp; omega
 simp only [qd,g1,Vu,g2,g3,hc,gB,Bool.true_eq_false,if_false]
 rcases k8 with⟨h0,h1⟩| ⟨h0,rest,h1⟩
 ·have hl0:l=[]:=by simpa using h1
  subst hl0
  have hs0:s=[]:=by cases s with | nil=>rfl | cons _ _=>simp at hle
  subst hs0
  refine⟨h,by simp [h0],?_⟩
  have hK:K.set q (i,.sl ([]:List α).length E.n (E.l ([]++([]:List α).drop ([]:List α).length)))=K:=by
   obtain⟨g1,g2⟩:=VB.1 hq
   show K.set q (i,.sl ([]:List α).length E.n (E.l []))=K
   rw [←g2,List.set_getElem_self]
  rw [hK]; exact o
 ·rw [if_neg h0,h1]
  simp only [Vu]
  rw [if_pos ⟨trivial,hle,by
   rw [VD,hlen,VU]
   exact Wj (We _ hle) (Nat.le_add_right _ _)⟩]
  refine⟨_,rfl,jy o hq ⟨⟨by rw [bL.bN,hll],by rw [bL.bN,hll,←hlen]; exact qn⟩,.inr ⟨h0,rest,?_⟩⟩⟩
  rw [cY,if_pos rfl]
  congr 2
  have Ji:=hX (E.l (l.take s.length)) (E.l s) [] (E.l (l.drop s.length)++rest) (by rw [bL.bN,bL.bN,Wl,WM hle])
  simp only [V9,VS] at Ji
  rw [←VK,←bL.hU,Wu] at Ji
  rw [Ji,bL.hU,VK]
theorem Jj:dT h E.n (E.fz l)=some (E.l l,l.length):=by
 simp only [dT,bL.fz]
 rw [if_pos bL.bN]
end
theorem LL:∀l:List Int,(af.l l).all AV.bS=true:=fun l=>by
 induction l with
 | nil=>rfl
 | cons a l ih=>rw [bL.eD,List.all_append,ih]; rfl
section
variable {P:Program}{h:AHeap}{K:Mem}{i q n b:Nat}{t:TypeId}{α:Type}{E:bL α}{l:List α}{j:Int}{k:IntKind}
def Ku (l:List Int)(j:Int):Option (List Int):=if 0≤j∧j≤l.length then some (l.take j.toNat++VM (l.length - j.toNat) 0) else none
theorem sD {l r:List Int}{j:Int}(h:Ku l j=some r):0≤j∧j≤l.length∧r=l.take j.toNat++VM (l.length - j.toNat) 0:=by
 unfold Ku at h
 split at h
 ·rename_i g; cases h; exact⟨g.1,g.2,rfl⟩
 ·cases h
theorem Jk (T:tu P t E.n b=true)(o:Has h K)(hq:K[q]? = some (i,.sl n E.n (E.l l)))(h0:0≤j)(h1:j≤(l.length:Int)):iS P t (.rs i 0 n E.n) (some (.int k j)) none none=some (.rs i (0+j.toNat*E.n) (n - j.toNat) E.n):=by
 have hn:=ck o hq
 subst hn
 obtain⟨e,inf,g1,g2,g3,g4,g5,g6⟩:=iK T
 simp only [iS,g1,Vu,g6,if_true,jb]
 rw [if_pos ⟨h0,by omega⟩]
 simp only [Vu,VA,VF]
def On (P:Program)(t:TypeId):Bool:=
 match P.underlying t with
 | some (.slice e)=>(match P.info? e with | some inf=>inf.size==1 | none=>false)&&(match iC P e with | some (.int .i64 z)=>z==0 | _=>false)
 | _=>false
theorem Jl {l r:List Int}(T:On P t=true)(o:Has h K)(hq:K[q]? = some (i,.sl n 1 (af.l l)))(hr:Ku l j=some r) :
  ∃h',(lf P h t (.rs i (0+j.toNat*1) (n - j.toNat) 1)).map (fun h=>(AV.tup [],h))=some (AV.tup [],h')∧Has h' (K.set q (i,.sl n 1 (af.l r))):=by
 obtain⟨h0,h1,rfl⟩:=sD hr
 unfold On at T
 split at T
 rotate_left
 ·cases T
 rename_i e ht
 simp only [Vx] at T
 obtain⟨T1,T2⟩:=T
 split at T1
 rotate_left
 ·cases T1
 rename_i inf hi
 split at T2
 rotate_left
 ·cases T2
 rename_i z hz
 simp only [beq_iff_eq] at T1 T2
 subst T2
 obtain⟨h',e1,o1⟩:=Jh ht hi T1 hz o hq h0 h1
 exact⟨h',by rw [e1]; rfl,o1⟩
end
section
variable {h:AHeap}{f k k2:Nat}{cs ys:List AV}
theorem sE (g:aO k h cs ys):jR (k+1) h (.fn f cs) (.fn f ys):=fun n hn=>by
 obtain⟨m,rfl⟩:∃m,n=m+1:=⟨n - 1,by simp only [ik] at hn; omega⟩
 simp only [cb]
 rw [g m (by omega)]; rfl
theorem aO.mono {k k':Nat}{x y:List AV}(hk:k≤k')(f:aO k h x y):aO k' h x y:=fun n hn=>f n (by omega)
theorem iP {xs:List AV}(f:aO k h xs ys)(hk:k≤cE:=by decide):aO cE h xs ys:=aO.mono hk f
theorem Et:∀{us bs cs ys:List AV} {k1 k2:Nat},aO k1 h us bs→aO k2 h cs ys→aO (k1+k2+us.length+1) h (us++cs) (bs++ys)
 | [],bs,cs,ys,k1,k2,f,g=>fun n hn=>by
  have:=f (ik+k1) (Vy _)
  have hb:bs=[]:=by
   cases hm:ik+k1 with
   | zero=>simp [ik] at hm
   | succ m=>rw [hm] at this; simp only [bq,Vw] at this; exact this.symm
  subst hb
  exact g n (by omega)
 | a::us,bs,cs,ys,k1,k2,f,g=>fun n hn=>by
  have h1:=f (ik+k1) (Vy _)
  obtain⟨m,rfl⟩:∃m,n=m+1:=⟨n - 1,by simp only [ik] at hn; omega⟩
  have hb:∃b LM,bs=b::LM:=by
   cases hm:ik+k1 with
   | zero=>simp [ik] at hm
   | succ m=>
    rw [hm] at h1
    simp only [bq,Vt,Vv] at h1
    obtain⟨y,_,zs,_,e⟩:=h1
    exact⟨y,zs,e.symm⟩
  obtain⟨b,LM,rfl⟩:=hb
  have key:∀n',ik+k1≤n'+1→cb h n' a=some b∧bq h n' us=some LM:=fun n' NL=>by
   have:=f (n'+1) NL
   simp only [bq,Vt,Vv] at this
   obtain⟨y,hy,zs,hz,e⟩:=this
   cases e
   exact⟨hy,hz⟩
  have f2:aO k1 h us LM:=fun n' NL=>(key n' (by omega)).2
  have:=Et f2 g m (by simp only [VH] at hn; omega)
  show bq h (m+1) (a::(us++cs))=some (b::(LM++ys))
  simp only [bq]
  rw [(key m (by omega)).1,this]
  rfl
theorem Ib {us bs:List AV}{k:Nat}(f:aO k h us bs)(g:aO cE h cs ys)(hk:k≤500:=by decide)(hl:us.length≤400:=by simp):aO bR h (us++cs) (bs++ys):=(Et f g).mono (by
 have:k+cE+us.length+1≤cE+1001:=by omega
 exact Wj this (by decide))
end
theorem Eu {α:Type}{E:bL α}{l:List α}{h h':AHeap}{K:Mem}{q q2 i j n:Nat}{cs:List AV}{y:AV}(o:Has h K)(hq:K[q]? = some (i,.sl n E.n (E.l l)))(G7:K[q2]? = some (j,.ob cs))(e:je 0 h (.rs i 0 n E.n)=some (y,h'))(hp:E.flat=true:=by rfl):h.ver j=h'.ver j:=by
 have hn:=ck o hq
 subst hn
 obtain⟨⟨⟨hlen,qn⟩,k8⟩,hlt⟩:=o.at_ _ _ _ hq
 obtain⟨⟨hj,_⟩,_⟩:=o.at_ _ _ _ G7
 have hne:j≠i:=by
  intro he
  subst he
  have:=o.nd _ _ _ _ _ hq G7 hj
  subst this
  rw [hq] at G7
  cases G7
 simp only [je] at e
 rcases k8 with⟨h0,h1⟩| ⟨h0,rest,h1⟩
 ·rw [if_pos h0,if_pos h1] at e
  cases e; rfl
 ·rw [if_neg h0,h1] at e
  simp only [Vu] at e
  have e1:((E.l l++rest).drop 0).take (l.length*E.n)=E.l l:=by
   rw [Wd,V3 (by rw [hlen]; exact Vy _),V6 (by rw [hlen]; exact Vy _)]
  rw [e1,if_pos (by rw [VD,hlen]; omega),pE (bL.nV hp).1] at e
  cases e
  exact xy hne
end Go.R
namespace Go.R
open Go
def om (k i:Nat):Nat:=if i=0 then 0 else i+k
theorem Aw {k i off n z:Nat}:cR k (.rs i off n z)=some (.rs (om k i) off n z):=by
 unfold cR om
 split<;>rfl
theorem rF {k:Nat}:cj k []=some []:=rfl
theorem gJ {k:Nat}{x y:AV}{xs ys:List AV}(a:cR k x=some y)(b:cj k xs=some ys):cj k (x::xs)=some (y::ys):=by
 simp only [cj,a,b,Vu,VA]
theorem Ev {k:Nat}{xs ys:List AV}(b:cj k xs=some ys):cR k (.agg xs)=some (.agg ys):=by
 simp only [cR,b,VA]
theorem Jm {k:Nat}{xs ys:List AV}(b:cj k xs=some ys):cR k (.tup xs)=some (.tup ys):=by
 simp only [cR,b,VA]
theorem mH {k:Nat}:∀{a a' b b':List AV},cj k a=some a'→cj k b=some b'→cj k (a++b)=some (a'++b')
 | [],a',b,b',h1,h2=>by simp only [cj,Vw] at h1; subst h1; exact h2
 | x::a,a',b,b',h1,h2=>by
  simp only [cj,Vt,Vv] at h1
  obtain⟨y,h3,ys,h4,rfl⟩:=h1
  exact gJ h3 (mH h4 h2)
theorem n6 {k:Nat}:∀{a a':List AV} (r:List AV),cj k a=some a'→fC k (a++r)=a'++fC k r
 | [],a',r,h1=>by simp only [cj,Vw] at h1; subst h1; rfl
 | x::a,a',r,h1=>by
  simp only [cj,Vt,Vv] at h1
  obtain⟨y,h3,ys,h4,rfl⟩:=h1
  have e:fC k (x::(a++r))=y::fC k (a++r):=by rw [fC,h3]
  show fC k (x::(a++r))=(y::ys)++fC k r
  rw [e,n6 r h4]; rfl
theorem qF {k:Nat}:∀{a a':List AV},cj k a=some a'→a'.length=a.length
 | [],a',h1=>by simp only [cj,Vw] at h1; subst h1; rfl
 | x::a,a',h1=>by
  simp only [cj,Vt,Vv] at h1
  obtain⟨y,h3,ys,h4,rfl⟩:=h1
  rw [VH,VH,qF h4]
def Oo (k:Nat):Nat × Ct→Nat × Ct→Prop
 | (i,.sl n z cs),b=>∃eY,cj k cs=some eY∧b=(om k i,.sl n z eY)
 | (i,.ob cs),b=>∃eY,cj k cs=some eY∧b=(om k i,.ob eY)
 | _,_=>False
inductive Df (k:Nat)(L:Mem):Mem→Mem→Prop
 | nil:Df k L [] L
 | cons {a b:Nat × Ct} {K K':Mem} (e:Oo k a b) (g:Df k L K K'):Df k L (a::K) (b::K')
section
variable {k i n z:Nat}{L K K':Mem}{α:Type}{E:bL α}{l:List α}
theorem LN (hE:∀a,cj k (E.f a)=some (E.f a)):∀l:List α,cj k (E.l l)=some (E.l l)
 | []=>rfl
 | a::l=>by rw [bL.eD]; exact mH (hE a) (LN hE l)
theorem Ic (hE:∀a,cj k (E.f a)=some (E.f a))(g:Df k L K K'):Df k L ((i,.sl n z (E.l l))::K) ((om k i,.sl n z (E.l l))::K'):=.cons ⟨_,LN hE l,rfl⟩ g
theorem Ew:∀(ns:List aq) (ids:List Nat),cj k (gj.l (bF ns ids))=some (gj.l (bF ns (ids.map (om k))))
 | [],_=>rfl
 | a::ns,ids=>by
  have h1:(ids.map (om k)).headD 0=om k (ids.headD 0):=by cases ids<;>rfl
  have h2:(ids.map (om k)).tail=ids.tail.map (om k):=by cases ids<;>rfl
  show cj k (gj.f (a,ids.headD 0)++gj.l (bF ns ids.tail))=some (gj.f (a,(ids.map (om k)).headD 0)++gj.l (bF ns (ids.map (om k)).tail))
  rw [h1,h2]
  exact mH (gJ rfl (gJ rfl (gJ rfl (gJ Aw rF)))) (Ew ns ids.tail)
theorem Ie {ns:List aq}{ids:List Nat}(g:Df k L K K'):Df k L ((i,.sl n z (gj.l (bF ns ids)))::K) ((om k i,.sl n z (gj.l (bF ns (ids.map (om k)))))::K'):=.cons ⟨_,Ew ns ids,rfl⟩ g
theorem zh:∀{ns:List aq} {ids:List Nat},Df k L K K'→Df k L (gd ns ids++K) (gd ns (ids.map (om k))++K')
 | [],_,g=>g
 | a::ns,ids,g=>by
  have h1:(ids.map (om k)).headD 0=om k (ids.headD 0):=by cases ids<;>rfl
  have h2:(ids.map (om k)).tail=ids.tail.map (om k):=by cases ids<;>rfl
  show Df k L (ze (a,ids.headD 0)::(gd ns ids.tail++K)) (ze (a,(ids.map (om k)).headD 0)::(gd ns (ids.map (om k)).tail++K'))
  rw [h1,h2]
  exact Ic (E:=af) (fun _=>rfl) (zh g)
end
theorem Jn {k:Nat}{L K K':Mem}(g:Df k L K K'):∃K2,K'=K2++L∧K2.length=K.length∧∀(j:Nat) b,K2[j]? = some b→∃a,K[j]? = some a∧Oo k a b:=by
 induction g with
 | nil=>exact⟨[],rfl,rfl,fun j b h=>by simp at h⟩
 | cons e g ih=>
  rename_i a b K K'
  obtain⟨K2,rfl,h2,h3⟩:=ih
  refine⟨b::K2,rfl,by rw [VH,VH,h2],fun j c hj=>?_⟩
  cases j with
  | zero=>simp only [Wc,Vw] at hj; subst hj; exact⟨a,rfl,e⟩
  | succ j=>simp only [WE] at hj ⊢; exact h3 j c hj
theorem vI {k i i':Nat}{c c':Ct}(e:Oo k (i,c) (i',c')):i'=om k i:=by
 cases c with
 | sl n z cs=>obtain⟨_,_,h⟩:=e; cases h; rfl
 | ob cs=>obtain⟨_,_,h⟩:=e; cases h; rfl
 | mp es=>exact e.elim
 | row t cs=>exact e.elim
theorem Has.eG {h h1:AHeap}{K1 K2 L:Mem}(o:Has h L)(o1:Has h1 K1)(g:Df h.next L K1 K2):Has (h.eG h1) K2:=by
 obtain⟨K3,rfl,hlen,BY⟩:=Jn g
 have hnx:(h.eG h1).next=h.next+h1.next:=rfl
 have F9:∀{i:Nat},i≠0→om h.next i=i+h.next:=fun hi=>if_neg hi
 have hget:∀{i:Nat} {cs:List AV},i≠0→h1.get i=some (.cells cs)→(h.eG h1).get (om h.next i)=some (.cells (fC h.next cs)):=fun {i cs} hi hg=>by
  rw [F9 hi,(jQ (Nat.le_add_left _ _)).1,Nat.add_sub_cancel,hg]; rfl
 have hidlt:∀{i:Nat},i<h1.next→om h.next i<(h.eG h1).next:=fun {i} hi=>by
  rw [hnx]
  by_cases h0:i=0
  ·subst h0; show 0<_; have:=o.pos; omega
  ·rw [F9 h0]; omega
 refine⟨fun j i c hj=>?_,fun j j' i c c' hj yu hi=>?_,by rw [hnx]; have:=o.pos; omega⟩
 ·by_cases hl:j<K3.length
  ·rw [VJ hl] at hj
   obtain⟨⟨i1,c1⟩,ha,he⟩:=BY j _ hj
   obtain⟨w1,w2⟩:=o1.at_ _ _ _ ha
   cases c1 with
   | sl n z cs=>
    obtain⟨eY,h3,h4⟩:=he
    cases h4
    refine⟨⟨by rw [qF h3]; exact w1.1,?_⟩,hidlt w2⟩
    rcases w1.2 with⟨h5,h6⟩| ⟨h5,rest,h6⟩
    ·left; subst h5; exact⟨rfl,h6⟩
    ·right
     refine⟨by rw [F9 h5]; omega,fC h.next rest,?_⟩
     rw [hget h5 h6,n6 rest h3]
   | ob cs=>
    obtain⟨eY,h3,h4⟩:=he
    cases h4
    refine⟨⟨by rw [F9 w1.1]; have:=w1.1; omega,?_⟩,hidlt w2⟩
    rw [hget w1.1 w1.2]
    have:=n6 [] h3
    rw [WN] at this
    rw [this]; simp [fC]
   | mp es=>exact he.elim
   | row t cs=>exact he.elim
  ·rw [VP (by omega)] at hj
   obtain⟨w1,w2⟩:=o.at_ _ _ _ hj
   exact⟨nW (fun _=>(jj w2).1) w1,by rw [hnx]; omega⟩
 ·by_cases hl:j<K3.length<;>by_cases nz:j'<K3.length
  ·rw [VJ hl] at hj
   rw [VJ nz] at yu
   obtain⟨⟨i1,c1⟩,ha,he⟩:=BY j _ hj
   obtain⟨⟨i2,c2⟩,Tl,Tm⟩:=BY j' _ yu
   have e1:=vI he
   have e2:=vI Tm
   have n1:i1≠0:=fun h0=>hi (by rw [e1,h0]; rfl)
   have n2:i2≠0:=fun h0=>hi (by rw [e2,h0]; rfl)
   rw [F9 n1] at e1
   rw [F9 n2] at e2
   have:i2=i1:=by omega
   subst this
   exact o1.nd _ _ _ _ _ ha Tl n1
  ·rw [VJ hl] at hj
   rw [VP (by omega)] at yu
   obtain⟨⟨i1,c1⟩,ha,he⟩:=BY j _ hj
   have e1:=vI he
   have n1:i1≠0:=fun h0=>hi (by rw [e1,h0]; rfl)
   rw [F9 n1] at e1
   have:=(o.at_ _ _ _ yu).2
   omega
  ·rw [VP (by omega)] at hj
   rw [VJ nz] at yu
   obtain⟨⟨i1,c1⟩,ha,he⟩:=BY j' _ yu
   have e1:=vI he
   have n1:i1≠0:=fun h0=>hi (by rw [e1,h0]; rfl)
   rw [F9 n1] at e1
   have:=(o.at_ _ _ _ hj).2
   omega
  ·rw [VP (by omega)] at hj yu
   have:=o.nd _ _ _ _ _ hj yu hi
   omega
theorem pN (h h1:AHeap):∀j,j<h.next→h.ver j=(h.eG h1).ver j:=fun j hj=>(jj hj).2.symm
theorem sF {P:Program}{T:ny}{m f deep:Nat}{h h':AHeap}{xs ys:List AV}{r y:AV}(h1:T.intr f=none)(h2:T.pure f=some deep)(h3:T.eG f=true)(hd:ik+bR≤deep)(hx:aO bR h xs ys)(hb:aZ P T.aV (iO P T m) m f ys bu=some (r,h'))(hg:cR h.next r=some y):iO P T m f xs h=some (y,h.eG h'):=by
 refine kP ?_
 simp only [qE,h1,h2,h3,if_true,hx deep hd,Vu,hb,hg,VA]
theorem G9 {P:Program}{t:TypeId}{a b c d:Int}(h:∀a b c d:Int,jF P .eql t (.agg [.int .i64 a,.int .i64 b]) (.agg [.int .i64 c,.int .i64 d])=some (.bool (fw (.agg [.int .i64 a,.int .i64 b]) (.agg [.int .i64 c,.int .i64 d])==true))) :
  jF P .eql t (.agg [.int .i64 a,.int .i64 b]) (.agg [.int .i64 c,.int .i64 d])=some (.bool (a==c&&b==d)):=by
 rw [h]
 congr 2
 have:=lz [a,b] [c,d]
 have e:fw (.agg [.int .i64 a,.int .i64 b]) (.agg [.int .i64 c,.int .i64 d])=lb (af.l [a,b]) (af.l [c,d]):=rfl
 rw [e,this]
 by_cases h1:a=c<;>by_cases h2:b=d<;>simp [h1,h2]
theorem Has.xz {h:AHeap}{pre mid N L:Mem}(o:Has h (pre++(mid++(N++L)))):Has h (pre++(N++(mid++L))):=by
 refine o.perm (List.Perm.append_left _ ?_)
 rw [←VK,←VK]
 exact List.Perm.append_right _ List.perm_append_comm
def vJ (ns:List aq)(ids:List Nat)(j:Int)(ad:Nat):List Nat:=(vF ns ids).set j.toNat ad
theorem uu:∀(ns:List aq) (ids:List Nat),bF ns (vF ns ids)=bF ns ids
 | [],_=>rfl
 | a::ns,ids=>by
  have:=uu ns ids.tail
  simp only [vF,bF,VX,List.headD_cons,List.tail_cons] at this ⊢
  rw [this]
theorem uv:∀(ns:List aq) (ids:List Nat) (i:Nat) (n:aq) (ad:Nat),ns.length=ids.length→bF (ns.set i n) (ids.set i ad)=(bF ns ids).set i (n,ad)
 | [],_,_,_,_,_=>rfl
 | a::ns,[],_,_,_,h=>by simp at h
 | a::ns,j::ids,0,n,ad,_=>rfl
 | a::ns,j::ids,i+1,n,ad,h=>by
  have:=uv ns ids i n ad (by simpa using h)
  simp only [List.set_cons_succ,bF,List.headD_cons,List.tail_cons,this]
theorem uw (ns:List aq)(ids:List Nat)(j:Int)(n:aq)(ad:Nat):bF (ns.set j.toNat n) (vJ ns ids j ad)=(bF ns ids).set j.toNat (n,ad):=by
 unfold vJ
 rw [uv ns (vF ns ids) j.toNat n ad (by unfold vF; rw [VL,fN]),uu]
section
variable {P:Program}{tf:TypeId}{h:AHeap}{pre L:Mem}{ns:List aq}{ids:List Nat}{i ad k n2 q:Nat}{j:Int}{n:aq}{args:List Int}
theorem Ha (o:Has h ((i,.sl k 4 (gj.l (bF ns ids)))::(ad,.sl n2 1 (af.l args))::(pre++(gd ns ids++L))))(hs:eV P tf=some 1)(hx:ix ns j=some n) :
  ∃h',iV P h tf (.ptr i (0+j.toNat*4+3)) (.rs ad 0 n2 1)=some h'∧
   Has h' ((i,.sl k 4 (gj.l (bF (ns.set j.toNat ⟨n.kind,n.int,n.label,args⟩) (vJ ns ids j ad))))::(pre++(gd (ns.set j.toNat ⟨n.kind,n.int,n.label,args⟩) (vJ ns ids j ad)++L))):=by
 have hn:n2=args.length:=ck (E:=af) o (q:=1) rfl
 subst hn
 obtain⟨h0,h1,h2⟩:=gT hx
 obtain⟨h',e,o'⟩:=GO (P:=P) (tf:=tf) (E:=gj) (l:=bF ns ids) (q:=0) (off:=3) (v:=((⟨n.kind,n.int,n.label,args⟩:aq),ad)) (x:=.rs ad 0 args.length 1) o rfl hs (rE hx) rfl rfl (by decide) rfl
 refine⟨h',e,?_⟩
 have e1:(bF ns ids).set j.toNat ((⟨n.kind,n.int,n.label,args⟩:aq),ad)=bF (ns.set j.toNat ⟨n.kind,n.int,n.label,args⟩) (vJ ns ids j ad):=(uw ns ids j _ ad).symm
 have e2:gd (ns.set j.toNat ⟨n.kind,n.int,n.label,args⟩) (vJ ns ids j ad)=(gd ns ids).set j.toNat (ze (⟨n.kind,n.int,n.label,args⟩,ad)):=by
  unfold gd; rw [uw,List.map_set]
 rw [←e1,e2]
 have o2:Has h' ((i,.sl k 4 (gj.l ((bF ns ids).set j.toNat ((⟨n.kind,n.int,n.label,args⟩:aq),ad))))::ze (⟨n.kind,n.int,n.label,args⟩,ad)::(pre++(gd ns ids++L))):=o'
 have hl:j.toNat<(gd ns ids).length:=by unfold gd; rw [VL,fN]; omega
 have e3:(gd ns ids).set j.toNat (ze (⟨n.kind,n.int,n.label,args⟩,ad))=(gd ns ids).take j.toNat++ze (⟨n.kind,n.int,n.label,args⟩,ad)::(gd ns ids).drop (j.toNat+1):=by
  rw [List.set_eq_take_append_cons_drop,if_pos hl]
 have e4:gd ns ids=(gd ns ids).take j.toNat++(gd ns ids)[j.toNat]::(gd ns ids).drop (j.toNat+1):=by
  conv=>lhs; rw [←Wu j.toNat (gd ns ids),VI hl]
 rw [e3]
 generalize hA:(gd ns ids).take j.toNat=A at *
 generalize hB:(gd ns ids).drop (j.toNat+1)=B at *
 rw [e4] at o2
 have o3:=(o2.del (pre.length+A.length+2))
 have e5:((i,Ct.sl k 4 (gj.l ((bF ns ids).set j.toNat ((⟨n.kind,n.int,n.label,args⟩:aq),ad))))::ze (⟨n.kind,n.int,n.label,args⟩,ad)::(pre++((A++(gd ns ids)[j.toNat]::B)++L))).eraseIdx (pre.length+A.length+2)=(i,Ct.sl k 4 (gj.l ((bF ns ids).set j.toNat ((⟨n.kind,n.int,n.label,args⟩:aq),ad))))::ze (⟨n.kind,n.int,n.label,args⟩,ad)::(pre++((A++B)++L)):=by
  show _::_::(pre++((A++(gd ns ids)[j.toNat]::B)++L)).eraseIdx (pre.length+A.length)=_
  congr 2
  rw [List.eraseIdx_append_of_length_le (by omega),WR,VK,List.eraseIdx_append_of_length_le (by omega),W7]
  simp
 rw [e5] at o3
 refine o3.perm (List.Perm.cons _ ?_)
 have k1:pre++((A++ze ((⟨n.kind,n.int,n.label,args⟩:aq),ad)::B)++L)=(pre++A)++ze (⟨n.kind,n.int,n.label,args⟩,ad)::(B++L):=by simp
 have k2:pre++((A++B)++L)=(pre++A)++(B++L):=by simp
 rw [k1,k2]
 exact List.perm_middle
theorem nk:∀(ns:List aq) (ids:List Nat) (k:Nat),bF (ns.drop k) (ids.drop k)=(bF ns ids).drop k
 | ns,ids,0=>rfl
 | [],_,k+1=>by simp [bF]
 | a::ns,[],k+1=>by
  have:=nk ns [] k
  simpa [bF] using this
 | a::ns,j::ids,k+1=>by
  have:=nk ns ids k
  simpa [bF] using this
theorem Ey (o:Has h (pre++(gd (ns.drop j.toNat) (ids.drop j.toNat)++L)))(hq:pre[q]? = some (i,.sl k 4 (gj.l (bF ns ids))))(hx:ix ns j=some n) :
  Has h ((Ks ids j,.sl n.args.length 1 (af.l n.args))::(pre++(gd (ns.drop (IntKind.i64.wrap (j+(1:Int))).toNat) (ids.drop (IntKind.i64.wrap (j+(1:Int))).toNat)++L))):=by
 obtain⟨h0,h1,h2⟩:=gT hx
 have Tn:q<pre.length:=(VB.1 hq).1
 have u7:(pre++(gd (ns.drop j.toNat) (ids.drop j.toNat)++L))[q]? = some (i,.sl k 4 (gj.l (bF ns ids))):=by rw [VJ Tn]; exact hq
 obtain⟨⟨⟨_,qn⟩,_⟩,_⟩:=o.at_ _ _ _ u7
 have qn:(gj.l (bF ns ids)).length≤1125899906842624:=qn
 rw [bL.bN,fN] at qn
 have qn:ns.length*4≤1125899906842624:=qn
 have hw:(IntKind.i64.wrap (j+(1:Int))).toNat=j.toNat+1:=by
  have hm:(j+1) % 18446744073709551616=j+1:=Int.emod_eq_of_lt (by omega) (by omega)
  have:IntKind.i64.wrap (j+(1:Int))=j+1:=by
   show (if true&&decide ((j+1) % 18446744073709551616≥9223372036854775808) then (j+1) % 18446744073709551616 - 18446744073709551616 else (j+1) % 18446744073709551616)=j+1
   rw [hm]
   have:decide (j+1≥9223372036854775808)=false:=by rw [decide_eq_false_iff_not]; omega
   rw [this]; rfl
  rw [this]; omega
 rw [hw]
 have e:gd (ns.drop j.toNat) (ids.drop j.toNat)=(Ks ids j,.sl n.args.length 1 (af.l n.args))::gd (ns.drop (j.toNat+1)) (ids.drop (j.toNat+1)):=by
  unfold gd
  rw [nk,nk]
  have hz:=sA ns ids _ _ h2
  have hl:j.toNat<(bF ns ids).length:=by rw [fN]; omega
  rw [VI hl]
  have:(bF ns ids)[j.toNat]=(n,ids.getD j.toNat 0):=(VB.1 hz).2
  rw [this]
  rfl
 rw [e] at o
 refine o.perm ?_
 exact List.perm_middle.symm
end
section
variable {P:Program}{h:AHeap}{K:Mem}{i q n b:Nat}{t:TypeId}{α:Type}{E:bL α}{l r:List α}{lo hi:Int}{k k':IntKind}
theorem Jo (T:tu P t E.n b=true)(o:Has h K)(hq:K[q]? = some (i,.sl n E.n (E.l l)))(hs:sk l 0 hi=some r):iS P t (.rs i 0 n E.n) none (some (.int k' hi)) none=some (.rs i (0+(0:Int).toNat*E.n) (hi.toNat - (0:Int).toNat) E.n):=by
 have hn:=ck o hq
 subst hn
 obtain⟨e,inf,g1,g2,g3,g4,g5,g6⟩:=iK T
 obtain⟨h0,h1,h2,_⟩:=mA hs
 simp only [iS,g1,Vu,g6,if_true,jb]
 rw [if_pos ⟨by omega,h2⟩]
 simp only [Vu,VA]
 simp
theorem Jp (T:tu P t E.n b=true)(o:Has h K)(hq:K[q]? = some (i,.sl n E.n (E.l l)))(hs:sk l lo (l.length:Int)=some r):iS P t (.rs i 0 n E.n) (some (.int k lo)) none none=some (.rs i (0+lo.toNat*E.n) ((l.length:Int).toNat - lo.toNat) E.n):=by
 have hn:=ck o hq
 subst hn
 obtain⟨e,inf,g1,g2,g3,g4,g5,g6⟩:=iK T
 obtain⟨h0,h1,h2,_⟩:=mA hs
 simp only [iS,g1,Vu,g6,if_true,jb]
 rw [if_pos ⟨h0,by omega⟩]
 simp only [Vu,VA,VF]
theorem sG (o:Has h K)(hq:K[q]? = some (i,.sl n E.n (E.l l)))(hs:sk l lo hi=some r):eJ h E.n (.rs i (0+lo.toNat*E.n) (hi.toNat - lo.toNat) E.n)=some (E.l r,r.length):=by
 have hn:=ck o hq
 subst hn
 obtain⟨⟨⟨hlen,qn⟩,k8⟩,hlt⟩:=o.at_ _ _ _ hq
 obtain⟨h0,h1,h2,_⟩:=mA hs
 obtain⟨h3,h4⟩:=xi (E:=E) hs
 unfold eJ dT
 dsimp only
 rcases k8 with⟨h5,h6⟩| ⟨h5,rest,h6⟩
 ·have hr:r.length=0:=by rw [h4]; omega
  have KR:r=[]:=VZ hr
  subst KR
  rw [if_pos (.inl h5),if_pos (by omega)]; rfl
 ·rw [if_neg (fun z=>z.elim h5 fun z=>by rw [h6] at z; cases z.2),h6]
  simp only [Vu]
  have hle:lo.toNat*E.n+(hi.toNat - lo.toNat)*E.n≤l.length*E.n:=by
   rw [←Wv]; exact We _ (by omega)
  rw [if_pos ⟨trivial,by rw [VD,hlen]; omega⟩,VU]
  have e1:((E.l l++rest).drop (lo.toNat*E.n)).take ((hi.toNat - lo.toNat)*E.n)=E.l r:=by
   rw [WQ (by rw [hlen]; omega),V3 (by rw [Ww,hlen]; omega),h3]
  rw [e1,h4]
  show some ((E.l r).map jo,_)=_
  rw [bL.vt]
end
end Go.R
namespace Go.Proofs.Ytifafejidnjckaa
open Go Go.R
open Go.IntKind (i64 u64 u8 u32)
structure aN where
 eO:Int
 ux:Int
 Dg:Int
 eR:ByteArray
 fU:List Int
 xA:br
structure ab where
 aj:Bool
 aa:List aq
 ae:List Int
structure a7 where
 jZ:Int
 la:Int
def aU:bL aN:={n:=7,f:=fun x=>[.int .i64 x.eO,.int .i64 x.ux,.int .i64 x.Dg,.str x.eR,af.fz x.fU,ah.fz x.xA.nodes,.int .i64 x.xA.root],len:=fun _=>rfl,pos:=by decide,pure:=fun x _=>pure_cons ff (pure_cons ff (pure_cons ff (pure_cons mD (pure_cons bL.bG (pure_cons bL.bG (pure_cons ff (pure_nil))))))),canon:=fun _=>rfl}
def dG:bL a7:={n:=2,f:=fun x=>[.int .i64 x.jZ,.int .i64 x.la],len:=fun _=>rfl,pos:=by decide,pure:=fun x _=>pure_cons ff (pure_cons ff (pure_nil)),canon:=fun _=>rfl}
theorem MS:tu Try.prog 22 7 96=true:=by kernel_rfl
theorem If:tu Try.prog 23 2 16=true:=by kernel_rfl
theorem To:tu Try.prog 24 1 1=true:=by kernel_rfl
theorem Tp:tu Try.prog 25 1 1=true:=by kernel_rfl
theorem gK:tu Try.prog 33 1 8=true:=by kernel_rfl
theorem yx:tu Try.prog 40 4 56=true:=by kernel_rfl
theorem Oq:tu Try.prog 93 2 16=true:=by kernel_rfl
theorem A3:eX Try.prog 3=some false:=by kernel_rfl
theorem A4:eX Try.prog 4=some false:=by kernel_rfl
theorem A5:eX Try.prog 5=some false:=by kernel_rfl
theorem Tq:eX Try.prog 31=some true:=by kernel_rfl
theorem Tr:eX Try.prog 33=some false:=by kernel_rfl
theorem QM:eX Try.prog 40=some false:=by kernel_rfl
theorem Ts:eX Try.prog 44=some true:=by kernel_rfl
theorem Ge:eX Try.prog 51=some true:=by kernel_rfl
theorem Z3:eV Try.prog 3=some 1:=by kernel_rfl
theorem Tt:eV Try.prog 31=some 2:=by kernel_rfl
theorem Tu:eV Try.prog 33=some 1:=by kernel_rfl
theorem Tv:eV Try.prog 44=some 7:=by kernel_rfl
theorem Gf:eV Try.prog 51=some 4:=by kernel_rfl
theorem U9:Try.prog.underlying 9=some .string:=by kernel_rfl
theorem LO:xm Try.prog 82=true:=by kernel_rfl
theorem Ax:xn Try.prog 113 9=true:=by kernel_rfl
theorem Ez:Try.prog.underlying 113=some (.map 115 3):=by kernel_rfl
theorem uy:Cw Try.prog 115 9=true:=by kernel_rfl
theorem Ot:On Try.prog 33=true:=by kernel_rfl
theorem Ou:∀a b c d:Int,jF Try.prog .eql 92 (.agg [.int .i64 a,.int .i64 b]) (.agg [.int .i64 c,.int .i64 d])=some (.bool (fw (.agg [.int .i64 a,.int .i64 b]) (.agg [.int .i64 c,.int .i64 d])==true)):=by
 intro a b c d
 kernel_rfl
def cJ.f (m:Nat):Option Bool:=some true
def QN (cf:CallF)(m:Nat):Prop:=∀r:Bool,cJ.f m=some r→∀h xs,aO bR h xs []→cf 11 xs h=some (.bool r,h)
def QP (cf:CallF)(m:Nat):Prop:=El cf 39 1
def QQ (cf:CallF)(m:Nat):Prop:=Ia cf 60
end Go.Proofs.Ytifafejidnjckaa
namespace Go.Proofs.Ytifafejidnjckaa
open Go Go.R
open Go.IntKind (i64 u64 u8 u32)
def xB:b5:=gX [0,2,3,7,26] [] [30,26,18,26,10,29,29] [] []
def bw.l0 (m:Nat)(l0:List aN):Nat→Int→Option (Sum Bool (Int))
 | 0,_=>none
 | k+1,i0=>if (decide (i0<(l0.length:Int)))=true then ((ix l0 i0).bind fun v0=>if (decide ((v0.xA.nodes.length:Int) > (40:Int)))=true then (some (.inl true)) else ((ix l0 i0).bind fun v1=>if (decide ((v1.fU.length:Int) > (40:Int)))=true then (some (.inl true)) else (bw.l0 m l0 k (i64.wrap (i0+(1:Int)))))) else (some (.inr i0))
def bw.f (m:Nat)(l0:List aN):Option (Bool):=(bw.l0 m l0 m (0:Int)).bind fun b4=>match b4 with | .inl r0=>some r0 | .inr i1=>some (decide ((l0.length:Int) > (60:Int)))
def bw.fin (L:Mem)(r:Bool)(s:St):Prop:=∃av,aM Try.prog (s.open xB) Try.f10.results.toList=some av∧fA s.h av (.bool r)
def QR (cf:CallF)(m:Nat):Prop:=∀(l0:List aN) (r:Bool),bw.f m l0=some r→∀h xs,aO bR h xs [aU.fz l0]→cf 10 xs h=some (.bool r,h)
section
variable {cf:CallF}{m:Nat}
theorem bw.di (L:Mem)(l0:List aN)   : dV Try.prog cf xB m (sub [1,0,1,0,0] (b7 Try.f10)) (fun k (σ:Int)=>bw.l0 m l0 k σ) (fun σ s=>match σ with | i0=>∃h0,s=⟨[aU.fz l0,.any,.int .i64 i0,.any,.any],[],h0⟩∧Has h0 (L)) (fun out e s=>(e = .exit 0∧∃i0,.inr i0=out∧∃EA Hb h0,s=⟨[aU.fz l0,.any,EA,Hb,.any],[],h0⟩∧Has h0 (L))∨(e = .ret∧∃r,.inl r=out∧bw.fin L r s)):=by
 refine me (fun _=>rfl) ?_
 rintro k i0 s out ⟨h0,rfl,o0⟩ H
 have H:bw.l0 m l0 (k+1) i0=some out:=H
 refine qq <| qq <| q0 <| qc H (fun c0 H=>?_) (fun c0 H=>?_)
 ·refine qk <| qq <| qb 1 <| qq ?_
  obtain⟨v0,e0,H⟩:=bh H
  rcases iA H with⟨c1,H⟩| ⟨c1,H⟩
  ·exact qr [.v 2 (eW (k:=.i64) (E:=aU) (l:=l0) MS e0),.v 5 (nX  (E:=aU) (l:=l0) (off:=5) h0 QM e0 rfl),.b 8 c1] <| LC <| qq <| q0 <| qt <| Or.inr (⟨rfl,_,oi H,dC (.bool true) h0 (dB (aD))⟩)
  ·obtain⟨v1,e1,H⟩:=bh H
   refine qr [.v 2 (eW (k:=.i64) (E:=aU) (l:=l0) MS e0),.v 5 (nX  (E:=aU) (l:=l0) (off:=5) h0 QM e0 rfl),.b 8 c1,.v 11 (eW (k:=.i64) (E:=aU) (l:=l0) MS e1),.v 13 (nX  (E:=aU) (l:=l0) (off:=4) h0 Tr e1 rfl)] <| qc H (fun c3 H=>?_) (fun c3 H=>?_)
   ·exact q1 <| qt <| Or.inr (⟨rfl,_,oi H,dC (.bool true) h0 (dB (aD))⟩)
   ·exact qk <| q0 <| ⟨i64.wrap (i0+(1:Int)),⟨h0,by kernel_rfl,o0⟩,H⟩
 ·exact qx 0 <| Or.inl (⟨rfl,i0,oi H,.int .i64 i0,.bool (decide (i0<(l0.length:Int))),h0,by kernel_rfl,o0⟩)
theorem pO {aV:FuncId→b5}(ha:aV 10=xB)  (l0:List aN)(h:AHeap)(L:Mem)  (o:Has h (L)){out:Bool}(H:bw.f m l0=some out) :
  ∃r h',aZ Try.prog aV cf m 10 [aU.fz l0] h=some (r,h')∧fA h' r (.bool out):=by
 refine ar (fn:=Try.f10) ha Try.func10 (by kernel_rfl) (by kernel_rfl) ?_
 refine aH (Q:=fun s=>bw.fin L out s) (fun _ _ h=>h) ?_
 have H:_=some out:=H
 unfold bw.f at H
 show dp _ cf xB m _ ⟨aU.fz l0::og [],[],h⟩ _
 refine q1 <| qq <| qq <| q0 <| qb 0 ?_
 obtain⟨b4,e2,H⟩:=bh H
 refine ql (bw.di L l0   (0:Int) _ _ ⟨h,by kernel_rfl,o⟩ e2) ?_
 rintro e s (⟨rfl,i1,rfl,g0,g1,h1,rfl,o1⟩| ⟨rfl,r0,rfl,xC⟩)
 ·try dsimp only at H
  obtain rfl:=oi H
  exact q1 <| qt <| ⟨.inl rfl,dC (.bool (decide ((l0.length:Int) > (60:Int)))) h1 (dB (aD))⟩
 ·try dsimp only at H
  obtain rfl:=oi H
  exact⟨.inl rfl,xC⟩
end
end Go.Proofs.Ytifafejidnjckaa
namespace Go.Proofs.Ytifafejidnjckaa
open Go Go.R
open Go.IntKind (i64 u64 u8 u32)
def xD:b5:=gX [0,1,4,5,10,14,25] [] [124,108,123,116,84,116,52,123,123] [] []
def bW.l0 (m:Nat)(a0:List Int)(b0:List Int):Nat→Int→Option (Sum Bool (Int))
 | 0,_=>none
 | k+1,i0=>if (decide (i0<(a0.length:Int)))=true then ((ix a0 i0).bind fun v0=>(ix b0 i0).bind fun v1=>if (!(v0==v1))=true then (some (.inl false)) else (bW.l0 m a0 b0 k (i64.wrap (i0+(1:Int))))) else (some (.inr i0))
def bW.f (m:Nat)(a0:List Int)(b0:List Int):Option (Bool):=if (!((a0.length:Int)==(b0.length:Int)))=true then (some false) else ((bW.l0 m a0 b0 m (0:Int)).bind fun b4=>match b4 with | .inl r0=>some r0 | .inr i1=>some true)
def bW.fin (L:Mem)(r:Bool)(s:St):Prop:=∃av,aM Try.prog (s.open xD) Try.f14.results.toList=some av∧fA s.h av (.bool r)
def QS (cf:CallF)(m:Nat):Prop:=∀(a0:List Int) (b0:List Int) (r:Bool),bW.f m a0 b0=some r→∀h xs,aO bR h xs [af.fz a0,af.fz b0]→cf 14 xs h=some (.bool r,h)
section
variable {cf:CallF}{m:Nat}
theorem bW.di (L:Mem)(a0:List Int)(b0:List Int)   : dV Try.prog cf xD m (sub [1,1,0,1,0,0] (b7 Try.f14)) (fun k (σ:Int)=>bW.l0 m a0 b0 k σ) (fun σ s=>match σ with | i0=>∃h0,s=⟨af.fz a0::af.fz b0 :: .any :: .int .i64 i0::sv [],[],h0⟩∧Has h0 (L)) (fun out e s=>(e = .exit 0∧∃i0,.inr i0=out∧∃n7 vK Jq EB h0,s=⟨[n7,vK,.any,Jq,.any,EB,.any],[],h0⟩∧Has h0 (L))∨(e = .ret∧∃r,.inl r=out∧bW.fin L r s)):=by
 refine me (fun _=>rfl) ?_
 rintro k i0 s out ⟨h0,rfl,o0⟩ H
 have H:bW.l0 m a0 b0 (k+1) i0=some out:=H
 refine qq <| qq <| q0 <| qc H (fun c1 H=>?_) (fun c1 H=>?_)
 ·refine qk <| qq <| qb 1 <| qq ?_
  obtain⟨v0,e0,H⟩:=bh H
  obtain⟨v1,e1,H⟩:=bh H
  refine qr [.v 2 (eW (k:=.i64) (E:=af) (l:=a0) gK e0),.v 3 (ij  (E:=af) (l:=a0) h0 A3 e0 rfl),.v 6 (eW (k:=.i64) (E:=af) (l:=b0) gK e1),.v 7 (ij  (E:=af) (l:=b0) h0 A3 e1 rfl)] <| qc H (fun c2 H=>?_) (fun c2 H=>?_)
  ·exact q1 <| qt <| Or.inr (⟨rfl,_,oi H,dC (.bool false) h0 (dB (aD))⟩)
  ·exact qk <| q0 <| ⟨i64.wrap (i0+(1:Int)),⟨h0,by kernel_rfl,o0⟩,H⟩
 ·exact qx 0 <| Or.inl (⟨rfl,i0,oi H,af.fz a0,af.fz b0,.int .i64 i0,.bool (decide (i0<(a0.length:Int))),h0,by kernel_rfl,o0⟩)
theorem qR {aV:FuncId→b5}(ha:aV 14=xD)  (a0:List Int)(b0:List Int)(h:AHeap)(L:Mem)  (o:Has h (L)){out:Bool}(H:bW.f m a0 b0=some out) :
  ∃r h',aZ Try.prog aV cf m 14 [af.fz a0,af.fz b0] h=some (r,h')∧fA h' r (.bool out):=by
 refine ar (fn:=Try.f14) ha Try.func14 (by kernel_rfl) (by kernel_rfl) ?_
 refine aH (Q:=fun s=>bW.fin L out s) (fun _ _ h=>h) ?_
 have H:_=some out:=H
 unfold bW.f at H
 show dp _ cf xD m _ ⟨af.fz a0::af.fz b0::Ap [],[],h⟩ _
 refine q1 <| qq <| qq <| q0 <| qc H (fun c0 H=>?_) (fun c0 H=>?_)
 ·obtain rfl:=oi H
  exact q1 <| qt <| ⟨.inl rfl,dC (.bool false) h (dB (aD))⟩
 ·refine qk <| qq <| qq <| q0 <| qb 0 ?_
  obtain⟨b4,e2,H⟩:=bh H
  refine ql (bW.di L a0 b0   (0:Int) _ _ ⟨h,by kernel_rfl,o⟩ e2) ?_
  rintro e s (⟨rfl,i1,rfl,g0,g1,g2,g3,h1,rfl,o1⟩| ⟨rfl,r0,rfl,xC⟩)
  ·try dsimp only at H
   obtain rfl:=oi H
   exact q1 <| qt <| ⟨.inl rfl,dC (.bool true) h1 (dB (aD))⟩
  ·try dsimp only at H
   obtain rfl:=oi H
   exact⟨.inl rfl,xC⟩
end
end Go.Proofs.Ytifafejidnjckaa
namespace Go.Proofs.Ytifafejidnjckaa
open Go Go.R
open Go.IntKind (i64 u64 u8 u32)
end Go.Proofs.Ytifafejidnjckaa
namespace Go.Proofs.Ytifafejidnjckaa
open Go Go.R
open Go.IntKind (i64 u64 u8 u32)
def Ay:b5:=gX [0] [14000000001] [1] [] []
def iY.f (m:Nat)  : Option (ab):=some (ab.mk true ([]:List aq) ([]:List Int))
def iY.fin (L:Mem)  (r:ab)(s:St):Prop:=∃fc gm gp:Nat,aM Try.prog (s.open Ay) Try.f26.results.toList=some (.ptr fc 0)∧Has s.h ((fc,.ob [.bool r.aj,.rs gm 0 r.aa.length 4,.rs gp 0 r.ae.length 1])::(gm,.sl r.aa.length 4 (ah.l r.aa))::(gp,.sl r.ae.length 1 (af.l r.ae))::L)
def QT (cf:CallF)(m:Nat):Prop:=∀ (r:ab),iY.f m  = some r→∀h L,Has h (L)→∀xs,xs.map aK=[]→∃fc gm gp h',cf 26 xs h=some (.ptr fc 0,h')∧Has h' ((fc,.ob [.bool r.aj,.rs gm 0 r.aa.length 4,.rs gp 0 r.ae.length 1])::(gm,.sl r.aa.length 4 (ah.l r.aa))::(gp,.sl r.ae.length 1 (af.l r.ae))::L)
section
variable {cf:CallF}{m:Nat}
theorem sH {aV:FuncId→b5}(ha:aV 26=Ay)   (h:AHeap)(L:Mem)  (o:Has h (L)){out:ab}(H:iY.f m  = some out) :
  ∃r h',aZ Try.prog aV cf m 26 [] h=some (r,h')∧∃fc gm gp:Nat,r = .ptr fc 0∧Has h' ((fc,.ob [.bool out.aj,.rs gm 0 out.aa.length 4,.rs gp 0 out.ae.length 1])::(gm,.sl out.aa.length 4 (ah.l out.aa))::(gp,.sl out.ae.length 1 (af.l out.ae))::L):=by
 refine ar (fn:=Try.f26) ha Try.func26 (by kernel_rfl) (by kernel_rfl) ?_
 refine aH (Q:=fun s=>iY.fin L out s) (fun _ _ ⟨h1,fc,gm,gp,h2,h3⟩=>⟨h1,_,h2,fc,gm,gp,rfl,h3⟩) ?_
 have H:_=some out:=H
 unfold iY.f at H
 show dp _ cf Ay m _ ⟨[.any],[none],h⟩ _
 refine q1 <| qq ?_
 have o0:Has h (((0),.sl (([]:List aq).length) 4 (ah.l ([]:List aq)))::L):=Has.nil o 4
 have o1:Has h ((((0)),.sl (([]:List Int).length) 1 (af.l ([]:List Int)))::((0),.sl (([]:List aq).length) 4 (ah.l ([]:List aq)))::L):=Has.nil o0 1
 obtain⟨aI,h0,e0,o2⟩:=gw (cs:=[.bool true,.rs (0) 0 (([]:List aq).length) 4,.rs ((0)) 0 (([]:List Int).length) 1]) o1 (by kernel_rfl)
 obtain rfl:=oi H
 exact qr [.a 1 e0] <| qt <| ⟨.inl rfl,⟨aI,(0),((0)),by kernel_rfl,he (Has.front (Has.front (Has.front o2 1 rfl) 2 rfl) 2 rfl)⟩⟩
end
end Go.Proofs.Ytifafejidnjckaa
