/- Part of the proof: RBuf1, RBuf2, RBuf3, RBuf4, RBuf5, RG9, RFix, RGN, RGL, RSrt, RGS, RGC, RPT, RDV, RMB, RGR, QW, Q10, Q14, Q25, Q26, Q32, Q37, Q41, Q42. -/
import Derived.Test.YtifafejidnjckaaK5
import Derived.Shelf.LaysM
import Derived.Shelf.Bytes.GrowAt
import Derived.Lib.ByteType
import Derived.Lib.BufferAt
import Derived.Lib.BufferKept
import Derived.Lib.Walk
import Derived.Lib.BufferWrite
import Derived.Lib.Hide
import Derived.WalkKit
import Derived.BigCall
import Derived.BigGuard
import Derived.KernelRfl
import Derived.Shelf.Sort.Plain
import Derived.Shelf.Slices.In.SortNone
import Derived.Shelf.Slices.CompactI
import Derived.Test.YtifafejidnjckaaProg
set_option linter.unusedVariables false
set_option linter.unusedSimpArgs false
set_option maxRecDepth 100000
open Array renaming getElem?_eq_some_iff → UH, getElem?_modify → Vc
open Bool renaming and_eq_true → Ud, false_eq_true → Um, not_true → Vo, true_and → VI
open Eq renaming trans → VB
open Int renaming toNat_natCast → Un
open List renaming getElem?_eq_some_iff → Uh, getElem?_eq_getElem → Uj, length_append → Uk, length_set → Ul, drop_eq_getElem_cons → Uo, length_cons → Up, append_assoc → Uq, getElem?_append_left → Ur, getElem?_append_right → Us, mem_of_getElem? → Ut, replicate → Uu, all_eq_true → Uv, length_map → Ux, mem_cons → UA, mem_singleton → UB, map_cons → UC, length_nil → UD, mem_append → UF, map_append → UG, take_append_of_le_length → UK, cons_append → UM, nil_append → UN, take_of_length_le → UP, eq_nil_of_length_eq_zero → UQ, getElem?_cons_zero → UR, drop_zero → US, mem_append_left → U3, length_take → U8, getElem?_of_mem → Vd, getElem?_cons_succ → Ve, getElem?_map → Vh, take_append_drop → Vk, append_nil → Vy
open Nat renaming le_refl → Ue, zero_add → Uy, beq → UL, le_trans → UT, lt_succ_self → UY, mul_le_mul_right → U1, le_succ → Vi, sub_self → Vm, lt_succ_of_lt → Vn, add_sub_cancel_left → Vp, ble → Vv, min_eq_left → Vw, zero_lt_one → Vx
open Option renaming bind_eq_some_iff → T9, bind_some → Ua, map_eq_some_iff → Ub, map_some → Ug, getD_some → U4
open Option.some renaming injEq → Uc, inj → UX
open Prod.mk renaming injEq → Ui
namespace Go.R
open Go Go.Proofs Go.Shelf Go.RowKit
variable {P:Program}{ρ:Ren}
end Go.R
namespace Go.R
open Go Go.Proofs Go.Shelf Go.RowKit
variable {P:Program}{ρ:Ren}
end Go.R
namespace Go.R
open Go Go.Proofs Go.Shelf Go.RowKit
variable {P:Program}{ρ:Ren}
end Go.R
namespace Go.R
open Go Go.Proofs Go.Shelf Go.RowKit
theorem Fr.none {c:Cx}{L0:Nat→Prop}(hrel:HRel c L0):Fr L0 c none0 (fun _=>0) [] ⟨fun _=>.any,fun _=>none,c.h⟩ ⟨#[],[]⟩:=
 ⟨rfl,by rw [show un L0 none0=L0 from by funext b; simp [un,none0]]; exact hrel,fun t=>by simp [SR,VR],fun k cs h=>(by cases h),fun k k' h=>(by cases h),fun t k off _ h=>(by cases h),rfl,fun b h=>h.elim⟩
end Go.R
namespace Go.R
open Go Go.Proofs Go.Shelf Go.RowKit
theorem intr_cons {P:Program}{f0:FuncId}{g0:List AV→AHeap→Option (AV × AHeap)}{intr:FuncId→Option (List AV→AHeap→Option (AV × AHeap))}(h0:CallOK P fun f' args h=>if f'=f0 then g0 args h else none)
  (hs:∀args h r h',g0 args h=some (r,h')→Steady h h') (h:IntrOK P intr):IntrOK P fun f=>if f=f0 then some g0 else intr f:=by
 intro f g hg
 dsimp only at hg
 split at hg
 ·rename_i hf
  subst hf
  cases hg
  exact⟨h0,hs⟩
 ·exact h f g hg
end Go.R
namespace Go.R
open Go
section
variable {h:AHeap}{L:Mem}{e:TypeId}{id i:Nat}{bs news r:List Int}{c:Int}{s:ByteArray}
variable {cf:CallF}{f:FuncId}
end
def jn {α β:Type}(b:α→Option β)(a:(α→Option β)→Option β):Option β:=a b
theorem ov {α β:Type}{b:α→Option β}{a:(α→Option β)→Option β}{out:β}(H:jn b a=some out):∃j:α→Option β,(∀x,j x=b x)∧a j=some out:=⟨b,fun _=>rfl,H⟩
theorem bl {α β:Type}{o:Option α}{f:α→Option β}{b:β}(h:o.bind f=some b):∃a,o=some a∧f a=some b:=T9.1 h
theorem RH {α:Type}{c:Bool}{a b z:α}(h:c=true)(H:(if c=true then a else b)=z):a=z:=(if_pos h).symm.trans H
theorem RI {α:Type}{c:Bool}{a b z:α}(h:c=false)(H:(if c=true then a else b)=z):b=z:=(if_neg (FO h)).symm.trans H
abbrev sQ (l:List AV):List AV:=.any :: .any :: .any::l
abbrev nK (l:List AV):List AV:=.any :: .any :: .any :: .any::l
abbrev FU (l:List AV):List AV:=.any :: .any :: .any :: .any :: .any::l
abbrev vD (l:List AV):List AV:=.any :: .any :: .any :: .any :: .any :: .any::l
abbrev H3 (l:List AV):List AV:=.any :: .any :: .any :: .any :: .any :: .any :: .any::l
abbrev zI (l:List AV):List AV:=.any :: .any :: .any :: .any :: .any :: .any :: .any :: .any::l
abbrev RJ (l:List AV):List AV:=.any :: .any :: .any :: .any :: .any :: .any :: .any :: .any :: .any::l
abbrev Ko (l:List AV):List AV:=.any :: .any :: .any :: .any :: .any :: .any :: .any :: .any :: .any :: .any::l
abbrev rV (l:List AV):List AV:=.any :: .any :: .any :: .any :: .any :: .any :: .any :: .any :: .any :: .any :: .any::l
abbrev uV (l:List AV):List AV:=.any :: .any :: .any :: .any :: .any :: .any :: .any :: .any :: .any :: .any :: .any :: .any::l
abbrev qm (l:List AV):List AV:=.any :: .any :: .any :: .any :: .any :: .any :: .any :: .any :: .any :: .any :: .any :: .any :: .any::l
abbrev wN (l:List AV):List AV:=.any :: .any :: .any :: .any :: .any :: .any :: .any :: .any :: .any :: .any :: .any :: .any :: .any :: .any::l
abbrev MP (l:List AV):List AV:=.any :: .any :: .any :: .any :: .any :: .any :: .any :: .any :: .any :: .any :: .any :: .any :: .any :: .any :: .any::l
abbrev FV (l:List AV):List AV:=.any :: .any :: .any :: .any :: .any :: .any :: .any :: .any :: .any :: .any :: .any :: .any :: .any :: .any :: .any :: .any::l
abbrev MQ (l:List AV):List AV:=.any :: .any :: .any :: .any :: .any :: .any :: .any :: .any :: .any :: .any :: .any :: .any :: .any :: .any :: .any :: .any :: .any::l
abbrev MR (l:List AV):List AV:=.any :: .any :: .any :: .any :: .any :: .any :: .any :: .any :: .any :: .any :: .any :: .any :: .any :: .any :: .any :: .any :: .any :: .any :: .any :: .any::l
abbrev MS (l:List AV):List AV:=.any :: .any :: .any :: .any :: .any :: .any :: .any :: .any :: .any :: .any :: .any :: .any :: .any :: .any :: .any :: .any :: .any :: .any :: .any :: .any :: .any::l
abbrev MT (l:List AV):List AV:=.any :: .any :: .any :: .any :: .any :: .any :: .any :: .any :: .any :: .any :: .any :: .any :: .any :: .any :: .any :: .any :: .any :: .any :: .any :: .any :: .any :: .any :: .any::l
abbrev MU (l:List AV):List AV:=.any :: .any :: .any :: .any :: .any :: .any :: .any :: .any :: .any :: .any :: .any :: .any :: .any :: .any :: .any :: .any :: .any :: .any :: .any :: .any :: .any :: .any :: .any :: .any :: .any::l
abbrev MV (l:List AV):List AV:=.any :: .any :: .any :: .any :: .any :: .any :: .any :: .any :: .any :: .any :: .any :: .any :: .any :: .any :: .any :: .any :: .any :: .any :: .any :: .any :: .any :: .any :: .any :: .any :: .any :: .any :: .any::l
abbrev MW (l:List AV):List AV:=.any :: .any :: .any :: .any :: .any :: .any :: .any :: .any :: .any :: .any :: .any :: .any :: .any :: .any :: .any :: .any :: .any :: .any :: .any :: .any :: .any :: .any :: .any :: .any :: .any :: .any :: .any :: .any :: .any::l
abbrev MX (l:List AV):List AV:=.any :: .any :: .any :: .any :: .any :: .any :: .any :: .any :: .any :: .any :: .any :: .any :: .any :: .any :: .any :: .any :: .any :: .any :: .any :: .any :: .any :: .any :: .any :: .any :: .any :: .any :: .any :: .any :: .any :: .any :: .any :: .any :: .any :: .any::l
end Go.R
namespace Go.R
open Go
def sR {X:Type}(F:CallF→Option X):Prop:=∀cf x,F cf=some x→∃l:List (FuncId × List AV × AHeap × (AV × AHeap)),(∀e∈l,cf e.1 e.2.1 e.2.2.1=some e.2.2.2)∧∀zJ:CallF,(∀e∈l,zJ e.1 e.2.1 e.2.2.1=some e.2.2.2)→F zJ=some x
theorem bp {X:Type}(x:Option X):sR fun _=>x:=by
 intro cf y h
 refine⟨[],?_,fun _ _=>h⟩
 intro e he; cases he
theorem Dv (f:FuncId)(args:List AV)(h:AHeap):sR fun cf=>cf f args h:=by
 intro cf x hx
 refine⟨[(f,args,h,x)],?_,fun zJ h'=>h' (f,args,h,x) (UB.2 rfl)⟩
 intro e he; cases (UB.1 he); exact hx
theorem dL {X Y:Type}{F:CallF→Option X}{G:X→CallF→Option Y}(hF:sR F)(hG:∀y,sR (G y)):sR fun cf=>(F cf).bind fun y=>G y cf:=fun cf z hz=>by
 obtain⟨y,h1,h2⟩:=T9.1 hz
 obtain⟨l1,a1,b1⟩:=hF cf y h1
 obtain⟨l2,a2,b2⟩:=hG y cf z h2
 refine⟨l1++l2,fun e he=>(UF.1 he).elim (a1 e) (a2 e),fun zJ h'=>?_⟩
 have e1:=b1 zJ fun e he=>h' e (U3 _ he)
 have e2:=b2 zJ fun e he=>h' e (List.mem_append_right _ he)
 show (F zJ).bind _=_
 rw [e1,Ua,e2]
theorem uW {X Y:Type}{F:CallF→Option X}{g:X→Y}(hF:sR F):sR fun cf=>(F cf).map g:=by
 intro cf x hx
 obtain⟨y,h1,h2⟩:=Ub.1 hx
 obtain⟨l,a,b⟩:=hF cf y h1
 refine⟨l,a,fun zJ h'=>?_⟩
 show (F zJ).map g=some x
 rw [b zJ h',Ug,h2]
theorem jb {X:Type}{c:Prop}[Decidable c]{F G:CallF→Option X}(hF:sR F)(hG:sR G):sR fun cf=>if c then F cf else G cf:=by
 by_cases h:c
 ·simp only [h,if_true]; exact hF
 ·simp only [h,if_false]; exact hG
section
variable {P:Program}{aE ds:List Nat}
theorem ow {X:Type}{F:CallF→Option X}(h:∀cf zJ,F cf=F zJ):sR F:=by
 intro cf x hx
 refine⟨[],?_,fun zJ _=>(h zJ cf).trans hx⟩
 intro e he; cases he
theorem zK (e:Operand→AV)(s:RS)(o:Oper):sR fun cf=>xW P cf aE ds e s o:=by
 obtain⟨dst,op,type,pos,after,guard⟩:=o
 cases op with
 | call c=>
  obtain⟨callee,args,at_⟩:=c
  cases callee with
  | value f=>
   simp only [xW]
   cases e f with
   | fn f cap=>exact jb (uW (dL (Dv _ _ _) fun y=>bp _)) (bp _)
   | _=>exact bp _
  | _=>exact ow fun _ _=>rfl
 | makeFunc fn first cap=>cases fn<;>exact ow fun _ _=>rfl
 | makeMap t r=>cases r<;>exact ow fun _ _=>rfl
 | _=>exact ow fun _ _=>rfl
theorem BM (ops:List Oper)(s:RS)(o:Oper):sR fun cf=>lO P cf aE ops s o:=by
 refine dL (bp (gE ops s.ρ o)) fun w=>?_
 exact jb (zK _ _ _) (bp _)
theorem wO (ops:List Oper):∀(os:List Oper) (s:RS),sR fun cf=>p8 P cf aE ops s os
 | [],s=>bp _
 | o::os,s=>dL (BM ops s o) fun s'=>wO ops os s'
theorem wP (ops:List Oper):∀(os:List Oper) (s:RS),sR fun cf=>nO P cf aE ops s os
 | [],s=>bp _
 | o::os,s=>dL (bp (gE ops s.ρ o)) fun w=>dL (jb (zK _ _ _) (bp _)) fun s1=>uW (wP ops os s1)
theorem yw (ops:Array Oper)(s:RS):sR fun cf=>jk P cf aE ops s:=by
 unfold jk
 exact jb (dL (wP _ _ _) fun x=>bp _) (bp _)
theorem tE {f:CallF→St→Option (Ex × St)}(hf:∀s,sR fun cf=>f cf s):∀(n:Nat) (s:St),sR fun cf=>kl (f cf) n s
 | 0,s=>bp _
 | n+1,s=>dL (hf s) fun x=>by
  obtain⟨x,s'⟩:=x
  cases x with
  | norm=>exact tE hf n s'
  | _=>exact bp _
theorem iH (A:b4)(n:Nat):∀(c:Code) (s:St),sR fun cf=>bF P cf A n c s
 | .skip,s=>by simp only [bF]; exact bp _
 | .label _,s=>by simp only [bF]; exact bp _
 | .ret,s=>by simp only [bF]; exact bp _
 | .exit _,s=>by simp only [bF]; exact bp _
 | .seq a b,s=>by
  simp only [bF]
  exact dL (iH A n a s) fun x=>by
   obtain⟨x,s'⟩:=x
   cases x with
   | norm=>exact iH A n b s'
   | _=>exact bp _
 | .cond k x y,s=>by
  simp only [bF]
  exact dL (bp _) fun t=>jb (iH A n x s) (iH A n y s)
 | .block id b,s=>by simp only [bF]; exact uW (iH A n b s)
 | .loop b,s=>by simp only [bF]; exact tE (fun s=>iH A n b s) n s
 | .region r ops draw,s=>by
  simp only [bF]
  exact dL (bp _) fun s=>dL (jb (yw _ _) (wO _ _ _)) fun s'=>bp _
 | .rangeFunc ..,s=>by simp only [bF]; exact bp _
 | .scope _,s=>by simp only [bF]; exact bp _
 | .goto _,s=>by simp only [bF]; exact bp _
 | .refuse _,s=>by simp only [bF]; exact bp _
theorem jg (aV:FuncId→b4)(m:Nat)(f:FuncId)(args:List AV)(h:AHeap):sR fun cf=>ba P aV cf m f args h:=by
 unfold ba
 refine dL (bp _) fun fn=>dL (bp _) fun c=>jb (dL (iH _ _ _ _) fun x=>bp _) (bp _)
end
def p4 (P:Program)(T:mV)(m:Nat)(cf:CallF):CallF:=fun f args h=>
 match T.intr f with
 | some g=>g args h
 | none=>
  match T.pure f with
  | some deep=>if T.dX f then (bq h deep args).bind fun us=>(ba P T.aV cf m f us bz).bind fun x=>(cG h.next x.1).map fun r=>(r,h.dX x.2) else
    if cw args then (ba P T.aV cf m f (dh args) bz).bind fun x=>(b5 x.2 deep x.1).map fun r=>(r,h) else
    match bq h deep args with
    | some zs=>(ba P T.aV cf m f zs bz).bind fun x=>(gh x.2 deep x.1).map fun r=>(r,h)
    | none=>ba P T.aV cf m f (args.map aK) h
  | none=>ba P T.aV cf m f (args.map aK) h
section
variable {P:Program}{T:mV}{m:Nat}
theorem tF (f:FuncId)(args:List AV)(h:AHeap):sR fun cf=>p4 P T m cf f args h:=by
 unfold p4
 cases T.intr f with
 | some g=>exact bp _
 | none=>
  cases T.pure f with
  | none=>exact jg _ _ _ _ _
  | some deep=>
   refine jb (dL (bp _) fun us=>dL (jg _ _ _ _ _) fun x=>bp _) ?_
   refine jb (dL (jg _ _ _ _ _) fun x=>bp _) ?_
   cases bq h deep args with
   | none=>exact jg _ _ _ _ _
   | some zs=>exact dL (jg _ _ _ _ _) fun x=>bp _
theorem rW:∀(n:Nat) (f:FuncId) (args:List AV) (h:AHeap) (x:AV × AHeap),eA P T m n f args h=some x→eA P T m (n+1) f args h=some x
 | 0,f,args,h,x,hc=>by simp [eA] at hc
 | n+1,f,args,h,x,hc=>by
  obtain⟨l,h1,h2⟩:=tF (P:=P) (T:=T) (m:=m) f args h _ _ hc
  exact h2 (eA P T m (n+1)) fun e he=>rW n _ _ _ _ (h1 e he)
theorem ox {n k:Nat}(hk:n≤k){f:FuncId}{args:List AV}{h:AHeap}{x:AV × AHeap}(hc:eA P T m n f args h=some x):eA P T m k f args h=some x:=by
 induction hk with
 | refl=>exact hc
 | step _ ih=>exact rW _ _ _ _ _ ih
open Classical in
noncomputable def iz (P:Program)(T:mV)(m:Nat):CallF:=fun f args h=>if H:∃x n,eA P T m n f args h=some x then some (Classical.choose H) else none
theorem ky {f:FuncId}{args:List AV}{h:AHeap}{x:AV × AHeap}:iz P T m f args h=some x↔∃n,eA P T m n f args h=some x:=by
 have key:∀(H:∃x n,eA P T m n f args h=some x) (n:Nat),eA P T m n f args h=some x→Classical.choose H=x:=fun H n hn=>by
  obtain⟨k,hk⟩:=Classical.choose_spec H
  have h1:=ox (Nat.le_max_left n k) hn
  have h2:=ox (Nat.le_max_right n k) hk
  rw [h1] at h2
  exact (UX h2).symm
 unfold iz
 constructor
 ·intro hc
  split at hc
  ·rename_i H
   obtain⟨n,hn⟩:=Classical.choose_spec H
   cases hc
   exact⟨n,hn⟩
  ·cases hc
 ·rintro⟨n,hn⟩
  have H:∃x n,eA P T m n f args h=some x:=⟨x,n,hn⟩
  rw [dif_pos H,key H n hn]
theorem BN (l:List (FuncId × List AV × AHeap × (AV × AHeap)))(hl:∀e∈l,iz P T m e.1 e.2.1 e.2.2.1=some e.2.2.2):∃n,∀e∈l,eA P T m n e.1 e.2.1 e.2.2.1=some e.2.2.2:=by
 induction l with
 | nil=>exact⟨0,fun e he=>by cases he⟩
 | cons a l ih=>
  obtain⟨n,hn⟩:=ih fun e he=>hl e (List.mem_cons_of_mem _ he)
  obtain⟨k,hk⟩:=ky.1 (hl a List.mem_cons_self)
  refine⟨max n k,fun e he=>?_⟩
  rcases UA.1 he with rfl | he
  ·exact ox (Nat.le_max_right n k) hk
  ·exact ox (Nat.le_max_left n k) (hn e he)
theorem kz {f:FuncId}{args:List AV}{h:AHeap}{x:AV × AHeap}(hc:p4 P T m (iz P T m) f args h=some x):iz P T m f args h=some x:=by
 obtain⟨l,h1,h2⟩:=tF (P:=P) (T:=T) (m:=m) f args h _ _ hc
 obtain⟨n,hn⟩:=BN l h1
 exact ky.2 ⟨n+1,h2 (eA P T m n) hn⟩
theorem Dw (hP:Fit P)(pX:IntrOK P T.intr):CallOK P (iz P T m):=fun f args h r h' hc=>by
 obtain⟨n,hn⟩:=ky.1 hc
 exact oe hP pX m n f args h r h' hn
theorem aX:Has bz []:=⟨fun j i c h=>by simp at h,fun j j' i c c' h=>by simp at h,Vx⟩
end
section
variable {P:Program}{T:mV}{m f deep:Nat}{h:AHeap}{xs ys:List AV}{y:AV}{x:AV × AHeap}
theorem FW (h1:T.intr f=none)(h2:T.pure f=some deep)(h3:T.dX f=false)(hd:iu+bQ≤deep)(hx:wJ xs ys)(hb:∃r h',ba P T.aV (iz P T m) m f ys bz=some (r,h')∧ML h' r y):iz P T m f xs h=some (y,h):=by
 obtain⟨r,h',hb,hf⟩:=hb
 refine kz ?_
 have hd:iu+4503599627370496≤deep:=UT (Nat.add_le_add_left (by decide) _) hd
 simp only [p4,h1,h2,h3,Um,if_false,hx.1,if_true,hx.2,hb,Ua,hf deep hd,Ug]
theorem bw (h1:T.intr f=none)(h2:T.pure f=some deep)(h3:T.dX f=false)(hd:iu+bQ≤deep)(hx:aP bQ h xs ys)(hb:∃r h',ba P T.aV (iz P T m) m f ys bz=some (r,h')∧fL h' r y):iz P T m f xs h=some (y,h):=by
 have h4:=hx deep hd
 have Fc:iu+4503599627370496≤deep:=UT (Nat.add_le_add_left (by decide) _) hd
 by_cases hn:cw xs=true
 ·have:=gv deep xs ys hn h4
  obtain⟨r,h',hb,hf⟩:=hb
  exact FW h1 h2 h3 hd ⟨hn,this.symm⟩ ⟨r,h',hb,hf.Fk⟩
 ·obtain⟨r,h',hb,hf⟩:=hb
  refine kz ?_
  simp only [p4,h1,h2,h3,Um,if_false,hn,h4,hb,Ua,hf deep Fc,Ug]
theorem gw (h1:T.intr f=none)(h2:T.pure f=none)(hx:xs.map aK=ys)(hb:ba P T.aV (iz P T m) m f ys h=some x):iz P T m f xs h=some x:=by
 refine kz ?_
 simp only [p4,h1,h2,hx,hb]
theorem FX {g:List AV→AHeap→Option (AV × AHeap)}(h1:T.intr f=some g)(hx:g xs h=some x):iz P T m f xs h=some x:=by
 refine kz ?_
 simp only [p4,h1,hx]
theorem rX {g:List AV→AHeap→Option (AV × AHeap)}(h1:T.intr f=some g):iz P T m f xs h=g xs h:=by
 cases hg:g xs h with
 | some x=>exact FX h1 hg
 | none=>
  cases hc:iz P T m f xs h with
  | none=>rfl
  | some x=>
   obtain⟨n,hn⟩:=ky.1 hc
   cases n with
   | zero=>simp [eA] at hn
   | succ n=>simp only [eA,h1,hg] at hn; cases hn
end
end Go.R
namespace Go.R
open Go
def bC:List ao→List Nat→List (ao × Nat)
 | [],_=>[]
 | n::ns,ids=>(n,ids.headD 0)::bC ns ids.tail
def Jt (ids:List Nat)(i:Int):Nat:=ids.getD i.toNat 0
def uX (ns:List ao)(ids:List Nat):List Nat:=(bC ns ids).map fun p=>p.2
def fU:bL (ao × Nat):={n:=4,f:=fun x=>[.int .i64 x.1.kind,.int .i64 x.1.int,.str x.1.label,.rs x.2 0 x.1.args.length 1],len:=fun _=>rfl,pos:=by decide,flat:=false,pure:=fun _ h=>(by cases h),canon:=fun _=>rfl}
def yx (p:ao × Nat):Nat × Ct:=(p.2,.sl p.1.args.length 1 (af.l p.1.args))
def fM (ns:List ao)(ids:List Nat):Mem:=(bC ns ids).map yx
theorem fy:∀(ns:List ao) (ids:List Nat),(bC ns ids).length=ns.length
 | [],_=>rfl
 | n::ns,ids=>by simp [bC,fy ns]
theorem yy (ids:List Nat):ids.headD 0=ids.getD 0 0:=by cases ids<;>rfl
theorem BO (ids:List Nat)(i:Nat):ids.tail.getD i 0=ids.getD (i+1) 0:=by cases ids<;>simp
theorem rY:∀(ns:List ao) (ids:List Nat) (i:Nat) (n:ao),ns[i]? = some n→(bC ns ids)[i]? = some (n,ids.getD i 0)
 | [],_,i,n,h=>by simp at h
 | a::ns,ids,0,n,h=>by
  simp only [UR,Uc] at h
  subst h
  show (some (a,ids.headD 0):Option (ao × Nat))=some (a,ids.getD 0 0)
  rw [yy]
 | a::ns,ids,i+1,n,h=>by
  simp only [Ve] at h
  have:=rY ns ids.tail i n h
  simp only [bC,Ve,this,BO]
theorem qU {ns:List ao}{ids:List Nat}{i:Int}{n:ao}(h:ix ns i=some n):ix (bC ns ids) i=some (n,Jt ids i):=by
 obtain⟨h0,h1,h2⟩:=gG h
 unfold ix Jt
 rw [if_pos h0,rY ns ids _ _ h2]
theorem rZ:∀(ns:List ao) (ids:List Nat) (n:ao) (ad:Nat),bC (ns++[n]) (uX ns ids++[ad])=bC ns ids++[(n,ad)]
 | [],ids,n,ad=>rfl
 | a::ns,ids,n,ad=>by
  have:=rZ ns ids.tail n ad
  simp only [uX,bC,UC,UM,List.headD_cons,List.tail_cons] at this ⊢
  rw [this]
theorem FY (ns:List ao)(ids:List Nat)(n:ao)(ad:Nat):fM (ns++[n]) (uX ns ids++[ad])=fM ns ids++[yx (n,ad)]:=by
 unfold fM; rw [rZ,UG]; rfl
theorem Has.perm {h:AHeap}{K K':Mem}(o:Has h K)(p:K'.Perm K):Has h K':=by
 have hP:K.Pairwise fun a b=>a.1≠0→a.1≠b.1:=by
  rw [List.pairwise_iff_getElem]
  intro i j hi hj xK h0 he
  have:=o.nd i j K[i].1 K[i].2 K[j].2 (by rw [Uj hi]) (by rw [Uj hj,he]) h0
  omega
 have MY:K'.Pairwise fun a b=>a.1≠0→a.1≠b.1:=(p.pairwise_iff (fun {a b} h h0 he=>h (by rw [←he]; exact h0) he.symm)).2 hP
 rw [List.pairwise_iff_getElem] at MY
 refine⟨fun j i c hj=>?_,fun j j' i c c' hj xJ h0=>?_,o.pos⟩
 ·obtain⟨j',xJ⟩:=Vd (p.mem_iff.1 (Ut hj))
  exact o.at_ j' i c xJ
 ·obtain⟨a1,a2⟩:=Uh.1 hj
  obtain⟨b1,b2⟩:=Uh.1 xJ
  rcases Nat.lt_trichotomy j j' with hl | hl | hl
  ·have:=MY j j' a1 b1 hl
   rw [a2,b2] at this
   exact absurd rfl (this h0)
  ·exact hl
  ·have:=MY j' j b1 a1 hl
   rw [a2,b2] at this
   exact absurd rfl (this h0)
section
variable {P:Program}{t t2 tf:TypeId}{h:AHeap}{pre L:Mem}{ns r:List ao}{ids:List Nat}{i ad k n2:Nat}{j a v:Int}{n:ao}
theorem Has.gone (o:Has h (pre++(fM ns ids++L))):Has h (pre++L):=by
 refine o.sub (fun q=>if q<pre.length then q else q+(fM ns ids).length) (fun q p hq=>?_) (fun q q' he=>?_)
 ·by_cases hl:q<pre.length
  ·rw [Ur hl] at hq
   rw [if_pos hl,Ur hl]; exact hq
  ·rw [Us (by omega)] at hq
   rw [if_neg hl,Us (by omega),Us (by omega),←hq]
   congr 1; omega
 ·split at he<;>split at he<;>omega
theorem H4 {b:Nat}{kind int:Int}{label:ByteArray}{args:List Int}{x:AV}(T:wG P t 4 b=true)(o:Has h ((i,.sl k 4 (fU.l (bC ns ids)))::(ad,.sl n2 1 (af.l args))::(pre++(fM ns ids++L))))
  (hx:fc h 4 x=some ([.int .i64 kind,.int .i64 int,.str label,.rs ad 0 n2 1],1)) (gk:ie P t2 x=true) (hr:app b ns [⟨kind,int,label,args⟩]=some r) :
  ∃i' Kp h',dq P h t t2 (.rs i 0 k 4) x=some (.rs i' 0 r.length 4,h')∧Has h' ((i',.sl r.length 4 (fU.l (bC r Kp)))::(pre++(fM r Kp++L))):=by
 have hn:n2=args.length:=cD (E:=af) o (q:=1) rfl
 subst hn
 obtain⟨_,_,rfl⟩:=wH hr
 have yo:app b (bC ns ids) [((⟨kind,int,label,args⟩:ao),ad)]=some (bC ns ids++[((⟨kind,int,label,args⟩:ao),ad)]):=by
  unfold app at hr ⊢
  rw [fy]
  split at hr
  ·rename_i hh
   simp only [Up,UD] at hh ⊢
   rw [if_pos hh]
  ·cases hr
 have Fy:fc h fU.n x=some (fU.l [((⟨kind,int,label,args⟩:ao),ad)],[((⟨kind,int,label,args⟩:ao),ad)].length):=hx
 obtain⟨i',h',e,o'⟩:=iV (E:=fU) (l:=bC ns ids) (q:=0) T o rfl Fy gk yo
 have e:dq P h t t2 (.rs i 0 k 4) x=some (.rs i' 0 (bC ns ids++[((⟨kind,int,label,args⟩:ao),ad)]).length 4,h'):=e
 refine⟨i',uX ns ids++[ad],h',?_,?_⟩
 ·rw [e,Uk,Uk,fy]; rfl
 ·rw [FY,rZ]
  have o':Has h' ((i',.sl (bC ns ids++[((⟨kind,int,label,args⟩:ao),ad)]).length 4 (fU.l (bC ns ids++[((⟨kind,int,label,args⟩:ao),ad)])))::yx (⟨kind,int,label,args⟩,ad)::(pre++(fM ns ids++L))):=o'
  have el:(ns++[(⟨kind,int,label,args⟩:ao)]).length=(bC ns ids++[((⟨kind,int,label,args⟩:ao),ad)]).length:=by
   rw [Uk,Uk,fy]; rfl
  rw [el]
  refine o'.perm (List.Perm.cons _ ?_)
  have k1:pre++((fM ns ids++[yx ((⟨kind,int,label,args⟩:ao),ad)])++L)=(pre++fM ns ids)++yx (⟨kind,int,label,args⟩,ad)::L:=by simp
  have k2:pre++(fM ns ids++L)=(pre++fM ns ids)++L:=by simp
  rw [k1,k2]
  exact List.perm_middle
def cq:Nat:=2251799813685248
end
end Go.R
namespace Go.R
open Go
inductive vE
 | b (i:Nat) {x y:Bool} (h:x=y)
 | v (i:Nat) {e:Option AV} {z:AV} (h:e=some z)
 | w (i:Nat) {e:Option AHeap} {g:AHeap} (h:e=some g)
 | a (i:Nat) {e:Option (AV × AHeap)} {z:AV} {g:AHeap} (h:e=some (z,g))
 | m (i:Nat) {e:AV × AHeap} {z:AV} {g:AHeap} (h:e=(z,g))
def vE.RK:vE→Nat × AV × Option AHeap
 | @b i x y h=>(i,.bool y,none)
 | @v i e z h=>(i,z,none)
 | @w i e g h=>(i,.any,some g)
 | @a i e z g h=>(i,z,some g)
 | @m i e z g h=>(i,z,some g)
def vE.fr:vE→AV × AHeap
 | @a i e z g h=>(z,g)
 | _=>(.any,bz)
def vE.p:vE→Prop
 | @b i x y h=>AV.bool x=AV.bool y
 | @v i e z h=>e=some z
 | @w i e g h=>e=some g
 | @a i e z g h=>e=some (z,g)
 | @m i e z g h=>e=(z,g)
theorem vE.ok:∀g:vE,g.p
 | @b i x y h=>congrArg AV.bool h
 | @v i e z h=>h
 | @w i e g h=>h
 | @a i e z g h=>h
 | @m i e z g h=>h
def wQ:List vE→FJ
 | []=>[]
 | g::gs=>g.RK::wQ gs
def BP:List vE→List (AV × AHeap)
 | []=>[]
 | g::gs=>g.fr::BP gs
def ps:List vE→Prop
 | []=>True
 | g::gs=>g.p∧ps gs
theorem wR:∀gs,ps gs
 | []=>trivial
 | g::gs=>⟨g.ok,wR gs⟩
def cA:Code→Code
 | .seq a _=>a
 | .cond _ a _=>a
 | .block _ a=>a
 | .loop a=>a
 | _=>.skip
def cB:Code→Code
 | .seq _ b=>b
 | .cond _ _ b=>b
 | _=>.skip
def kd:Code→Nat
 | .skip=>0
 | .ret=>1
 | .seq _ _=>2
 | .loop _=>3
 | _=>9
def MZ:Code→Option Nat
 | .exit i=>some i
 | _=>none
def M0:Code→Option Nat
 | .block i _=>some i
 | _=>none
def M3 (A:b4)(c:Code)(s:St):Option AV:=
 match c with
 | .cond k _ _=>some (bG (s.open A).ρ k)
 | _=>none
def nx (P:Program)(cf:CallF)(A:b4)(c:Code)(fs gs:List vE)(s:St):St:=((nb P cf A c (BP fs) (wQ gs) s).map (·.2)).getD s
section
variable {P:Program}{cf:CallF}{A:b4}{m:Nat}{c:Code}{s:St}{Q R:Ex→St→Prop}
theorem Kq (fs gs:List vE)(hQ:Q .norm (nx P cf A c fs gs s))(h:(nb P cf A c (BP fs) (wQ gs) s).map (·.1)=some (ps fs∧ps gs):=by kernel_rfl):dt P cf A m c s Q:=by
 unfold nx at hQ
 obtain⟨⟨p,s'⟩,h1,rfl⟩:=Ub.1 h
 rw [h1] at hQ
 exact Dd h1 ⟨wR fs,wR gs⟩ hQ
theorem qr (gs:List vE)(hQ:Q .norm (nx P cf A c [] gs s))(h:(nb P cf A c [] (wQ gs) s).map (·.1)=some (True∧ps gs):=by kernel_rfl):dt P cf A m c s Q:=Kq [] gs hQ h
theorem q0 (hQ:Q .norm (nx P cf A c [] [] s))(h:(nb P cf A c [] [] s).map (·.1)=some (True∧True):=by kernel_rfl):dt P cf A m c s Q:=Kq [] [] hQ h
theorem Pw (h:kd c=2):c = .seq (cA c) (cB c):=by cases c<;>first | rfl | cases h
theorem qq (hQ:dt P cf A m (cA c) s (HT (fun s'=>dt P cf A m (cB c) s' Q) Q))(h:kd c=2:=by kernel_rfl):dt P cf A m c s Q:=by rw [Pw h]; exact wD hQ
theorem Px (fs gs:List vE)(hQ:dt P cf A m (cB c) (nx P cf A (cA c) fs gs s) Q)(h:kd c=2:=by kernel_rfl)(h2:(nb P cf A (cA c) (BP fs) (wQ gs) s).map (·.1)=some (ps fs∧ps gs):=by kernel_rfl):dt P cf A m c s Q:=qq (Kq fs gs hQ h2) h
theorem qs (gs:List vE)(hQ:dt P cf A m (cB c) (nx P cf A (cA c) [] gs s) Q)(h:kd c=2:=by kernel_rfl)(h2:(nb P cf A (cA c) [] (wQ gs) s).map (·.1)=some (True∧ps gs):=by kernel_rfl):dt P cf A m c s Q:=Px [] gs hQ h h2
theorem q1 (hQ:dt P cf A m (cB c) (nx P cf A (cA c) [] [] s) Q)(h:kd c=2:=by kernel_rfl)(h2:(nb P cf A (cA c) [] [] s).map (·.1)=some (True∧True):=by kernel_rfl):dt P cf A m c s Q:=Px [] [] hQ h h2
theorem qk (hQ:Q .norm s)(h:kd c=0:=by kernel_rfl):dt P cf A m c s Q:=by
 have:c = .skip:=by cases c<;>first | rfl | cases h
 rw [this]; exact BC hQ
theorem qt (hQ:Q .ret s)(h:kd c=1:=by kernel_rfl):dt P cf A m c s Q:=by
 have:c = .ret:=by cases c<;>first | rfl | cases h
 rw [this]; exact De hQ
theorem qx (i:Nat)(hQ:Q (.exit i) s)(h:MZ c=some i:=by kernel_rfl):dt P cf A m c s Q:=by
 have:c = .exit i:=by cases c<;>first | (cases h; rfl) | cases h
 rw [this]; exact BD hQ
theorem qb (i:Nat)(hQ:dt P cf A m (cA c) s (MJ i Q))(h:M0 c=some i:=by kernel_rfl):dt P cf A m c s Q:=by
 have:c = .block i (cA c):=by cases c<;>first | (cases h; rfl) | cases h
 rw [this]; exact yr hQ
theorem qc {α:Type}{b:Bool}{x y z:Option α}(H:(if b=true then x else y)=z)(ht:b=true→x=z→dt P cf A m (cA c) s Q)(hf:b=false→y=z→dt P cf A m (cB c) s Q)(h:M3 A c s=some (.bool b):=by kernel_rfl):dt P cf A m c s Q:=by
 cases c<;>first | cases h | skip
 rename_i k a e
 exact ph b (UX h) (fun hb=>ht hb (RH hb H)) (fun hb=>hf hb (RI hb H))
theorem Fg (hQ:dt P cf A m (cA c) s Q)(h:M3 A c s=some (.bool true):=by kernel_rfl):dt P cf A m c s Q:=by
 cases c<;>first | cases h | skip
 exact ph true (UX h) (fun _=>hQ) (fun hb=>by cases hb)
theorem Fh (hQ:dt P cf A m (cB c) s Q)(h:M3 A c s=some (.bool false):=by kernel_rfl):dt P cf A m c s Q:=by
 cases c<;>first | cases h | skip
 exact ph false (UX h) (fun hb=>by cases hb) (fun _=>hQ)
theorem ql {c':Code}(h:dt P cf A m c' s Q)(k:∀e s',Q e s'→R e s')(hc:c=c':=by kernel_rfl):dt P cf A m c s R:=by rw [hc]; exact tB h k
theorem qj {α β:Type}{S:α→St→Prop}(f:α→Option β){out:β}{z:Option β}(h0:z=some out)(hB:∀σ s,S σ s→f σ=some out→dt P cf A m (cB c) s Q)
  (hA:(∀σ s,S σ s→f σ=some out→dt P cf A m (cB c) s Q)→dt P cf A m (cA c) s (HT (fun s'=>dt P cf A m (cB c) s' Q) Q)) (h:kd c=2:=by kernel_rfl):dt P cf A m c s Q:=by
 rw [Pw h]; exact wD (hA hB)
end
def dU {S O:Type}(P:Program)(cf:CallF)(A:b4)(m:Nat)(c:Code)(l:Nat→S→Option O)(R:S→St→Prop)(Q:O→Ex→St→Prop):Prop:=∀σ s out,R σ s→l m σ=some out→dt P cf A m (.loop c) s (Q out)
theorem mK {S O:Type}{P:Program}{cf:CallF}{A:b4}{m:Nat}{c:Code}{l:Nat→S→Option O}{R:S→St→Prop}{Q:O→Ex→St→Prop}(h0:∀σ,l 0 σ=none)
  (step:∀k σ s out,R σ s→l (k+1) σ=some out→dt P cf A m c s (Df l R Q k out)):dU P cf A m c l R Q:=fun _ _ _ hr H=>BE l R Q h0 step hr H (fun _ _ _ h=>h)
def H5:Nat→List Nat→List Nat
 | _,[]=>[]
 | k,x::xs=>bif UL (k % 2) 1 then x::H5 (k / 2) xs else H5 (k / 2) xs
def Kr (keep:List Nat):Nat→List Nat→List (Nat × List Nat)
 | _,[]=>[]
 | r,k::ks=>(r,H5 k keep)::Kr keep (r+1) ks
def gK (keep aE ms:List Nat)(Fk xX:List (Nat × List (Nat × Option Nat × Nat))):b4:={keep:=keep,aE:=aE,dead:=Kr keep 0 ms,Fk:=Fk,xX:=xX}
theorem hZ {α:Type}{b:Bool}{x y z:α}(H:(if b=true then x else y)=z):(b=true∧x=z)∨(b=false∧y=z):=by
 cases b with
 | true=>exact .inl ⟨rfl,H⟩
 | false=>exact .inr ⟨rfl,H⟩
theorem oi {α:Type}{a b:α}(h:some a=some b):a=b:=UX h
theorem dz {P:Program}{A:b4}{s:St}{rs:List ResultVar}{y:AV}(av:AV)(g:AHeap)(h:fL g av y)(h1:aM P (s.open A) rs=some av:=by kernel_rfl)(h2:s.h=g:=by kernel_rfl):∃av,aM P (s.open A) rs=some av∧fL s.h av y:=⟨av,h1,h2 ▸ h⟩
theorem he {g g':AHeap}{K:Mem}(o:Has g K)(h:g'=g:=by kernel_rfl):Has g' K:=h ▸ o
end Go.R
namespace Go.R
open Go Go.Proofs Go.Shelf Go.RowKit Go.Sort
def nC:List AV→Option (List Int)
 | []=>some []
 | .int .i64 z::xs=>(nC xs).map fun l=>z::l
 | _=>none
theorem mc:∀{xs:List AV} {l:List Int},nC xs=some l→xs=l.map fun z=>.int .i64 z
 | [],l,h=>by cases h; rfl
 | x::xs,l,h=>by
  unfold nC at h
  split at h
  ·rename_i e; cases e
  ·rename_i z ys e
   obtain⟨rfl,rfl⟩:=List.cons.inj e
   obtain⟨l',h1,rfl⟩:=Ub.1 h
   rw [mc h1]; rfl
  ·cases h
theorem r6:∀l:List Int,nC (l.map fun z=>.int .i64 z)=some l
 | []=>rfl
 | z::l=>by simp only [UC,nC,r6 l,Ug]
def kA (l:List Int):List Int:=l.mergeSort fun x y=>decide (x≤y)
noncomputable def H6 (args:List AV)(h:AHeap):Option (AV × AHeap):=
 match args with
 | [.rs id 0 n 1]=>if n=0 then some (.tup [],h) else (h.get id).bind fun
  | .cells cs=>if n≤cs.length∧n<4611686018427387904 then (nC (cs.take n)).map fun l=>(.tup [],h.put id (.cells ((kA l).map (fun z=>.int .i64 z)++cs.drop n))) else none
  | _=>none
 | _=>none
theorem BQ:∀args h r h',H6 args h=some (r,h')→Steady h h':=by
 intro args h r h' hs
 unfold H6 at hs
 split at hs
 ·split at hs
  ·cases hs; exact Steady.refl _
  ·rw [T9] at hs
   obtain⟨o,_,hs⟩:=hs
   split at hs
   ·split at hs
    ·obtain⟨l,_,hs⟩:=Ub.1 hs
     cases hs; exact Steady.put _ _ _
    ·cases hs
   ·cases hs
 ·cases hs
section
variable {c:Cx}{L0:Nat→Prop}
theorem BR (hrel:HRel c L0){id n:Nat}{cs:List AV}{l:List Int}(hid:c.h.get id=some (.cells cs))(hl:nC (cs.take n)=some l):Holds (Value.int .i64) c.w (c.β id).1 (c.β id).2 l.toArray:=by
 obtain⟨m,⟨C,T,hC,hn⟩,hle,hcl⟩:=hrel.obj _ _ hid
 intro j hj
 have hj:j<l.length:=by simpa using hj
 have hx:cs[j]? = some (.int .i64 l[j]):=by
  have h1:(cs.take n)[j]? = some (.int .i64 l[j]):=by rw [mc hl,Vh,Uj hj]; rfl
  rw [List.getElem?_take] at h1
  split at h1
  ·exact h1
  ·cases h1
 obtain⟨v,h1,_,h3⟩:=hcl.get' j _ hx
 simp only [VR] at h3
 subst h3
 refine⟨by rw [h1]; simp [hj],by simp [World.frozen?,hC]⟩
theorem FZ (hrel:HRel c L0)(hbs:c.base≤c.w.heap.size){id n:Nat}{cs:List AV}{new:List Int}(hid:c.h.get id=some (.cells cs))(hn:n≤cs.length)(hnew:new.length=n)(q:Nat)(os:Array Obj) :
  let w':=grow (putRow (Value.int .i64) (Sort.ahead c.w q) (c.β id).1 (c.β id).2 new.toArray) os
  let c':Cx:=⟨c.β,c.h.put id (.cells (new.map (fun z=>.int .i64 z)++cs.drop n)),w',c.base⟩
  HRel c' L0∧Ext c none0 c' none0∧c'.len (c.β id).1=c.len (c.β id).1:=by
 intro w' c'
 have hun:un L0 none0=L0:=by funext b; simp [un,none0]
 have f:=Fr.none hrel
 obtain⟨m,⟨C,T,hC,hm⟩,hle,hcl⟩:=hrel.obj _ _ hid
 have hlive:Live c.h id:=⟨hrel.lt _ _ hid,by rw [hid]; rfl⟩
 have hblt:(c.β id).1<c.w.heap.size:=(UH.1 hC).1
 have qe:∀k,k<c.w.heap.size→w'.heap[k]? = if k=(c.β id).1 then some (.cells (putCells (Value.int .i64) (c.β id).2 new.toArray C) T (0,0)) else c.w.heap[k]?:=fun k hk=>by
  show (grow _ os).heap[k]? = _
  rw [heap_grow_old _ _ (by simp [putRow,mapBlock,Sort.ahead]; exact hk)]
  by_cases h:k=(c.β id).1
  ·subst h; simp [putRow,mapBlock,Sort.ahead,Vc,hC,onCells]
  ·have h2:(c.β id).1≠k:=fun e=>h e.symm
   simp [putRow,mapBlock,Sort.ahead,Vc,h,h2]
 have sE:w'.heap[(c.β id).1]? = some (.cells (putCells (Value.int .i64) (c.β id).2 new.toArray C) T (0,0)):=by rw [qe _ hblt,if_pos rfl]
 have hsz:(putCells (Value.int .i64) (c.β id).2 new.toArray C).size=C.size:=by simp [putCells]
 have hlen:((w'.shape? (c.β id).1).map (·.2)).getD 0=c.len (c.β id).1:=by
  simp only [Cx.len,World.shape?,sE,hC,Ug,U4,hsz]
 have Ks:c.w.heap.size≤w'.heap.size:=by
  show _≤(grow _ os).heap.size
  simp [grow,putRow,mapBlock,Sort.ahead]
 obtain⟨e2,f2⟩:=f.upd (w':=w') (β':=c.β) (h':=c.h.put id (.cells (new.map (fun z=>.int .i64 z)++cs.drop n))) id (.cells (new.map (fun z=>.int .i64 z)++cs.drop n)) (Steady.put _ _ _) (Vn hlive.1) (by simp [AHeap.put,beq_nat])
  (fun j hj=>.inr ⟨by simp [AHeap.put,beq_nat,hj],rfl⟩) (fun _=>⟨hlive,rfl⟩) (.inr ⟨id,hlive,rfl,.inl rfl⟩)
  (fun _=>hlen) (fun k hk hne=>by rw [qe k hk,if_neg hne]) (fun k hk hne=>by rw [qe k (by omega),if_neg hne]) Ks hbs rfl rfl rfl
  (fun ee=>by
   refine⟨C.size,⟨_,T,sE,hsz⟩,by rw [Uk,Ux,List.length_drop,hnew]; omega,?_⟩
   rw [Cells.iff]
   intro i x hx
   show ∃v,w'.cell? _=some v∧_
   rw [cell_of_block sE]
   have hi:i<cs.length:=by
    have:=(Uh.1 hx).1
    rw [Uk,Ux,List.length_drop,hnew] at this; omega
   have RL:(putCells (Value.int .i64) (c.β id).2 new.toArray C)[(c.β id).2+i]? = C[(c.β id).2+i]?.map fun x=>if (c.β id).2≤(c.β id).2+i∧(c.β id).2+i<(c.β id).2+new.toArray.size then Value.int .i64 new.toArray[(c.β id).2+i - (c.β id).2]! else x:=by
    unfold putCells; rw [Array.getElem?_mapIdx]
   rw [RL]
   by_cases h:i<n
   ·rw [Ur (by rw [Ux,hnew]; exact h),Vh,Uj (by omega)] at hx
    simp only [Ug,Uc] at hx
    subst hx
    have RM:(c.β id).2+i<C.size:=by omega
    rw [Array.getElem?_eq_getElem RM]
    refine⟨.int .i64 new[i],?_,rfl,by simp [VR]⟩
    simp only [Ug,Uc]
    rw [if_pos ⟨by omega,by simp [hnew]; exact h⟩,Vp]
    simp [show i<new.length by omega]
   ·rw [Us (by rw [Ux,hnew]; omega),Ux,hnew,List.getElem?_drop,show n+(i - n)=i by omega] at hx
    obtain⟨v,v1,v2,v3⟩:=hcl.get' i x hx
    rw [cell_of_block hC] at v1
    refine⟨v,?_,v2,?_⟩
    ·rw [v1]
     simp only [Ug,Uc]
     rw [if_neg (by simp [hnew]; omega)]
    ·have:=VR.ext ee (L0:=L0) x v (by rw [hun]; exact v3)
     exact this)
 exact⟨by have:=f2.rel; rwa [hun] at this,e2,hlen⟩
end
section
variable {P:Program}{ρ:Ren}
theorem Kt (L:Lays.n189 P ρ)(henter:∀(vs:Array Value) (w:World),(callFunc (ρ.f 189) vs).run P w = .ok (.enter (ρ.f 189) vs) w) :
  CallOK P fun f' args h=>if f'=ρ.f 189 then H6 args h else none:=by
 intro f args h r h' hc
 dsimp only at hc
 split at hc
 rotate_left
 ·cases hc
 rename_i hf
 subst hf
 refine⟨henter,fun L0 c vs hh hb0 hrel hargs=>?_⟩
 subst hh
 unfold H6 at hc
 split at hc
 rotate_left
 ·cases hc
 rename_i id n
 match vs,hargs with
 | [v1],⟨q1,_⟩=>
 split at hc
 ·rename_i hn
  subst hn
  cases hc
  have hs:∃a cap,v1 = .slice a 0 cap:=by
   simp only [VR] at q1
   rcases q1 with⟨_,_,_,a,rfl⟩| ⟨_,_,a,cap,rfl,_⟩
   ·exact⟨a,0,rfl⟩
   ·exact⟨a,cap,rfl⟩
  obtain⟨a,cap,rfl⟩:=hs
  refine (Any.slices_Sort_int_none L a cap c.w).mono ?_
  rintro e w' ⟨rfl,rfl⟩
  exact⟨c,_,rfl,rfl,rfl,by simp only [VR]; exact⟨#[],rfl,trivial⟩,hrel,Ext.refl _ _⟩
 ·rename_i hn
  rw [T9] at hc
  obtain⟨o,hid,hc⟩:=hc
  split at hc
  rotate_left
  ·cases hc
  rename_i cs
  split at hc
  rotate_left
  ·cases hc
  rename_i hle
  obtain⟨l,hl,he⟩:=Ub.1 hc
  simp only [Ui] at he
  obtain⟨rfl,rfl⟩:=he
  have hlive:Live c.h id:=⟨hrel.lt _ _ hid,by rw [hid]; rfl⟩
  have hll:l.length=n:=by
   have:=congrArg List.length (mc hl)
   rw [Ux,U8] at this; omega
  simp only [VR] at q1
  rcases q1 with⟨_,_,h0,_⟩| ⟨_,_,a,cap,rfl,h1,h2,h3⟩
  ·exact absurd h0 hn
  rcases h3 hlive with⟨rfl,h4⟩| h4
  rotate_left
  ·omega
  have hc:=Any.slices_Sort_int L (c.β id).1 (c.β id).2 cap l c.w (BR hrel hid hl) (hrel.block hlive) (by omega)
  rw [hll] at hc
  refine hc.mono ?_
  rintro e w' ⟨rfl,q,os,rfl⟩
  have hsl:(kA l).length=n:=by unfold kA; rw [List.length_mergeSort,hll]
  obtain⟨g1,g2,_⟩:=FZ hrel hb0 hid hle.1 hsl q os
  exact⟨_,_,rfl,rfl,rfl,by simp only [VR]; exact⟨#[],rfl,trivial⟩,g1,g2⟩
end
end Go.R
namespace Go.R
open Go
def G5 (cf:CallF)(f:FuncId):Prop:=∀args h,cf f args h=H6 args h
theorem pk (l:List Int):af.l l=l.map fun z=>.int .i64 z:=by
 induction l with
 | nil=>rfl
 | cons a l ih=>rw [bL.eo,ih]; rfl
theorem mL (l:List Int):(kA l).length=l.length:=by unfold kA; rw [List.length_mergeSort]
section
variable {h:AHeap}{L:Mem}{i n:Nat}{l:List Int}{cf:CallF}{f:FuncId}
theorem F0 (o:Has h ((i,.sl n 1 (af.l l))::L))(hn:n≠0):n=l.length∧i≠0∧l.length<4611686018427387904∧∃rest,h.get i=some (.cells (l.map (fun z=>.int .i64 z)++rest)):=by
 obtain⟨⟨⟨h1,h2⟩,h3⟩,_⟩:=o.at_ 0 _ _ rfl
 have hl:(af.l l).length=l.length:=by rw [pk,Ux]
 rw [hl] at h1 h2
 rcases h3 with⟨_,h⟩| ⟨h,rest,h4⟩
 ·exact absurd h hn
 ·rw [pk] at h4
  exact⟨by omega,h,by omega,rest,h4⟩
theorem H7 (o:Has h ((i,.sl 0 1 (af.l l))::L)):l=[]:=by
 obtain⟨⟨⟨h1,_⟩,_⟩,_⟩:=o.at_ 0 _ _ rfl
 rw [pk,Ux] at h1
 exact UQ (by omega)
theorem H8 (S:G5 cf f)(o:Has h ((i,.sl n 1 (af.l l))::L)):∃h',cf f [.rs i 0 n 1] h=some (.tup [],h')∧Has h' ((i,.sl n 1 (af.l (kA l)))::L):=by
 rw [S]
 by_cases hn:n=0
 ·subst hn
  have:=H7 o
  subst this
  have e:kA []=[]:=by simp [kA]
  exact⟨h,rfl,by rw [e]; exact o⟩
 ·obtain⟨h1,h2,h3,rest,h4⟩:=F0 o hn
  subst h1
  have et:(l.map (fun z=>AV.int .i64 z)++rest).take l.length=l.map fun z=>AV.int .i64 z:=by
   rw [UK (by simp),UP (by simp)]
  have ed:(l.map (fun z=>AV.int .i64 z)++rest).drop l.length=rest:=by
   have:=List.drop_left (l₁:=l.map fun z=>AV.int .i64 z) (l₂:=rest)
   rwa [Ux] at this
  refine⟨h.put i (.cells ((kA l).map (fun z=>.int .i64 z)++rest)),?_,?_⟩
  ·unfold H6
   simp only
   rw [if_neg hn,h4,Ua]
   simp only
   rw [if_pos ⟨by simp,h3⟩,et,r6,Ug,ed]
  ·refine ja (q:=0) o rfl (ob:=.cells ((kA l).map (fun z=>.int .i64 z)++rest)) (c':=.sl l.length 1 (af.l (kA l))) ⟨⟨?_,?_⟩,.inr ⟨h2,rest,by rw [cO,if_pos rfl,pk]⟩⟩
   ·rw [pk,Ux,mL]; omega
   ·have:=(o.at_ 0 _ _ rfl).1.1.2
    rw [pk,Ux] at this ⊢
    rw [mL]; exact this
end
end Go.R
namespace Go.R
open Go
def xL (z:Nat)(args:List AV)(h:AHeap):Option (AV × AHeap):=
 match args with
 | [.nils]=>some (.rs 0 0 0 z,h)
 | [.fz cs n _]=>if n=0 then some (.rs 0 0 0 z,h) else if cs.length=n*z∧n*1024≤1099511627776 then some (.rs h.next 0 n z,h.alloc (.cells (cs.map ji))) else none
 | [.rs id 0 n z']=>if n=0 then some (.rs 0 0 0 z,h) else (h.get id).bind fun
  | .cells cs=>if z'=z∧n*z≤cs.length∧n*1024≤1099511627776 then some (.rs h.next 0 n z,h.alloc (.cells ((cs.take (n*z)).map ji))) else none
  | _=>none
 | _=>none
def Dx (cf:CallF)(f:FuncId)(z:Nat):Prop:=∀args h,cf f args h=xL z args h
def Dy (z:Nat){α:Type}(l:List α):Option (List α):=if l.length*1024≤1099511627776 then some l else none
theorem Dz {z:Nat}{α:Type}{l r:List α}(h:Dy z l=some r):l.length*1024≤1099511627776∧r=l:=by
 unfold Dy at h
 split at h
 ·rename_i g; cases h; exact⟨g,rfl⟩
 ·cases h
section
variable {h:AHeap}{K:Mem}{i n q:Nat}{α:Type}{E:bL α}{l r:List α}{cf:CallF}{f:FuncId}
theorem H9 (o:Has h K)(hl:l≠[])(hb:l.length*1024≤1099511627776):Has (h.alloc (.cells (E.l l))) ((h.next,.sl l.length E.n (E.l l))::K):=
 o.new (fun k hk=>by rw [AHeap.alloc,cO,if_neg (by omega)]) (Vi _) (.inr (Ue _)) (UY _) ⟨⟨bL.bJ,bL.mJ (by omega)⟩,.inr ⟨by have:=o.pos; omega,[],by rw [AHeap.alloc,cO,if_pos rfl]; simp⟩⟩
theorem F3 (o:Has h K):Has h ((0,.sl ([]:List α).length E.n (E.l []))::K):=Has.nil o E.n
theorem G6 (S:Dx cf f E.n)(o:Has h K)(hr:Dy E.n l=some r):∃i h',cf f [E.fz l] h=some (.rs i 0 r.length E.n,h')∧Has h' ((i,.sl r.length E.n (E.l r))::K):=by
 obtain⟨hb,rfl⟩:=Dz hr
 rw [S]
 by_cases hl:r=[]
 ·subst hl
  exact⟨0,h,rfl,F3 o⟩
 ·have hn:r.length≠0:=fun e=>hl (UQ e)
  refine⟨h.next,_,?_,H9 o hl hb⟩
  show xL E.n [.fz (E.l r) r.length false] h=_
  unfold xL
  simp only
  rw [if_neg hn,if_pos ⟨bL.bJ,hb⟩,bL.zD]
end
end Go.R
namespace Go.R
open Go
section
variable {h:AHeap}{K:Mem}{i q off k:Nat}{cs ys:List AV}
theorem dV (o:Has h K)(hq:K[q]? = some (i,.ob cs))(f:aP k h cs ys):j5 (k+1) h (.ptr i off) (.fp ys off):=fun n hn=>by
 obtain⟨m,rfl⟩:∃m,n=m+1:=⟨n - 1,by simp only [iu] at hn; omega⟩
 obtain⟨⟨_,h2⟩,_⟩:=o.at_ _ _ _ hq
 simp only [b5,h2,Ua]
 rw [f m (by omega)]; rfl
theorem k8 (hp:cw cs=true∧dh cs=cs):(AV.fp cs off).dM=true∧(AV.fp cs off).iS = .fp cs off:=⟨by simpa [AV.dM] using hp.1,by show AV.fp (dh cs) off=_; rw [hp.2]⟩
theorem gj (hp:cw cs=true∧dh cs=cs):j5 0 h (.fp cs off) (.fp cs off):=kY (k8 hp).1 (fun _=>rfl) (k8 hp).2
end
def M4 {α β:Type}(o:Option α)(n:Option β)(s:α→Option β):Option β:=
 match o with
 | none=>n
 | some y=>s y
end Go.R
namespace Go.R
open Go
def qn:List (AHeap × AHeap × Nat)→Prop
 | []=>True
 | (h,h',i)::l=>h.ver i=h'.ver i∧qn l
theorem oy:∀{a b:List (AHeap × AHeap × Nat)},qn (a++b)→qn a∧qn b
 | [],b,h=>⟨trivial,h⟩
 | (_,_,_)::a,b,h=>by
  have:=oy (a:=a) h.2
  exact⟨⟨h.1,this.1⟩,this.2⟩
theorem wS:∀{l:List Nat} {h h':AHeap},qn (l.map fun id=>(h,h',id))→∀id∈l,h.ver id=h'.ver id
 | i::l,h,h',hp,id,hm=>by
  rcases UA.1 hm with rfl | hm
  ·exact hp.1
  ·exact wS hp.2 id hm
def Ia (x y:lD):Bool:=
 match x.f.wb with
 | some k=>!y.f.rb.contains k&&y.f.wb != some k
 | none=>true
def uY (x y:lD):Option (List (AHeap × AHeap × Nat)):=
 bif Ia x y then (bif x.f.wh then (bif y.f.wh then none else some (y.f.rh.map fun id=>(x.s.h,x.s'.h,id))) else some []) else none
theorem tG {x y:lD}{l:List (AHeap × AHeap × Nat)}(h:uY x y=some l)(hp:qn l):x.iT y=true:=by
 have he:x.iT y=(Ia x y&&(!x.f.wh||(!y.f.wh&&y.f.rh.all fun id=>UL (x.s.h.ver id) (x.s'.h.ver id)))):=rfl
 rw [he]
 unfold uY at h
 cases h1:Ia x y with
 | false=>rw [h1] at h; cases h
 | true=>
  rw [h1,cond_true] at h
  cases hw:x.f.wh with
  | false=>rfl
  | true=>
   rw [hw,cond_true] at h
   cases hy:y.f.wh with
   | true=>rw [hy] at h; cases h
   | false=>
    rw [hy,cond_false] at h
    cases h
    simp only [Vo,Bool.false_or,Bool.not_false,VI,Uv]
    intro id hid
    rw [wS hp id hid,Nat.beq_refl]
def wT (ms:List Nat)(x:lD)(i:Nat):List (lD × Nat)→Option (List (AHeap × AHeap × Nat))
 | []=>some []
 | y::l=>bif Vv y.2 i||(ms.getD y.2 0).testBit i then wT ms x i l else (uY x y.1).bind fun a=>(uY y.1 x).bind fun b=>(wT ms x i l).map fun c=>a++(b++c)
theorem DA {ms:List Nat}{x:lD}{i:Nat}(l:List (lD × Nat)):∀{v:List (AHeap × AHeap × Nat)},wT ms x i l=some v→qn v→∀p∈l,(Vv p.2 i||(ms.getD p.2 0).testBit i||(x.iT p.1&&p.1.iT x))=true:=by
 induction l with
 | nil=>intro v _ _ p hm; cases hm
 | cons y l ih=>
  intro v h hp p hm
  simp only [wT] at h
  cases hc:(Vv y.2 i||(ms.getD y.2 0).testBit i) with
  | true=>
   rw [hc,cond_true] at h
   rcases UA.1 hm with rfl | hm
   ·rw [hc,Bool.true_or]
   ·exact ih h hp p hm
  | false=>
   rw [hc,cond_false] at h
   simp only [T9,Ub] at h
   obtain⟨a,ha,b,hb,c,hc,rfl⟩:=h
   obtain⟨p1,p2⟩:=oy hp
   obtain⟨p2,p3⟩:=oy p2
   rcases UA.1 hm with rfl | hm
   ·rw [tG ha p1,tG hb p2,Bool.and_self,Bool.or_true]
   ·exact ih hc p3 p hm
def zL (ms:List Nat)(all:List (lD × Nat)):List (lD × Nat)→Option (List (AHeap × AHeap × Nat))
 | []=>some []
 | x::l=>(wT ms x.1 x.2 all).bind fun a=>(zL ms all l).map fun b=>a++b
theorem DB {ms:List Nat}{all:List (lD × Nat)}(l:List (lD × Nat)):∀{v:List (AHeap × AHeap × Nat)},zL ms all l=some v→qn v→∀x∈l,∀p∈all,(Vv p.2 x.2||(ms.getD p.2 0).testBit x.2||(x.1.iT p.1&&p.1.iT x.1))=true:=by
 induction l with
 | nil=>intro v _ _ x hm; cases hm
 | cons y l ih=>
  intro v h hp x hm
  simp only [zL,T9,Ub] at h
  obtain⟨a,ha,b,hb,rfl⟩:=h
  obtain⟨p1,p2⟩:=oy hp
  rcases UA.1 hm with rfl | hm
  ·exact DA all ha p1
  ·exact ih hb p2 x hm
def Ib (ops:List Oper)(arr:Array Oper)(s:RS)(es:List lD):Option (List (AHeap × AHeap × Nat)):=
 let ms:=iU [] ops
 let is:=es.zipIdx
 let ui:=is.filter fun (x,_)=>!x.f.quiet
 if mD arr ms&&ui.all (fun (x,i)=>qM ms (ops.filterMap (·.dst)) s is x i) then zL ms ui ui else none
theorem F4 {P:Program}{cf:CallF}{aE:List Nat}{ops:Array Oper}{s r:RS}{es:List lD}{l:List (AHeap × AHeap × Nat)}(h:Ib ops.toList ops s es=some l)(hp:qn l)(hr:nO P cf aE ops.toList s ops.toList=some (es,r)):jk P cf aE ops s=some r:=by
 unfold Ib at h
 simp only at h
 split at h
 rotate_left
 ·cases h
 rename_i hc
 simp only [Ud] at hc
 obtain⟨h1,h2⟩:=hc
 unfold jk
 simp only [h1,if_true,hr,Ua]
 rw [if_pos]
 rw [Uv] at h2 ⊢
 intro x hx
 have a:=h2 x hx
 simp only [Ud] at a ⊢
 refine⟨a,?_⟩
 rw [Uv]
 intro y hy
 exact DB _ h hp x hx y hy
def zM (P:Program)(cf:CallF)(A:b4)(c:Code)(fs:List (AV × AHeap))(zs:FJ)(st:St):Option ((Prop × Prop) × St):=
 match c with
 | .region id ops draw=>(qi (st.open A) (fE id A.Fk) fs).bind fun (s0,p0)=>(qh P cf A.aE ops.toList s0 0 ops.toList zs).bind fun (es,r,p)=>
   bif draw then (Ib ops.toList ops s0 es).bind fun l=>(kj r (fE id A.xX)).map fun r2=>((p0∧p,qn l),r2.lP A id) else none
 | _=>none
theorem DC {P:Program}{cf:CallF}{A:b4}{m:Nat}{c:Code}{fs:List (AV × AHeap)}{zs:FJ}{st iX:St}{p q:Prop}(h:zM P cf A c fs zs st=some ((p,q),iX))(hp:p)(hq:q):bF P cf A m c st=some (.norm,iX):=by
 unfold zM at h
 split at h
 rotate_left
 ·cases h
 rename_i id ops draw
 simp only [T9] at h
 obtain⟨⟨s0,p0⟩,h0,⟨es,r,p1⟩,h1,h⟩:=h
 cases draw with
 | false=>cases h
 | true=>
  simp only [cond_true,T9,Ub,Ui] at h
  obtain⟨l,hl,r2,h2,⟨rfl,rfl⟩,rfl⟩:=h
  obtain⟨g1,g2⟩:=uN h1 hp.2
  have g0:=qQ h0 hp.1
  simp only [bF,g0,Ua,if_true,F4 hl hq g1,h2,Ug]
inductive Vg
 | mk {h h':AHeap} {i:Nat} (e:h.ver i=h'.ver i)
def Vg.t:Vg→AHeap × AHeap × Nat
 | @mk h h' i e=>(h,h',i)
theorem DD:∀vs:List Vg,qn (vs.map Vg.t)
 | []=>trivial
 | @Vg.mk h h' i e::vs=>⟨e,DD vs⟩
def Py (P:Program)(cf:CallF)(A:b4)(c:Code)(fs gs:List vE)(s:St):St:=((zM P cf A c (BP fs) (wQ gs) s).map (·.2)).getD s
section
variable {P:Program}{cf:CallF}{A:b4}{m:Nat}{c:Code}{s:St}{Q R:Ex→St→Prop}
theorem Ku (fs gs:List vE)(vs:List Vg)(hQ:Q .norm (Py P cf A c fs gs s))(h:(zM P cf A c (BP fs) (wQ gs) s).map (·.1)=some (ps fs∧ps gs,qn (vs.map Vg.t)):=by kernel_rfl):dt P cf A m c s Q:=by
 unfold Py at hQ
 obtain⟨⟨p,s'⟩,h1,rfl⟩:=Ub.1 h
 rw [h1] at hQ
 exact⟨.norm,s',DC h1 ⟨wR fs,wR gs⟩ (DD vs),hQ⟩
end
section
variable {P:Program}{h h':AHeap}{K:Mem}{i j n z q q2:Nat}{c:Ct}{cs:List AV}{x y:AV}{t t2:TypeId}
theorem uZ {o:AObj}(hj:j≠i):h.ver j=(h.put i o).ver j:=by
 simp only [AHeap.put,beq_nat]
 simp [hj]
theorem wU (hj:j≠i):h.ver j=(h.kill i).ver j:=by
 simp only [AHeap.kill,beq_nat]
 simp [hj]
theorem F5 {s:AV}(e:dq P h t t2 s x=some (y,h'))(hs:∀i off n z,s = .rs i off n z→j≠i)(hj:j≠h.next):h.ver j=h'.ver j:=by
 have ha:∀o:AObj,h.ver j=(h.alloc o).ver j:=fun o=>uZ hj
 unfold dq at e
 simp only [T9] at e
 obtain⟨u,hu,e⟩:=e
 split at e
 rotate_left
 ·cases e
 simp only [T9] at e
 obtain⟨inf,hi,⟨new,m⟩,hc,e⟩:=e
 split at e
 ·cases e
 split at e
 ·split at e
  ·cases e
  ·split at e
   ·cases e; rfl
   ·cases e; exact ha _
 ·split at e
  ·cases e
  ·split at e
   ·split at e<;>(cases e; rfl)
   ·cases e; exact ha _
 ·rename_i id off len gZ
  have hne:=hs _ _ _ _ rfl
  split at e
  ·split at e
   ·cases e
   ·split at e
    ·cases e; rfl
    ·cases e; exact ha _
  ·simp only [T9] at e
   obtain⟨ob,ho,e⟩:=e
   split at e
   rotate_left
   ·cases e
   split at e
   ·cases e
   ·split at e
    ·cases e; rfl
    ·cases e
     exact (wU hne).trans (uZ hj)
 ·cases e
theorem yz (o:Has h K)(hq:K[q]? = some (i,c))(F6:K[q2]? = some (j,.ob cs))(hne:q≠q2)(e:dq P h t t2 (.rs i 0 n z) x=some (y,h')):h.ver j=h'.ver j:=by
 obtain⟨⟨h1,_⟩,h2⟩:=o.at_ _ _ _ F6
 refine F5 e (fun i' _ _ _ he=>?_) (by omega)
 cases he
 intro hji
 subst hji
 exact hne (o.nd _ _ _ _ _ hq F6 h1)
end
theorem DE {cf:CallF}{f:FuncId}{z:Nat}{h h':AHeap}{K:Mem}{q2 j:Nat}{cs:List AV}{x y:AV}(S:Dx cf f z)(o:Has h K)(F6:K[q2]? = some (j,.ob cs))(e:cf f [x] h=some (y,h')):h.ver j=h'.ver j:=by
 obtain⟨⟨h1,_⟩,h2⟩:=o.at_ _ _ _ F6
 have ha:∀o:AObj,h.ver j=(h.alloc o).ver j:=fun o=>uZ (Nat.ne_of_lt h2)
 rw [S] at e
 unfold xL at e
 split at e
 ·cases e; rfl
 ·split at e
  ·cases e; rfl
  ·split at e
   ·cases e; exact ha _
   ·cases e
 ·split at e
  ·cases e; rfl
  ·rw [T9] at e
   obtain⟨ob,ho,e⟩:=e
   split at e
   ·split at e
    ·cases e; exact ha _
    ·cases e
   ·cases e
 ·cases e
theorem Kv {x:Option (AV × AHeap)}{a:AV}{h:AHeap}{z:AV × AHeap}(h1:x=some (a,h))(h2:iL 0 h a=some z):x.bind (fun x=>iL 0 x.2 x.1)=some z:=by rw [h1]; exact h2
theorem Ic {P:Program}{h:AHeap}{K:Mem}{q i t e n:Nat}{inf:TypeInfo}{l:List Int}{j:Int}(ht:P.underlying t=some (.slice e))(hi:P.info? e=some inf)(hs:inf.size=1)(hz:ic P e=some (.int .i64 0))(o:Has h K)(hq:K[q]? = some (i,.sl n 1 (af.l l)))(h0:0≤j)(h1:j≤(l.length:Int)) :
  ∃h',kQ P h t (.rs i (0+j.toNat*1) (n - j.toNat) 1)=some h'∧Has h' (K.set q (i,.sl n 1 (af.l (l.take j.toNat++Uu (l.length - j.toNat) 0)))):=by
 have hn:n=l.length:=cD (E:=af) o hq
 subst hn
 have hll:(l.take j.toNat++Uu (l.length - j.toNat) 0).length=l.length:=by simp; omega
 unfold kQ
 rw [ht,Ua]
 simp only
 by_cases hl:l.length - j.toNat=0
 ·refine⟨h,by rw [if_pos hl],?_⟩
  have:l.take j.toNat++Uu (l.length - j.toNat) 0=l:=by rw [hl,List.replicate_zero,Vy,UP (by omega)]
  rw [this]
  have hK:K.set q (i,.sl l.length 1 (af.l l))=K:=by
   obtain⟨g1,g2⟩:=Uh.1 hq
   rw [←g2,List.set_getElem_self]
  rw [hK]; exact o
 ·rw [if_neg hl]
  obtain⟨⟨⟨hlen,qf⟩,ly⟩,hlt⟩:=o.at_ _ _ _ hq
  rcases ly with⟨_,h5⟩| ⟨h5,rest,h6⟩
  ·omega
  rw [if_neg h5]
  simp only [hi,hz,h6,Ua,hs]
  have RN:hH [AV.int .i64 0] (l.length - j.toNat)=af.l (Uu (l.length - j.toNat) 0):=by
   generalize l.length - j.toNat=k
   induction k with
   | zero=>rfl
   | succ k ih=>show [AV.int .i64 0]++hH [AV.int .i64 0] k=_; rw [ih]; rfl
  rw [if_pos ⟨trivial,rfl,by decide,rfl,by rw [Uk,hlen]; omega⟩]
  refine⟨_,rfl,?_⟩
  refine ja o hq ?_
  have Hr:(af.l (l.take j.toNat++Uu (l.length - j.toNat) 0)).length=l.length*1:=(bL.bJ (E:=af)).trans (by rw [hll]; rfl)
  refine⟨⟨Hr,by rw [Hr]; rw [hlen] at qf; exact qf⟩,.inr ⟨h5,rest,?_⟩⟩
  rw [cO,if_pos rfl]
  congr 2
  show cX (af.l l++rest) (0+j.toNat*1) (hH [AV.int .i64 0] (l.length - j.toNat))=_
  rw [RN,bL.gR]
  have Ie:=gS (af.l (l.drop j.toNat)) (af.l (Uu (l.length - j.toNat) 0)) (af.l (l.take j.toNat)) rest (by
   rw [bL.bJ,bL.bJ]; simp)
  rw [←bL.gR,Vk] at Ie
  have hp:(af.l (l.take j.toNat)).length=0+j.toNat*1:=by
   rw [bL.bJ]; show _*1=_; simp; omega
  rw [hp] at Ie
  exact Ie
end Go.R
namespace Go.R
open Go
def Pz (P:Program)(t:TypeId):Bool:=
 match P.underlying t with
 | some (.map kt et)=>(P.underlying kt matches some (.int .i64))&&(match ic P et with | some (.bool b)=>!b | _=>false)
 | _=>false
section
variable {P:Program}{h:AHeap}{K:Mem}{i q n b:Nat}{t t2:TypeId}{α:Type}{E:bL α}{l r s:List α}{x:AV}
def Kw {α:Type}(l s:List α):Option (List α):=if s.length≤l.length then some (s++l.drop s.length) else none
theorem F7 (T:wG P t E.n b=true)(o:Has h K)(hq:K[q]? = some (i,.sl n E.n (E.l l)))(hc:dS h E.n x=some (E.l s,s.length))(gk:ie P t2 x=true)(nI:(E.l s).all AV.bP=true)(hr:Kw l s=some r) :
  ∃h',pI P h t t2 (.rs i 0 n E.n) x=some (.int .i64 s.length,h')∧Has h' (K.set q (i,.sl n E.n (E.l r))):=by
 have hn:=cD o hq
 subst hn
 unfold Kw at hr
 split at hr
 rotate_left
 ·cases hr
 rename_i hle
 cases hr
 obtain⟨e,inf,g1,g2,g3,g4,g5,g6⟩:=jz T
 obtain⟨⟨⟨hlen,qf⟩,ly⟩,hlt⟩:=o.at_ _ _ _ hq
 have hll:(s++l.drop s.length).length=l.length:=by simp; omega
 simp only [pI,g1,Ua,g2,g3,hc,gk,Bool.true_eq_false,if_false]
 rcases ly with⟨h0,h1⟩| ⟨h0,rest,h1⟩
 ·have hl0:l=[]:=by simpa using h1
  subst hl0
  have hs0:s=[]:=by cases s with | nil=>rfl | cons _ _=>simp at hle
  subst hs0
  refine⟨h,by simp [h0],?_⟩
  have hK:K.set q (i,.sl ([]:List α).length E.n (E.l ([]++([]:List α).drop ([]:List α).length)))=K:=by
   obtain⟨g1,g2⟩:=Uh.1 hq
   show K.set q (i,.sl ([]:List α).length E.n (E.l []))=K
   rw [←g2,List.set_getElem_self]
  rw [hK]; exact o
 ·rw [if_neg h0,h1]
  simp only [Ua]
  rw [if_pos ⟨trivial,hle,by
   rw [Uk,hlen,Uy]
   exact UT (U1 _ hle) (Nat.le_add_right _ _)⟩]
  refine⟨_,rfl,ja o hq ⟨⟨by rw [bL.bJ,hll],by rw [bL.bJ,hll,←hlen]; exact qf⟩,.inr ⟨h0,rest,?_⟩⟩⟩
  rw [cO,if_pos rfl]
  congr 2
  have Ie:=gS (E.l (l.take s.length)) (E.l s) [] (E.l (l.drop s.length)++rest) (by rw [bL.bJ,bL.bJ,U8,Vw hle])
  simp only [UN,UD] at Ie
  rw [←Uq,←bL.gR,Vk] at Ie
  rw [Ie,bL.gR,Uq]
theorem If:dS h E.n (E.fz l)=some (E.l l,l.length):=by
 simp only [dS,bL.fz]
 rw [if_pos bL.bJ]
end
theorem Kx:∀l:List Int,(af.l l).all AV.bP=true:=fun l=>by
 induction l with
 | nil=>rfl
 | cons a l ih=>rw [bL.eo,List.all_append,ih]; rfl
section
variable {P:Program}{h:AHeap}{K:Mem}{i q n b:Nat}{t:TypeId}{α:Type}{E:bL α}{l:List α}{j:Int}{k:IntKind}
def Ju (l:List Int)(j:Int):Option (List Int):=if 0≤j∧j≤l.length then some (l.take j.toNat++Uu (l.length - j.toNat) 0) else none
theorem r7 {l r:List Int}{j:Int}(h:Ju l j=some r):0≤j∧j≤l.length∧r=l.take j.toNat++Uu (l.length - j.toNat) 0:=by
 unfold Ju at h
 split at h
 ·rename_i g; cases h; exact⟨g.1,g.2,rfl⟩
 ·cases h
theorem Ig (T:wG P t E.n b=true)(o:Has h K)(hq:K[q]? = some (i,.sl n E.n (E.l l)))(h0:0≤j)(h1:j≤(l.length:Int)):kO P t (.rs i 0 n E.n) (some (.int k j)) none none=some (.rs i (0+j.toNat*E.n) (n - j.toNat) E.n):=by
 have hn:=cD o hq
 subst hn
 obtain⟨e,inf,g1,g2,g3,g4,g5,g6⟩:=jz T
 simp only [kO,g1,Ua,g6,if_true,jK]
 rw [if_pos ⟨h0,by omega⟩]
 simp only [Ua,Ug,Un]
def M8 (P:Program)(t:TypeId):Bool:=
 match P.underlying t with
 | some (.slice e)=>(match P.info? e with | some inf=>inf.size==1 | none=>false)&&(match ic P e with | some (.int .i64 z)=>z==0 | _=>false)
 | _=>false
theorem Ih {l r:List Int}(T:M8 P t=true)(o:Has h K)(hq:K[q]? = some (i,.sl n 1 (af.l l)))(hr:Ju l j=some r) :
  ∃h',(kQ P h t (.rs i (0+j.toNat*1) (n - j.toNat) 1)).map (fun h=>(AV.tup [],h))=some (AV.tup [],h')∧Has h' (K.set q (i,.sl n 1 (af.l r))):=by
 obtain⟨h0,h1,rfl⟩:=r7 hr
 unfold M8 at T
 split at T
 rotate_left
 ·cases T
 rename_i e ht
 simp only [Ud] at T
 obtain⟨T1,T2⟩:=T
 split at T1
 rotate_left
 ·cases T1
 rename_i inf hi
 split at T2
 rotate_left
 ·cases T2
 rename_i z hz
 simp only [beq_iff_eq] at T1 T2
 subst T2
 obtain⟨h',e1,o1⟩:=Ic ht hi T1 hz o hq h0 h1
 exact⟨h',by rw [e1]; rfl,o1⟩
end
section
variable {h:AHeap}{f k k2:Nat}{cs ys:List AV}
theorem r8 (g:aP k h cs ys):j5 (k+1) h (.fn f cs) (.fn f ys):=fun n hn=>by
 obtain⟨m,rfl⟩:∃m,n=m+1:=⟨n - 1,by simp only [iu] at hn; omega⟩
 simp only [b5]
 rw [g m (by omega)]; rfl
theorem aP.mono {k k':Nat}{x y:List AV}(hk:k≤k')(f:aP k h x y):aP k' h x y:=fun n hn=>f n (by omega)
theorem iA {xs:List AV}(f:aP k h xs ys)(hk:k≤cq:=by decide):aP cq h xs ys:=aP.mono hk f
theorem DF:∀{us bs cs ys:List AV} {k1 k2:Nat},aP k1 h us bs→aP k2 h cs ys→aP (k1+k2+us.length+1) h (us++cs) (bs++ys)
 | [],bs,cs,ys,k1,k2,f,g=>fun n hn=>by
  have:=f (iu+k1) (Ue _)
  have hb:bs=[]:=by
   cases hm:iu+k1 with
   | zero=>simp [iu] at hm
   | succ m=>rw [hm] at this; simp only [bq,Uc] at this; exact this.symm
  subst hb
  exact g n (by omega)
 | a::us,bs,cs,ys,k1,k2,f,g=>fun n hn=>by
  have h1:=f (iu+k1) (Ue _)
  obtain⟨m,rfl⟩:∃m,n=m+1:=⟨n - 1,by simp only [iu] at hn; omega⟩
  have hb:∃b Ky,bs=b::Ky:=by
   cases hm:iu+k1 with
   | zero=>simp [iu] at hm
   | succ m=>
    rw [hm] at h1
    simp only [bq,T9,Ub] at h1
    obtain⟨y,_,zs,_,e⟩:=h1
    exact⟨y,zs,e.symm⟩
  obtain⟨b,Ky,rfl⟩:=hb
  have key:∀n',iu+k1≤n'+1→b5 h n' a=some b∧bq h n' us=some Ky:=fun n' J1=>by
   have:=f (n'+1) J1
   simp only [bq,T9,Ub] at this
   obtain⟨y,hy,zs,hz,e⟩:=this
   cases e
   exact⟨hy,hz⟩
  have f2:aP k1 h us Ky:=fun n' J1=>(key n' (by omega)).2
  have:=DF f2 g m (by simp only [Up] at hn; omega)
  show bq h (m+1) (a::(us++cs))=some (b::(Ky++ys))
  simp only [bq]
  rw [(key m (by omega)).1,this]
  rfl
theorem G7 {us bs:List AV}{k:Nat}(f:aP k h us bs)(g:aP cq h cs ys)(hk:k≤500:=by decide)(hl:us.length≤400:=by simp):aP bQ h (us++cs) (bs++ys):=(DF f g).mono (by
 have:k+cq+us.length+1≤cq+1001:=by omega
 exact UT this (by decide))
end
theorem DG {α:Type}{E:bL α}{l:List α}{h h':AHeap}{K:Mem}{q q2 i j n:Nat}{cs:List AV}{y:AV}(o:Has h K)(hq:K[q]? = some (i,.sl n E.n (E.l l)))(F6:K[q2]? = some (j,.ob cs))(e:iL 0 h (.rs i 0 n E.n)=some (y,h'))(hp:E.flat=true:=by rfl):h.ver j=h'.ver j:=by
 have hn:=cD o hq
 subst hn
 obtain⟨⟨⟨hlen,qf⟩,ly⟩,hlt⟩:=o.at_ _ _ _ hq
 obtain⟨⟨hj,_⟩,_⟩:=o.at_ _ _ _ F6
 have hne:j≠i:=by
  intro he
  subst he
  have:=o.nd _ _ _ _ _ hq F6 hj
  subst this
  rw [hq] at F6
  cases F6
 simp only [iL] at e
 rcases ly with⟨h0,h1⟩| ⟨h0,rest,h1⟩
 ·rw [if_pos h0,if_pos h1] at e
  cases e; rfl
 ·rw [if_neg h0,h1] at e
  simp only [Ua] at e
  have e1:((E.l l++rest).drop 0).take (l.length*E.n)=E.l l:=by
   rw [US,UK (by rw [hlen]; exact Ue _),UP (by rw [hlen]; exact Ue _)]
  rw [e1,if_pos (by rw [Uk,hlen]; omega),pa (bL.nA hp).1] at e
  cases e
  exact wU hne
end Go.R
namespace Go.R
open Go
def ni (k i:Nat):Nat:=if i=0 then 0 else i+k
theorem tH {k i off n z:Nat}:cG k (.rs i off n z)=some (.rs (ni k i) off n z):=by
 unfold cG ni
 split<;>rfl
theorem k9 {k:Nat}:b9 k []=some []:=rfl
theorem cY {k:Nat}{x y:AV}{xs ys:List AV}(a:cG k x=some y)(b:b9 k xs=some ys):b9 k (x::xs)=some (y::ys):=by
 simp only [b9,a,b,Ua,Ug]
theorem u6 {k:Nat}{xs ys:List AV}(b:b9 k xs=some ys):cG k (.agg xs)=some (.agg ys):=by
 simp only [cG,b,Ug]
theorem DH {k:Nat}{xs ys:List AV}(b:b9 k xs=some ys):cG k (.tup xs)=some (.tup ys):=by
 simp only [cG,b,Ug]
theorem me {k:Nat}:∀{a a' b b':List AV},b9 k a=some a'→b9 k b=some b'→b9 k (a++b)=some (a'++b')
 | [],a',b,b',h1,h2=>by simp only [b9,Uc] at h1; subst h1; exact h2
 | x::a,a',b,b',h1,h2=>by
  simp only [b9,T9,Ub] at h1
  obtain⟨y,h3,ys,h4,rfl⟩:=h1
  exact cY h3 (me h4 h2)
theorem nD {k:Nat}:∀{a a':List AV} (r:List AV),b9 k a=some a'→eZ k (a++r)=a'++eZ k r
 | [],a',r,h1=>by simp only [b9,Uc] at h1; subst h1; rfl
 | x::a,a',r,h1=>by
  simp only [b9,T9,Ub] at h1
  obtain⟨y,h3,ys,h4,rfl⟩:=h1
  have e:eZ k (x::(a++r))=y::eZ k (a++r):=by rw [eZ,h3]
  show eZ k (x::(a++r))=(y::ys)++eZ k r
  rw [e,nD r h4]; rfl
theorem p5 {k:Nat}:∀{a a':List AV},b9 k a=some a'→a'.length=a.length
 | [],a',h1=>by simp only [b9,Uc] at h1; subst h1; rfl
 | x::a,a',h1=>by
  simp only [b9,T9,Ub] at h1
  obtain⟨y,h3,ys,h4,rfl⟩:=h1
  rw [Up,Up,p5 h4]
def M9 (k:Nat):Nat × Ct→Nat × Ct→Prop
 | (i,.sl n z cs),b=>∃eO,b9 k cs=some eO∧b=(ni k i,.sl n z eO)
 | (i,.ob cs),b=>∃eO,b9 k cs=some eO∧b=(ni k i,.ob eO)
 | _,_=>False
inductive Cw (k:Nat)(L:Mem):Mem→Mem→Prop
 | nil:Cw k L [] L
 | cons {a b:Nat × Ct} {K K':Mem} (e:M9 k a b) (g:Cw k L K K'):Cw k L (a::K) (b::K')
section
variable {k i n z:Nat}{L K K':Mem}{α:Type}{E:bL α}{l:List α}
theorem Kz (hE:∀a,b9 k (E.f a)=some (E.f a)):∀l:List α,b9 k (E.l l)=some (E.l l)
 | []=>rfl
 | a::l=>by rw [bL.eo]; exact me (hE a) (Kz hE l)
theorem zN (hE:∀a,b9 k (E.f a)=some (E.f a))(g:Cw k L K K'):Cw k L ((i,.sl n z (E.l l))::K) ((ni k i,.sl n z (E.l l))::K'):=.cons ⟨_,Kz hE l,rfl⟩ g
theorem DI:∀(ns:List ao) (ids:List Nat),b9 k (fU.l (bC ns ids))=some (fU.l (bC ns (ids.map (ni k))))
 | [],_=>rfl
 | a::ns,ids=>by
  have h1:(ids.map (ni k)).headD 0=ni k (ids.headD 0):=by cases ids<;>rfl
  have h2:(ids.map (ni k)).tail=ids.tail.map (ni k):=by cases ids<;>rfl
  show b9 k (fU.f (a,ids.headD 0)++fU.l (bC ns ids.tail))=some (fU.f (a,(ids.map (ni k)).headD 0)++fU.l (bC ns (ids.map (ni k)).tail))
  rw [h1,h2]
  exact me (cY rfl (cY rfl (cY rfl (cY tH k9)))) (DI ns ids.tail)
theorem G8 {ns:List ao}{ids:List Nat}(g:Cw k L K K'):Cw k L ((i,.sl n z (fU.l (bC ns ids)))::K) ((ni k i,.sl n z (fU.l (bC ns (ids.map (ni k)))))::K'):=.cons ⟨_,DI ns ids,rfl⟩ g
theorem yA:∀{ns:List ao} {ids:List Nat},Cw k L K K'→Cw k L (fM ns ids++K) (fM ns (ids.map (ni k))++K')
 | [],_,g=>g
 | a::ns,ids,g=>by
  have h1:(ids.map (ni k)).headD 0=ni k (ids.headD 0):=by cases ids<;>rfl
  have h2:(ids.map (ni k)).tail=ids.tail.map (ni k):=by cases ids<;>rfl
  show Cw k L (yx (a,ids.headD 0)::(fM ns ids.tail++K)) (yx (a,(ids.map (ni k)).headD 0)::(fM ns (ids.map (ni k)).tail++K'))
  rw [h1,h2]
  exact zN (E:=af) (fun _=>rfl) (yA g)
end
theorem Ii {k:Nat}{L K K':Mem}(g:Cw k L K K'):∃K2,K'=K2++L∧K2.length=K.length∧∀(j:Nat) b,K2[j]? = some b→∃a,K[j]? = some a∧M9 k a b:=by
 induction g with
 | nil=>exact⟨[],rfl,rfl,fun j b h=>by simp at h⟩
 | cons e g ih=>
  rename_i a b K K'
  obtain⟨K2,rfl,h2,h3⟩:=ih
  refine⟨b::K2,rfl,by rw [Up,Up,h2],fun j c hj=>?_⟩
  cases j with
  | zero=>simp only [UR,Uc] at hj; subst hj; exact⟨a,rfl,e⟩
  | succ j=>simp only [Ve] at hj ⊢; exact h3 j c hj
theorem u7 {k i i':Nat}{c c':Ct}(e:M9 k (i,c) (i',c')):i'=ni k i:=by
 cases c with
 | sl n z cs=>obtain⟨_,_,h⟩:=e; cases h; rfl
 | ob cs=>obtain⟨_,_,h⟩:=e; cases h; rfl
 | mp es=>exact e.elim
 | row t cs=>exact e.elim
theorem Has.dX {h h1:AHeap}{K1 K2 L:Mem}(o:Has h L)(o1:Has h1 K1)(g:Cw h.next L K1 K2):Has (h.dX h1) K2:=by
 obtain⟨K3,rfl,hlen,Bi⟩:=Ii g
 have hnx:(h.dX h1).next=h.next+h1.next:=rfl
 have Fa:∀{i:Nat},i≠0→ni h.next i=i+h.next:=fun hi=>if_neg hi
 have hget:∀{i:Nat} {cs:List AV},i≠0→h1.get i=some (.cells cs)→(h.dX h1).get (ni h.next i)=some (.cells (eZ h.next cs)):=fun {i cs} hi hg=>by
  rw [Fa hi,(jx (Nat.le_add_left _ _)).1,Nat.add_sub_cancel,hg]; rfl
 have hidlt:∀{i:Nat},i<h1.next→ni h.next i<(h.dX h1).next:=fun {i} hi=>by
  rw [hnx]
  by_cases h0:i=0
  ·subst h0; show 0<_; have:=o.pos; omega
  ·rw [Fa h0]; omega
 refine⟨fun j i c hj=>?_,fun j j' i c c' hj xJ hi=>?_,by rw [hnx]; have:=o.pos; omega⟩
 ·by_cases hl:j<K3.length
  ·rw [Ur hl] at hj
   obtain⟨⟨i1,c1⟩,ha,he⟩:=Bi j _ hj
   obtain⟨w1,w2⟩:=o1.at_ _ _ _ ha
   cases c1 with
   | sl n z cs=>
    obtain⟨eO,h3,h4⟩:=he
    cases h4
    refine⟨⟨by rw [p5 h3]; exact w1.1,?_⟩,hidlt w2⟩
    rcases w1.2 with⟨h5,h6⟩| ⟨h5,rest,h6⟩
    ·left; subst h5; exact⟨rfl,h6⟩
    ·right
     refine⟨by rw [Fa h5]; omega,eZ h.next rest,?_⟩
     rw [hget h5 h6,nD rest h3]
   | ob cs=>
    obtain⟨eO,h3,h4⟩:=he
    cases h4
    refine⟨⟨by rw [Fa w1.1]; have:=w1.1; omega,?_⟩,hidlt w2⟩
    rw [hget w1.1 w1.2]
    have:=nD [] h3
    rw [Vy] at this
    rw [this]; simp [eZ]
   | mp es=>exact he.elim
   | row t cs=>exact he.elim
  ·rw [Us (by omega)] at hj
   obtain⟨w1,w2⟩:=o.at_ _ _ _ hj
   exact⟨nB (fun _=>(iP w2).1) w1,by rw [hnx]; omega⟩
 ·by_cases hl:j<K3.length<;>by_cases nG:j'<K3.length
  ·rw [Ur hl] at hj
   rw [Ur nG] at xJ
   obtain⟨⟨i1,c1⟩,ha,he⟩:=Bi j _ hj
   obtain⟨⟨i2,c2⟩,RP,RQ⟩:=Bi j' _ xJ
   have e1:=u7 he
   have e2:=u7 RQ
   have n1:i1≠0:=fun h0=>hi (by rw [e1,h0]; rfl)
   have n2:i2≠0:=fun h0=>hi (by rw [e2,h0]; rfl)
   rw [Fa n1] at e1
   rw [Fa n2] at e2
   have:i2=i1:=by omega
   subst this
   exact o1.nd _ _ _ _ _ ha RP n1
  ·rw [Ur hl] at hj
   rw [Us (by omega)] at xJ
   obtain⟨⟨i1,c1⟩,ha,he⟩:=Bi j _ hj
   have e1:=u7 he
   have n1:i1≠0:=fun h0=>hi (by rw [e1,h0]; rfl)
   rw [Fa n1] at e1
   have:=(o.at_ _ _ _ xJ).2
   omega
  ·rw [Us (by omega)] at hj
   rw [Ur nG] at xJ
   obtain⟨⟨i1,c1⟩,ha,he⟩:=Bi j' _ xJ
   have e1:=u7 he
   have n1:i1≠0:=fun h0=>hi (by rw [e1,h0]; rfl)
   rw [Fa n1] at e1
   have:=(o.at_ _ _ _ hj).2
   omega
  ·rw [Us (by omega)] at hj xJ
   have:=o.nd _ _ _ _ _ hj xJ hi
   omega
theorem kB (h h1:AHeap):∀j,j<h.next→h.ver j=(h.dX h1).ver j:=fun j hj=>(iP hj).2.symm
theorem mf {P:Program}{T:mV}{m f deep:Nat}{h h':AHeap}{xs ys:List AV}{r y:AV}(h1:T.intr f=none)(h2:T.pure f=some deep)(h3:T.dX f=true)(hd:iu+bQ≤deep)(hx:aP bQ h xs ys)(hb:ba P T.aV (iz P T m) m f ys bz=some (r,h'))(hg:cG h.next r=some y):iz P T m f xs h=some (y,h.dX h'):=by
 refine kz ?_
 simp only [p4,h1,h2,h3,if_true,hx deep hd,Ua,hb,hg,Ug]
theorem F8 {P:Program}{t:TypeId}{a b c d:Int}(h:∀a b c d:Int,lN P .eql t (.agg [.int .i64 a,.int .i64 b]) (.agg [.int .i64 c,.int .i64 d])=some (.bool (eY (.agg [.int .i64 a,.int .i64 b]) (.agg [.int .i64 c,.int .i64 d])==true))) :
  lN P .eql t (.agg [.int .i64 a,.int .i64 b]) (.agg [.int .i64 c,.int .i64 d])=some (.bool (a==c&&b==d)):=by
 rw [h]
 congr 2
 have:=kZ [a,b] [c,d]
 have e:eY (.agg [.int .i64 a,.int .i64 b]) (.agg [.int .i64 c,.int .i64 d])=kP (af.l [a,b]) (af.l [c,d]):=rfl
 rw [e,this]
 by_cases h1:a=c<;>by_cases h2:b=d<;>simp [h1,h2]
theorem Has.wV {h:AHeap}{pre mid N L:Mem}(o:Has h (pre++(mid++(N++L)))):Has h (pre++(N++(mid++L))):=by
 refine o.perm (List.Perm.append_left _ ?_)
 rw [←Uq,←Uq]
 exact List.Perm.append_right _ List.perm_append_comm
def u9 (ns:List ao)(ids:List Nat)(j:Int)(ad:Nat):List Nat:=(uX ns ids).set j.toNat ad
theorem tI:∀(ns:List ao) (ids:List Nat),bC ns (uX ns ids)=bC ns ids
 | [],_=>rfl
 | a::ns,ids=>by
  have:=tI ns ids.tail
  simp only [uX,bC,UC,List.headD_cons,List.tail_cons] at this ⊢
  rw [this]
theorem tJ:∀(ns:List ao) (ids:List Nat) (i:Nat) (n:ao) (ad:Nat),ns.length=ids.length→bC (ns.set i n) (ids.set i ad)=(bC ns ids).set i (n,ad)
 | [],_,_,_,_,_=>rfl
 | a::ns,[],_,_,_,h=>by simp at h
 | a::ns,j::ids,0,n,ad,_=>rfl
 | a::ns,j::ids,i+1,n,ad,h=>by
  have:=tJ ns ids i n ad (by simpa using h)
  simp only [List.set_cons_succ,bC,List.headD_cons,List.tail_cons,this]
theorem tK (ns:List ao)(ids:List Nat)(j:Int)(n:ao)(ad:Nat):bC (ns.set j.toNat n) (u9 ns ids j ad)=(bC ns ids).set j.toNat (n,ad):=by
 unfold u9
 rw [tJ ns (uX ns ids) j.toNat n ad (by unfold uX; rw [Ux,fy]),tI]
section
variable {P:Program}{tf:TypeId}{h:AHeap}{pre L:Mem}{ns:List ao}{ids:List Nat}{i ad k n2 q:Nat}{j:Int}{n:ao}{args:List Int}
theorem F9 (o:Has h ((i,.sl k 4 (fU.l (bC ns ids)))::(ad,.sl n2 1 (af.l args))::(pre++(fM ns ids++L))))(hs:eL P tf=some 1)(hx:ix ns j=some n) :
  ∃h',iF P h tf (.ptr i (0+j.toNat*4+3)) (.rs ad 0 n2 1)=some h'∧
   Has h' ((i,.sl k 4 (fU.l (bC (ns.set j.toNat ⟨n.kind,n.int,n.label,args⟩) (u9 ns ids j ad))))::(pre++(fM (ns.set j.toNat ⟨n.kind,n.int,n.label,args⟩) (u9 ns ids j ad)++L))):=by
 have hn:n2=args.length:=cD (E:=af) o (q:=1) rfl
 subst hn
 obtain⟨h0,h1,h2⟩:=gG hx
 obtain⟨h',e,o'⟩:=FN (P:=P) (tf:=tf) (E:=fU) (l:=bC ns ids) (q:=0) (off:=3) (v:=((⟨n.kind,n.int,n.label,args⟩:ao),ad)) (x:=.rs ad 0 args.length 1) o rfl hs (qU hx) rfl rfl (by decide) rfl
 refine⟨h',e,?_⟩
 have e1:(bC ns ids).set j.toNat ((⟨n.kind,n.int,n.label,args⟩:ao),ad)=bC (ns.set j.toNat ⟨n.kind,n.int,n.label,args⟩) (u9 ns ids j ad):=(tK ns ids j _ ad).symm
 have e2:fM (ns.set j.toNat ⟨n.kind,n.int,n.label,args⟩) (u9 ns ids j ad)=(fM ns ids).set j.toNat (yx (⟨n.kind,n.int,n.label,args⟩,ad)):=by
  unfold fM; rw [tK,List.map_set]
 rw [←e1,e2]
 have o2:Has h' ((i,.sl k 4 (fU.l ((bC ns ids).set j.toNat ((⟨n.kind,n.int,n.label,args⟩:ao),ad))))::yx (⟨n.kind,n.int,n.label,args⟩,ad)::(pre++(fM ns ids++L))):=o'
 have hl:j.toNat<(fM ns ids).length:=by unfold fM; rw [Ux,fy]; omega
 have e3:(fM ns ids).set j.toNat (yx (⟨n.kind,n.int,n.label,args⟩,ad))=(fM ns ids).take j.toNat++yx (⟨n.kind,n.int,n.label,args⟩,ad)::(fM ns ids).drop (j.toNat+1):=by
  rw [List.set_eq_take_append_cons_drop,if_pos hl]
 have e4:fM ns ids=(fM ns ids).take j.toNat++(fM ns ids)[j.toNat]::(fM ns ids).drop (j.toNat+1):=by
  conv=>lhs; rw [←Vk j.toNat (fM ns ids),Uo hl]
 rw [e3]
 generalize hA:(fM ns ids).take j.toNat=A at *
 generalize hB:(fM ns ids).drop (j.toNat+1)=B at *
 rw [e4] at o2
 have o3:=(o2.del (pre.length+A.length+2))
 have e5:((i,Ct.sl k 4 (fU.l ((bC ns ids).set j.toNat ((⟨n.kind,n.int,n.label,args⟩:ao),ad))))::yx (⟨n.kind,n.int,n.label,args⟩,ad)::(pre++((A++(fM ns ids)[j.toNat]::B)++L))).eraseIdx (pre.length+A.length+2)=(i,Ct.sl k 4 (fU.l ((bC ns ids).set j.toNat ((⟨n.kind,n.int,n.label,args⟩:ao),ad))))::yx (⟨n.kind,n.int,n.label,args⟩,ad)::(pre++((A++B)++L)):=by
  show _::_::(pre++((A++(fM ns ids)[j.toNat]::B)++L)).eraseIdx (pre.length+A.length)=_
  congr 2
  rw [List.eraseIdx_append_of_length_le (by omega),Vp,Uq,List.eraseIdx_append_of_length_le (by omega),Vm]
  simp
 rw [e5] at o3
 refine o3.perm (List.Perm.cons _ ?_)
 have k1:pre++((A++yx ((⟨n.kind,n.int,n.label,args⟩:ao),ad)::B)++L)=(pre++A)++yx (⟨n.kind,n.int,n.label,args⟩,ad)::(B++L):=by simp
 have k2:pre++((A++B)++L)=(pre++A)++(B++L):=by simp
 rw [k1,k2]
 exact List.perm_middle
theorem mM:∀(ns:List ao) (ids:List Nat) (k:Nat),bC (ns.drop k) (ids.drop k)=(bC ns ids).drop k
 | ns,ids,0=>rfl
 | [],_,k+1=>by simp [bC]
 | a::ns,[],k+1=>by
  have:=mM ns [] k
  simpa [bC] using this
 | a::ns,j::ids,k+1=>by
  have:=mM ns ids k
  simpa [bC] using this
theorem DJ (o:Has h (pre++(fM (ns.drop j.toNat) (ids.drop j.toNat)++L)))(hq:pre[q]? = some (i,.sl k 4 (fU.l (bC ns ids))))(hx:ix ns j=some n) :
  Has h ((Jt ids j,.sl n.args.length 1 (af.l n.args))::(pre++(fM (ns.drop (IntKind.i64.wrap (j+(1:Int))).toNat) (ids.drop (IntKind.i64.wrap (j+(1:Int))).toNat)++L))):=by
 obtain⟨h0,h1,h2⟩:=gG hx
 have RR:q<pre.length:=(Uh.1 hq).1
 have uw:(pre++(fM (ns.drop j.toNat) (ids.drop j.toNat)++L))[q]? = some (i,.sl k 4 (fU.l (bC ns ids))):=by rw [Ur RR]; exact hq
 obtain⟨⟨⟨_,qf⟩,_⟩,_⟩:=o.at_ _ _ _ uw
 have qf:(fU.l (bC ns ids)).length≤1125899906842624:=qf
 rw [bL.bJ,fy] at qf
 have qf:ns.length*4≤1125899906842624:=qf
 have hw:(IntKind.i64.wrap (j+(1:Int))).toNat=j.toNat+1:=by
  have hm:(j+1) % 18446744073709551616=j+1:=Int.emod_eq_of_lt (by omega) (by omega)
  have:IntKind.i64.wrap (j+(1:Int))=j+1:=by
   show (if true&&decide ((j+1) % 18446744073709551616≥9223372036854775808) then (j+1) % 18446744073709551616 - 18446744073709551616 else (j+1) % 18446744073709551616)=j+1
   rw [hm]
   have:decide (j+1≥9223372036854775808)=false:=by rw [decide_eq_false_iff_not]; omega
   rw [this]; rfl
  rw [this]; omega
 rw [hw]
 have e:fM (ns.drop j.toNat) (ids.drop j.toNat)=(Jt ids j,.sl n.args.length 1 (af.l n.args))::fM (ns.drop (j.toNat+1)) (ids.drop (j.toNat+1)):=by
  unfold fM
  rw [mM,mM]
  have hz:=rY ns ids _ _ h2
  have hl:j.toNat<(bC ns ids).length:=by rw [fy]; omega
  rw [Uo hl]
  have:(bC ns ids)[j.toNat]=(n,ids.getD j.toNat 0):=(Uh.1 hz).2
  rw [this]
  rfl
 rw [e] at o
 refine o.perm ?_
 exact List.perm_middle.symm
end
end Go.R
namespace Go.Proofs.Ytifafejidnjckaa
open Go Go.R
open Go.IntKind (i64 u64 u8 u32)
structure aL where
 er:Int
 sS:Int
 BS:Int
 eu:ByteArray
 ff:List Int
 va:bu
structure ab where
 aj:Bool
 aa:List ao
 ae:List Int
structure aZ where
 jI:Int
 kL:Int
def aO:bL aL:={n:=7,f:=fun x=>[.int .i64 x.er,.int .i64 x.sS,.int .i64 x.BS,.str x.eu,af.fz x.ff,ah.fz x.va.nodes,.int .i64 x.va.root],len:=fun _=>rfl,pos:=by decide,pure:=fun x _=>pure_cons fS (pure_cons fS (pure_cons fS (pure_cons l8 (pure_cons bL.bH (pure_cons bL.bH (pure_cons fS (pure_nil))))))),canon:=fun _=>rfl}
def dA:bL aZ:={n:=2,f:=fun x=>[.int .i64 x.jI,.int .i64 x.kL],len:=fun _=>rfl,pos:=by decide,pure:=fun x _=>pure_cons fS (pure_cons fS (pure_nil)),canon:=fun _=>rfl}
theorem KA:wG Try.prog 22 7 96=true:=by kernel_rfl
theorem gH:wG Try.prog 33 1 8=true:=by kernel_rfl
theorem wW:wG Try.prog 40 4 56=true:=by kernel_rfl
theorem Na:wG Try.prog 93 2 16=true:=by kernel_rfl
theorem A3:fC Try.prog 3=some false:=by kernel_rfl
theorem RU:fC Try.prog 33=some false:=by kernel_rfl
theorem PA:fC Try.prog 40=some false:=by kernel_rfl
theorem PB:fC Try.prog 44=some true:=by kernel_rfl
theorem DK:fC Try.prog 51=some true:=by kernel_rfl
theorem Z3:eL Try.prog 3=some 1:=by kernel_rfl
theorem RV:eL Try.prog 33=some 1:=by kernel_rfl
theorem PC:eL Try.prog 44=some 7:=by kernel_rfl
theorem DL:eL Try.prog 51=some 4:=by kernel_rfl
theorem U9:Try.prog.underlying 9=some .string:=by kernel_rfl
theorem KB:wL Try.prog 82=true:=by kernel_rfl
theorem zO:wM Try.prog 113 9=true:=by kernel_rfl
theorem DM:Try.prog.underlying 113=some (.map 115 3):=by kernel_rfl
theorem tL:BL Try.prog 115 9=true:=by kernel_rfl
theorem Nb:M8 Try.prog 33=true:=by kernel_rfl
theorem Nc:∀a b c d:Int,lN Try.prog .eql 92 (.agg [.int .i64 a,.int .i64 b]) (.agg [.int .i64 c,.int .i64 d])=some (.bool (eY (.agg [.int .i64 a,.int .i64 b]) (.agg [.int .i64 c,.int .i64 d])==true)):=by
 intro a b c d
 kernel_rfl
def dW.f (m:Nat):Option Bool:=some true
def PD (cf:CallF)(m:Nat):Prop:=∀r:Bool,dW.f m=some r→∀h xs,aP bQ h xs []→cf 11 xs h=some (.bool r,h)
def Nd (cf:CallF)(m:Nat):Prop:=Dx cf 39 1
def PE (cf:CallF)(m:Nat):Prop:=G5 cf 60
end Go.Proofs.Ytifafejidnjckaa
namespace Go.Proofs.Ytifafejidnjckaa
open Go Go.R
open Go.IntKind (i64 u64 u8 u32)
def wX:b4:=gK [0,2,3,7,26] [] [30,26,18,26,10,29,29] [] []
def bA.l0 (m:Nat)(l0:List aL):Nat→Int→Option (Sum Bool (Int))
 | 0,_=>none
 | k+1,i0=>if (decide (i0<(l0.length:Int)))=true then ((ix l0 i0).bind fun v0=>if (decide ((v0.va.nodes.length:Int) > (40:Int)))=true then (some (.inl true)) else ((ix l0 i0).bind fun v1=>if (decide ((v1.ff.length:Int) > (40:Int)))=true then (some (.inl true)) else (bA.l0 m l0 k (i64.wrap (i0+(1:Int)))))) else (some (.inr i0))
def bA.f (m:Nat)(l0:List aL):Option (Bool):=(bA.l0 m l0 m (0:Int)).bind fun cJ=>match cJ with | .inl r0=>some r0 | .inr i1=>some (decide ((l0.length:Int) > (60:Int)))
def bA.fin (L:Mem)(r:Bool)(s:St):Prop:=∃av,aM Try.prog (s.open wX) Try.f10.results.toList=some av∧fL s.h av (.bool r)
def PF (cf:CallF)(m:Nat):Prop:=∀(l0:List aL) (r:Bool),bA.f m l0=some r→∀h xs,aP bQ h xs [aO.fz l0]→cf 10 xs h=some (.bool r,h)
section
variable {cf:CallF}{m:Nat}
theorem bA.dB (L:Mem)(l0:List aL)   : dU Try.prog cf wX m (sub [1,0,1,0,0] (b6 Try.f10)) (fun k (σ:Int)=>bA.l0 m l0 k σ) (fun σ s=>match σ with | i0=>∃h0,s=⟨[aO.fz l0,.any,.int .i64 i0,.any,.any],[],h0⟩∧Has h0 (L)) (fun out e s=>(e = .exit 0∧∃i0,.inr i0=out∧∃Ga DN h0,s=⟨[aO.fz l0,.any,Ga,DN,.any],[],h0⟩∧Has h0 (L))∨(e = .ret∧∃r,.inl r=out∧bA.fin L r s)):=by
 refine mK (fun _=>rfl) ?_
 rintro k i0 s out ⟨h0,rfl,o0⟩ H
 have H:bA.l0 m l0 (k+1) i0=some out:=H
 refine qq <| qq <| q0 <| qc H (fun c0 H=>?_) (fun c0 H=>?_)
 ·refine qk <| qq <| qb 1 <| qq ?_
  obtain⟨v0,e0,H⟩:=bl H
  rcases hZ H with⟨c1,H⟩| ⟨c1,H⟩
  ·exact qr [.v 2 (fR (k:=.i64) (E:=aO) (l:=l0) KA e0),.v 5 (rN  (E:=aO) (l:=l0) (off:=5) h0 PA e0 rfl),.b 8 c1] <| Fg <| qq <| q0 <| qt <| Or.inr (⟨rfl,_,oi H,dz (.bool true) h0 (du (aD))⟩)
  ·obtain⟨v1,e1,H⟩:=bl H
   refine qr [.v 2 (fR (k:=.i64) (E:=aO) (l:=l0) KA e0),.v 5 (rN  (E:=aO) (l:=l0) (off:=5) h0 PA e0 rfl),.b 8 c1,.v 11 (fR (k:=.i64) (E:=aO) (l:=l0) KA e1),.v 13 (rN  (E:=aO) (l:=l0) (off:=4) h0 RU e1 rfl)] <| qc H (fun c3 H=>?_) (fun c3 H=>?_)
   ·exact q1 <| qt <| Or.inr (⟨rfl,_,oi H,dz (.bool true) h0 (du (aD))⟩)
   ·exact qk <| q0 <| ⟨i64.wrap (i0+(1:Int)),⟨h0,by kernel_rfl,o0⟩,H⟩
 ·exact qx 0 <| Or.inl (⟨rfl,i0,oi H,.int .i64 i0,.bool (decide (i0<(l0.length:Int))),h0,by kernel_rfl,o0⟩)
theorem pn {aV:FuncId→b4}(ha:aV 10=wX)  (l0:List aL)(h:AHeap)(L:Mem)  (o:Has h (L)){out:Bool}(H:bA.f m l0=some out) :
  ∃r h',ba Try.prog aV cf m 10 [aO.fz l0] h=some (r,h')∧fL h' r (.bool out):=by
 refine ar (fn:=Try.f10) ha Try.func10 (by kernel_rfl) (by kernel_rfl) ?_
 refine aI (Q:=fun s=>bA.fin L out s) (fun _ _ h=>h) ?_
 have H:_=some out:=H
 unfold bA.f at H
 show dt _ cf wX m _ ⟨aO.fz l0::nK [],[],h⟩ _
 refine q1 <| qq <| qq <| q0 <| qb 0 ?_
 obtain⟨cJ,e2,H⟩:=bl H
 refine ql (bA.dB L l0   (0:Int) _ _ ⟨h,by kernel_rfl,o⟩ e2) ?_
 rintro e s (⟨rfl,i1,rfl,g0,g1,h1,rfl,o1⟩| ⟨rfl,r0,rfl,yB⟩)
 ·try dsimp only at H
  obtain rfl:=oi H
  exact q1 <| qt <| ⟨.inl rfl,dz (.bool (decide ((l0.length:Int) > (60:Int)))) h1 (du (aD))⟩
 ·try dsimp only at H
  obtain rfl:=oi H
  exact⟨.inl rfl,yB⟩
end
end Go.Proofs.Ytifafejidnjckaa
namespace Go.Proofs.Ytifafejidnjckaa
open Go Go.R
open Go.IntKind (i64 u64 u8 u32)
def jC.l0 (m:Nat)(a0:List Int)(b0:List Int):Nat→Int→Option (Sum Bool (Int))
 | 0,_=>none
 | k+1,i0=>if (decide (i0<(a0.length:Int)))=true then ((ix a0 i0).bind fun v0=>(ix b0 i0).bind fun v1=>if (!(v0==v1))=true then (some (.inl false)) else (jC.l0 m a0 b0 k (i64.wrap (i0+(1:Int))))) else (some (.inr i0))
def jC.f (m:Nat)(a0:List Int)(b0:List Int):Option (Bool):=if (!((a0.length:Int)==(b0.length:Int)))=true then (some false) else ((jC.l0 m a0 b0 m (0:Int)).bind fun cJ=>match cJ with | .inl r0=>some r0 | .inr i1=>some true)
end Go.Proofs.Ytifafejidnjckaa
namespace Go.Proofs.Ytifafejidnjckaa
open Go Go.R
open Go.IntKind (i64 u64 u8 u32)
end Go.Proofs.Ytifafejidnjckaa
namespace Go.Proofs.Ytifafejidnjckaa
open Go Go.R
open Go.IntKind (i64 u64 u8 u32)
def zP:b4:=gK [0] [14000000001] [1] [] []
def iI.f (m:Nat)  : Option (ab):=some (ab.mk true ([]:List ao) ([]:List Int))
def iI.fin (L:Mem)  (r:ab)(s:St):Prop:=∃dI fV fW:Nat,aM Try.prog (s.open zP) Try.f26.results.toList=some (.ptr dI 0)∧Has s.h ((dI,.ob [.bool r.aj,.rs fV 0 r.aa.length 4,.rs fW 0 r.ae.length 1])::(fV,.sl r.aa.length 4 (ah.l r.aa))::(fW,.sl r.ae.length 1 (af.l r.ae))::L)
def PG (cf:CallF)(m:Nat):Prop:=∀ (r:ab),iI.f m  = some r→∀h L,Has h (L)→∀xs,xs.map aK=[]→∃dI fV fW h',cf 26 xs h=some (.ptr dI 0,h')∧Has h' ((dI,.ob [.bool r.aj,.rs fV 0 r.aa.length 4,.rs fW 0 r.ae.length 1])::(fV,.sl r.aa.length 4 (ah.l r.aa))::(fW,.sl r.ae.length 1 (af.l r.ae))::L)
section
variable {cf:CallF}{m:Nat}
theorem r9 {aV:FuncId→b4}(ha:aV 26=zP)   (h:AHeap)(L:Mem)  (o:Has h (L)){out:ab}(H:iI.f m  = some out) :
  ∃r h',ba Try.prog aV cf m 26 [] h=some (r,h')∧∃dI fV fW:Nat,r = .ptr dI 0∧Has h' ((dI,.ob [.bool out.aj,.rs fV 0 out.aa.length 4,.rs fW 0 out.ae.length 1])::(fV,.sl out.aa.length 4 (ah.l out.aa))::(fW,.sl out.ae.length 1 (af.l out.ae))::L):=by
 refine ar (fn:=Try.f26) ha Try.func26 (by kernel_rfl) (by kernel_rfl) ?_
 refine aI (Q:=fun s=>iI.fin L out s) (fun _ _ ⟨h1,dI,fV,fW,h2,h3⟩=>⟨h1,_,h2,dI,fV,fW,rfl,h3⟩) ?_
 have H:_=some out:=H
 unfold iI.f at H
 show dt _ cf zP m _ ⟨[.any],[none],h⟩ _
 refine q1 <| qq ?_
 have o0:Has h (((0),.sl (([]:List ao).length) 4 (ah.l ([]:List ao)))::L):=Has.nil o 4
 have o1:Has h ((((0)),.sl (([]:List Int).length) 1 (af.l ([]:List Int)))::((0),.sl (([]:List ao).length) 4 (ah.l ([]:List ao)))::L):=Has.nil o0 1
 obtain⟨aH,h0,e0,o2⟩:=gd (cs:=[.bool true,.rs (0) 0 (([]:List ao).length) 4,.rs ((0)) 0 (([]:List Int).length) 1]) o1 (by kernel_rfl)
 obtain rfl:=oi H
 exact qr [.a 1 e0] <| qt <| ⟨.inl rfl,⟨aH,(0),((0)),by kernel_rfl,he (Has.front (Has.front (Has.front o2 1 rfl) 2 rfl) 2 rfl)⟩⟩
end
end Go.Proofs.Ytifafejidnjckaa
namespace Go.Proofs.Ytifafejidnjckaa
open Go Go.R
open Go.IntKind (i64 u64 u8 u32)
def wY:b4:=gK [0,1,5,6,7,8,9] [] [70,6,66,70,70] [] []
def bb.l0 (m:Nat)(aF:List Int):Nat→Int→ab→Option (Int × ab)
 | 0,_,_=>none
 | k+1,x0,s1=>if (decide (x0<(aF.length:Int)))=true then ((ix aF x0).bind fun v0=>(ix s1.ae v0).bind fun v1=>bb.l0 m aF k (i64.wrap (x0+(1:Int))) (ab.mk s1.aj s1.aa (s1.ae.set v0.toNat v0))) else (some ((x0,s1)))
def bb.f (m:Nat)(s0:ab)(aF:List Int):Option (ab):=(bb.l0 m aF m (0:Int) s0).bind fun cJ=>match cJ with | (x1,s2)=>some s2
def bb.fin (L:Mem)(aq:Nat)(ak:Nat)(an:Nat)(s0:ab)(aF:List Int)(r:ab)(s:St):Prop:=∃aB aC:Nat,aM Try.prog (s.open wY) Try.f32.results.toList=some (.tup [])∧Has s.h ((aq,.ob [.bool r.aj,.rs aB 0 r.aa.length 4,.rs aC 0 r.ae.length 1])::(aB,.sl r.aa.length 4 (ah.l r.aa))::(aC,.sl r.ae.length 1 (af.l r.ae))::L)
def Ng (cf:CallF)(m:Nat):Prop:=∀(s0:ab) (aF:List Int) (r:ab),bb.f m s0 aF=some r→∀h L (aq:Nat) (ak:Nat) (an:Nat),Has h ((aq,.ob [.bool s0.aj,.rs ak 0 s0.aa.length 4,.rs an 0 s0.ae.length 1])::(ak,.sl s0.aa.length 4 (ah.l s0.aa))::(an,.sl s0.ae.length 1 (af.l s0.ae))::L)→∀xs,xs.map aK=[.ptr aq 0,af.fz aF]→∃aB aC h',cf 32 xs h=some (.tup [],h')∧Has h' ((aq,.ob [.bool r.aj,.rs aB 0 r.aa.length 4,.rs aC 0 r.ae.length 1])::(aB,.sl r.aa.length 4 (ah.l r.aa))::(aC,.sl r.ae.length 1 (af.l r.ae))::L)
section
variable {cf:CallF}{m:Nat}
theorem bb.dB (L:Mem)(aq:Nat)(ak:Nat)(an:Nat)(s0:ab)(aF:List Int)   : dU Try.prog cf wY m (sub [1,0,0] (b6 Try.f32)) (fun k (σ:Int × ab)=>bb.l0 m aF k σ.1 σ.2) (fun σ s=>match σ with | (x0,s1)=>∃aH di h0,s=⟨[.ptr aq 0,.any,.any,af.fz aF,.int .i64 (aF.length:Int),.int .i64 x0,.any],[],h0⟩∧Has h0 ((aq,.ob [.bool s1.aj,.rs aH 0 s1.aa.length 4,.rs di 0 s1.ae.length 1])::(aH,.sl s1.aa.length 4 (ah.l s1.aa))::(di,.sl s1.ae.length 1 (af.l s1.ae))::L)) (fun out e s=>(e = .exit 0∧∃x0 s1,(x0,s1)=out∧∃po Gb DN yC BT aH di h0,s=⟨[po,.any,.any,Gb,DN,yC,BT],[],h0⟩∧Has h0 ((aq,.ob [.bool s1.aj,.rs aH 0 s1.aa.length 4,.rs di 0 s1.ae.length 1])::(aH,.sl s1.aa.length 4 (ah.l s1.aa))::(di,.sl s1.ae.length 1 (af.l s1.ae))::L))):=by
 refine mK (fun _=>rfl) ?_
 rintro k ⟨x0,s1⟩ s out ⟨aH,di,h0,rfl,o0⟩ H
 have H:bb.l0 m aF (k+1) x0 s1=some out:=H
 refine q1 <| qq <| qc H (fun c0 H=>?_) (fun c0 H=>?_)
 ·refine qk <| qq <| qb 1 <| qq ?_
  obtain⟨v0,e0,H⟩:=bl H
  refine qr [.v 0 (fR (k:=.i64) (E:=af) (l:=aF) gH e0),.v 1 (jA  (E:=af) (l:=aF) h0 A3 e0 rfl)] ?_
  obtain⟨v1,e1,H⟩:=bl H
  obtain⟨h1,e2,o1⟩:=eV (P:=Try.prog) (tf:=3) (E:=af) (l:=s1.ae) (q:=2) (v:=v0) (x:=.int .i64 v0) o0 rfl Z3 e1 rfl rfl
  exact qr [.v 3 (show bn Try.prog h0 33 (.ptr aq 2)=some (.rs di 0 s1.ae.length 1) from bV (q:=0) (cs:=[.bool s1.aj,.rs aH 0 s1.aa.length 4,.rs di 0 s1.ae.length 1]) o0 rfl (by kernel_rfl)),.v 6 (bj (k:=.i64) (E:=af) (l:=s1.ae) (q:=2) gH o0 rfl e1),.w 7 e2] <| q0 <| ⟨(i64.wrap (x0+(1:Int)),(ab.mk s1.aj s1.aa (s1.ae.set v0.toNat v0))),⟨aH,di,h1,(VB (b:=⟨[.ptr aq 0,.any,.any,af.fz aF,.int .i64 (aF.length:Int),.int .i64 (i64.wrap (x0+(1:Int))),.any],[],h1⟩) (by kernel_rfl) (by simp only [Ul])),(by have o:Has h1 ((aq,.ob [.bool s1.aj,.rs aH 0 s1.aa.length 4,.rs di 0 s1.ae.length 1])::(aH,.sl s1.aa.length 4 (ah.l s1.aa))::(di,.sl s1.ae.length 1 (af.l (s1.ae.set v0.toNat v0)))::L):=o1; simpa only [Ul] using o)⟩,H⟩
 ·exact qx 0 <| ⟨rfl,x0,s1,oi H,.ptr aq 0,af.fz aF,.int .i64 (aF.length:Int),.int .i64 x0,.bool (decide (x0<(aF.length:Int))),aH,di,h0,by kernel_rfl,o0⟩
theorem lE {aV:FuncId→b4}(ha:aV 32=wY)  (s0:ab)(aF:List Int)(h:AHeap)(L:Mem)(aq:Nat)(ak:Nat)(an:Nat)  (o:Has h ((aq,.ob [.bool s0.aj,.rs ak 0 s0.aa.length 4,.rs an 0 s0.ae.length 1])::(ak,.sl s0.aa.length 4 (ah.l s0.aa))::(an,.sl s0.ae.length 1 (af.l s0.ae))::L)){out:ab}(H:bb.f m s0 aF=some out) :
  ∃r h',ba Try.prog aV cf m 32 [.ptr aq 0,af.fz aF] h=some (r,h')∧∃aB aC:Nat,r = .tup []∧Has h' ((aq,.ob [.bool out.aj,.rs aB 0 out.aa.length 4,.rs aC 0 out.ae.length 1])::(aB,.sl out.aa.length 4 (ah.l out.aa))::(aC,.sl out.ae.length 1 (af.l out.ae))::L):=by
 refine ar (fn:=Try.f32) ha Try.func32 (by kernel_rfl) (by kernel_rfl) ?_
 refine aI (Q:=fun s=>bb.fin L aq ak an s0 aF out s) (fun _ _ ⟨h1,aB,aC,h2,h3⟩=>⟨h1,_,h2,aB,aC,rfl,h3⟩) ?_
 have H:_=some out:=H
 unfold bb.f at H
 show dt _ cf wY m _ ⟨.ptr aq 0::af.fz aF::FU [],[],h⟩ _
 refine q1 <| qb 0 ?_
 obtain⟨cJ,e3,H⟩:=bl H
 refine ql (bb.dB L aq ak an s0 aF   ((0:Int),s0) _ _ ⟨ak,an,h,by kernel_rfl,o⟩ e3) ?_
 rintro e s ⟨rfl,x1,s2,rfl,g0,g1,g2,g3,g4,ez,dd,h2,rfl,o2⟩
 try dsimp only at H
 obtain rfl:=oi H
 exact⟨.inr rfl,⟨ez,dd,by kernel_rfl,he o2⟩⟩
end
end Go.Proofs.Ytifafejidnjckaa
namespace Go.Proofs.Ytifafejidnjckaa
open Go Go.R
open Go.IntKind (i64 u64 u8 u32)
def zQ:b4:=gK [0,2] [] [2,1] [] []
def bK.f (m:Nat)(s0:ab):Option (Bool):=some s0.aj
def bK.fin (L:Mem)(r:Bool)(s:St):Prop:=∃av,aM Try.prog (s.open zQ) Try.f37.results.toList=some av∧fL s.h av (.bool r)
def LH (cf:CallF)(m:Nat):Prop:=∀(s0:ab) (r:Bool),bK.f m s0=some r→∀h xs,aP bQ h xs [.fp [.bool s0.aj,ah.fz s0.aa,af.fz s0.ae] 0]→cf 37 xs h=some (.bool r,h)
section
variable {cf:CallF}{m:Nat}
theorem lF {aV:FuncId→b4}(ha:aV 37=zQ)  (s0:ab)(h:AHeap)(L:Mem)  (o:Has h (L)){out:Bool}(H:bK.f m s0=some out) :
  ∃r h',ba Try.prog aV cf m 37 [.fp [.bool s0.aj,ah.fz s0.aa,af.fz s0.ae] 0] h=some (r,h')∧fL h' r (.bool out):=by
 refine ar (fn:=Try.f37) ha Try.func37 (by kernel_rfl) (by kernel_rfl) ?_
 refine aI (Q:=fun s=>bK.fin L out s) (fun _ _ h=>h) ?_
 have H:_=some out:=H
 unfold bK.f at H
 show dt _ cf zQ m _ ⟨[.fp [.bool s0.aj,ah.fz s0.aa,af.fz s0.ae] 0,.any],[],h⟩ _
 obtain rfl:=oi H
 exact q1 <| qq <| q0 <| qt <| ⟨.inl rfl,dz (.bool s0.aj) h (du (aD))⟩
end
end Go.Proofs.Ytifafejidnjckaa
namespace Go.Proofs.Ytifafejidnjckaa
open Go Go.R
open Go.IntKind (i64 u64 u8 u32)
def wZ:b4:=gK [0,1,4,13] [] [12,4,12,11] [] []
def a6.l0 (m:Nat)(s0:ab):Nat→Int→Option (Int)
 | 0,_=>none
 | k+1,n1=>(ix s0.ae n1).bind fun v0=>if (!(v0==n1))=true then ((ix s0.ae n1).bind fun v1=>a6.l0 m s0 k v1) else (some (n1))
def a6.f (m:Nat)(s0:ab)(n0:Int):Option (Int):=(a6.l0 m s0 m n0).bind fun cJ=>match cJ with | n2=>some n2
def a6.fin (L:Mem)(r:Int)(s:St):Prop:=∃av,aM Try.prog (s.open wZ) Try.f41.results.toList=some av∧fL s.h av (.int .i64 r)
def Jv (cf:CallF)(m:Nat):Prop:=∀(s0:ab) (n0:Int) (r:Int),a6.f m s0 n0=some r→∀h xs,aP bQ h xs [.fp [.bool s0.aj,ah.fz s0.aa,af.fz s0.ae] 0,.int .i64 n0]→cf 41 xs h=some (.int .i64 r,h)
section
variable {cf:CallF}{m:Nat}
theorem a6.dB (L:Mem)(s0:ab)   : dU Try.prog cf wZ m (sub [1,0,0,0] (b6 Try.f41)) (fun k (σ:Int)=>a6.l0 m s0 k σ) (fun σ s=>match σ with | n1=>∃h0,s=⟨[.fp [.bool s0.aj,ah.fz s0.aa,af.fz s0.ae] 0,.int .i64 n1,.any,.any],[],h0⟩∧Has h0 (L)) (fun out e s=>(e = .exit 0∧∃n1,n1=out∧∃po vb h0,s=⟨[po,.int .i64 n1,.any,vb],[],h0⟩∧Has h0 (L))):=by
 refine mK (fun _=>rfl) ?_
 rintro k n1 s out ⟨h0,rfl,o0⟩ H
 have H:a6.l0 m s0 (k+1) n1=some out:=H
 refine qq <| qq ?_
 obtain⟨v0,e0,H⟩:=bl H
 refine qr [.v 5 (fR (k:=.i64) (E:=af) (l:=s0.ae) gH e0),.v 6 (jA  (E:=af) (l:=s0.ae) h0 A3 e0 rfl)] <| qc H (fun c0 H=>?_) (fun c0 H=>?_)
 ·refine qk <| qb 1 ?_
  obtain⟨v1,e1,H⟩:=bl H
  exact qr [.v 5 (fR (k:=.i64) (E:=af) (l:=s0.ae) gH e1),.v 6 (jA  (E:=af) (l:=s0.ae) h0 A3 e1 rfl)] <| ⟨v1,⟨h0,by kernel_rfl,o0⟩,H⟩
 ·exact qx 0 <| ⟨rfl,n1,oi H,.fp [.bool s0.aj,ah.fz s0.aa,af.fz s0.ae] 0,.bool (!(v0==n1)),h0,by kernel_rfl,o0⟩
theorem mg {aV:FuncId→b4}(ha:aV 41=wZ)  (s0:ab)(n0:Int)(h:AHeap)(L:Mem)  (o:Has h (L)){out:Int}(H:a6.f m s0 n0=some out) :
  ∃r h',ba Try.prog aV cf m 41 [.fp [.bool s0.aj,ah.fz s0.aa,af.fz s0.ae] 0,.int .i64 n0] h=some (r,h')∧fL h' r (.int .i64 out):=by
 refine ar (fn:=Try.f41) ha Try.func41 (by kernel_rfl) (by kernel_rfl) ?_
 refine aI (Q:=fun s=>a6.fin L out s) (fun _ _ h=>h) ?_
 have H:_=some out:=H
 unfold a6.f at H
 show dt _ cf wZ m _ ⟨[.fp [.bool s0.aj,ah.fz s0.aa,af.fz s0.ae] 0,.int .i64 n0,.any,.any],[],h⟩ _
 refine q1 <| qq <| qb 0 ?_
 obtain⟨cJ,e2,H⟩:=bl H
 refine ql (a6.dB L s0   n0 _ _ ⟨h,by kernel_rfl,o⟩ e2) ?_
 rintro e s ⟨rfl,n2,rfl,g0,g1,h1,rfl,o1⟩
 try dsimp only at H
 obtain rfl:=oi H
 exact q1 <| qt <| ⟨.inl rfl,dz (.int .i64 n2) h1 (du (dT))⟩
end
end Go.Proofs.Ytifafejidnjckaa
namespace Go.Proofs.Ytifafejidnjckaa
open Go Go.R
open Go.IntKind (i64 u64 u8 u32)
end Go.Proofs.Ytifafejidnjckaa
