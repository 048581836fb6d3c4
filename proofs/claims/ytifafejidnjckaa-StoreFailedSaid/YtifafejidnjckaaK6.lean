/- Part of the proof: RBuf1, RBuf2, RBuf3, RBuf4, RBuf5, RG9, RFix, RGN, RGL, RSrt, RGS, RGC, RPT, RDV, RMB, RGR, QW, Q10, Q14, Q25, Q26, Q32, Q37. -/
import Derived.Test.YtifafejidnjckaaK5
import Derived.Shelf.LaysM
import Derived.Shelf.Bytes.GrowAt
import Derived.Lib.ByteType
import Derived.Lib.BufferAt
import Derived.Lib.BufferKept
import Derived.Lib.Walk
import Derived.Lib.BufferWrite
import Derived.Lib.Hide
import Derived.WalkKit
import Derived.BigCall
import Derived.BigGuard
import Derived.KernelRfl
import Derived.Shelf.Sort.Plain
import Derived.Shelf.Slices.In.SortNone
import Derived.Shelf.Slices.CompactI
import Derived.Test.YtifafejidnjckaaProg
set_option linter.unusedVariables false
set_option linter.unusedSimpArgs false
set_option maxRecDepth 100000
open Array renaming getElem?_eq_some_iff → UL, getElem?_modify → Vh
open Bool renaming and_eq_true → Ui, false_eq_true → Up, not_true → Vd, true_and → VN
open Eq renaming trans → VL
open Int renaming toNat_natCast → Ur
open List renaming getElem?_eq_some_iff → Ul, getElem?_eq_getElem → Un, length_append → Uo, length_set → Uq, drop_eq_getElem_cons → Us, length_cons → Ut, getElem?_append_left → Uu, append_assoc → Uv, replicate → Uw, mem_of_getElem? → Ux, all_eq_true → Uy, getElem?_append_right → Uz, length_map → UB, mem_singleton → UE, mem_cons → UF, length_nil → UG, map_cons → UH, mem_append → UJ, map_append → UK, take_append_of_le_length → UO, cons_append → UQ, nil_append → UR, take_of_length_le → UT, eq_nil_of_length_eq_zero → UU, getElem?_cons_zero → UW, drop_zero → UX, mem_append_left → U6, length_take → Vi, getElem?_of_mem → Vj, getElem?_cons_succ → Vk, getElem?_map → Vm, take_append_drop → Vp, append_nil → VC
open Nat renaming le_refl → Uj, zero_add → UC, beq → UP, lt_succ_self → U0, le_trans → U1, mul_le_mul_right → U4, le_succ → Vn, lt_succ_of_lt → Vr, add_sub_cancel_left → Vt, ble → Vz, min_eq_left → VA, zero_lt_one → VB, sub_self → VK
open Option renaming bind_eq_some_iff → Ud, bind_some → Ue, map_eq_some_iff → Ug, map_some → Uk, getD_some → U7
open Option.some renaming injEq → Uh, inj → UZ
open Prod.mk renaming injEq → Um
namespace Go.R
open Go Go.Proofs Go.Shelf Go.RowKit
variable {P:Program}{ρ:Ren}
end Go.R
namespace Go.R
open Go Go.Proofs Go.Shelf Go.RowKit
variable {P:Program}{ρ:Ren}
end Go.R
namespace Go.R
open Go Go.Proofs Go.Shelf Go.RowKit
variable {P:Program}{ρ:Ren}
end Go.R
namespace Go.R
open Go Go.Proofs Go.Shelf Go.RowKit
theorem Fr.none {c:Cx}{L0:Nat→Prop}(hrel:HRel c L0):Fr L0 c none0 (fun _=>0) [] ⟨fun _=>.any,fun _=>none,c.h⟩ ⟨#[],[]⟩:=
 ⟨rfl,by rw [show un L0 none0=L0 from by funext b; simp [un,none0]]; exact hrel,fun t=>by simp [SR,VR],fun k cs h=>(by cases h),fun k k' h=>(by cases h),fun t k off _ h=>(by cases h),rfl,fun b h=>h.elim⟩
end Go.R
namespace Go.R
open Go Go.Proofs Go.Shelf Go.RowKit
theorem intr_cons {P:Program}{f0:FuncId}{g0:List AV→AHeap→Option (AV × AHeap)}{intr:FuncId→Option (List AV→AHeap→Option (AV × AHeap))}(h0:CallOK P fun f' args h=>if f'=f0 then g0 args h else none)
  (hs:∀args h r h',g0 args h=some (r,h')→Steady h h') (h:IntrOK P intr):IntrOK P fun f=>if f=f0 then some g0 else intr f:=by
 intro f g hg
 dsimp only at hg
 split at hg
 ·rename_i hf
  subst hf
  cases hg
  exact⟨h0,hs⟩
 ·exact h f g hg
end Go.R
namespace Go.R
open Go
section
variable {h:AHeap}{L:Mem}{e:TypeId}{id i:Nat}{bs news r:List Int}{c:Int}{s:ByteArray}
variable {cf:CallF}{f:FuncId}
end
def jn {α β:Type}(b:α→Option β)(a:(α→Option β)→Option β):Option β:=a b
theorem mH {α β:Type}{b:α→Option β}{a:(α→Option β)→Option β}{out:β}(H:jn b a=some out):∃j:α→Option β,(∀x,j x=b x)∧a j=some out:=⟨b,fun _=>rfl,H⟩
theorem bj {α β:Type}{o:Option α}{f:α→Option β}{b:β}(h:o.bind f=some b):∃a,o=some a∧f a=some b:=Ud.1 h
theorem RR {α:Type}{c:Bool}{a b z:α}(h:c=true)(H:(if c=true then a else b)=z):a=z:=(if_pos h).symm.trans H
theorem RU {α:Type}{c:Bool}{a b z:α}(h:c=false)(H:(if c=true then a else b)=z):b=z:=(if_neg (FR h)).symm.trans H
abbrev sI (l:List AV):List AV:=.any :: .any :: .any::l
abbrev nw (l:List AV):List AV:=.any :: .any :: .any :: .any::l
abbrev Fi (l:List AV):List AV:=.any :: .any :: .any :: .any :: .any::l
abbrev wM (l:List AV):List AV:=.any :: .any :: .any :: .any :: .any :: .any::l
abbrev FY (l:List AV):List AV:=.any :: .any :: .any :: .any :: .any :: .any :: .any::l
abbrev BL (l:List AV):List AV:=.any :: .any :: .any :: .any :: .any :: .any :: .any :: .any::l
abbrev RV (l:List AV):List AV:=.any :: .any :: .any :: .any :: .any :: .any :: .any :: .any :: .any::l
abbrev Kr (l:List AV):List AV:=.any :: .any :: .any :: .any :: .any :: .any :: .any :: .any :: .any :: .any::l
abbrev sU (l:List AV):List AV:=.any :: .any :: .any :: .any :: .any :: .any :: .any :: .any :: .any :: .any :: .any::l
abbrev uV (l:List AV):List AV:=.any :: .any :: .any :: .any :: .any :: .any :: .any :: .any :: .any :: .any :: .any :: .any::l
abbrev qn (l:List AV):List AV:=.any :: .any :: .any :: .any :: .any :: .any :: .any :: .any :: .any :: .any :: .any :: .any :: .any::l
abbrev wN (l:List AV):List AV:=.any :: .any :: .any :: .any :: .any :: .any :: .any :: .any :: .any :: .any :: .any :: .any :: .any :: .any::l
abbrev Na (l:List AV):List AV:=.any :: .any :: .any :: .any :: .any :: .any :: .any :: .any :: .any :: .any :: .any :: .any :: .any :: .any :: .any::l
abbrev FZ (l:List AV):List AV:=.any :: .any :: .any :: .any :: .any :: .any :: .any :: .any :: .any :: .any :: .any :: .any :: .any :: .any :: .any :: .any::l
abbrev Nb (l:List AV):List AV:=.any :: .any :: .any :: .any :: .any :: .any :: .any :: .any :: .any :: .any :: .any :: .any :: .any :: .any :: .any :: .any :: .any::l
abbrev Nc (l:List AV):List AV:=.any :: .any :: .any :: .any :: .any :: .any :: .any :: .any :: .any :: .any :: .any :: .any :: .any :: .any :: .any :: .any :: .any :: .any :: .any :: .any::l
abbrev Nd (l:List AV):List AV:=.any :: .any :: .any :: .any :: .any :: .any :: .any :: .any :: .any :: .any :: .any :: .any :: .any :: .any :: .any :: .any :: .any :: .any :: .any :: .any :: .any::l
abbrev Ng (l:List AV):List AV:=.any :: .any :: .any :: .any :: .any :: .any :: .any :: .any :: .any :: .any :: .any :: .any :: .any :: .any :: .any :: .any :: .any :: .any :: .any :: .any :: .any :: .any :: .any::l
abbrev Nh (l:List AV):List AV:=.any :: .any :: .any :: .any :: .any :: .any :: .any :: .any :: .any :: .any :: .any :: .any :: .any :: .any :: .any :: .any :: .any :: .any :: .any :: .any :: .any :: .any :: .any :: .any :: .any::l
abbrev Ni (l:List AV):List AV:=.any :: .any :: .any :: .any :: .any :: .any :: .any :: .any :: .any :: .any :: .any :: .any :: .any :: .any :: .any :: .any :: .any :: .any :: .any :: .any :: .any :: .any :: .any :: .any :: .any :: .any :: .any::l
abbrev Nj (l:List AV):List AV:=.any :: .any :: .any :: .any :: .any :: .any :: .any :: .any :: .any :: .any :: .any :: .any :: .any :: .any :: .any :: .any :: .any :: .any :: .any :: .any :: .any :: .any :: .any :: .any :: .any :: .any :: .any :: .any :: .any::l
abbrev Nk (l:List AV):List AV:=.any :: .any :: .any :: .any :: .any :: .any :: .any :: .any :: .any :: .any :: .any :: .any :: .any :: .any :: .any :: .any :: .any :: .any :: .any :: .any :: .any :: .any :: .any :: .any :: .any :: .any :: .any :: .any :: .any :: .any :: .any :: .any :: .any :: .any::l
end Go.R
namespace Go.R
open Go
def sV {X:Type}(F:CallF→Option X):Prop:=∀cf x,F cf=some x→∃l:List (FuncId × List AV × AHeap × (AV × AHeap)),(∀e∈l,cf e.1 e.2.1 e.2.2.1=some e.2.2.2)∧∀zH:CallF,(∀e∈l,zH e.1 e.2.1 e.2.2.1=some e.2.2.2)→F zH=some x
theorem bo {X:Type}(x:Option X):sV fun _=>x:=by
 intro cf y h
 refine⟨[],?_,fun _ _=>h⟩
 intro e he; cases he
theorem Dy (f:FuncId)(args:List AV)(h:AHeap):sV fun cf=>cf f args h:=by
 intro cf x hx
 refine⟨[(f,args,h,x)],?_,fun zH h'=>h' (f,args,h,x) (UE.2 rfl)⟩
 intro e he; cases (UE.1 he); exact hx
theorem dS {X Y:Type}{F:CallF→Option X}{G:X→CallF→Option Y}(hF:sV F)(hG:∀y,sV (G y)):sV fun cf=>(F cf).bind fun y=>G y cf:=fun cf z hz=>by
 obtain⟨y,h1,h2⟩:=Ud.1 hz
 obtain⟨l1,a1,b1⟩:=hF cf y h1
 obtain⟨l2,a2,b2⟩:=hG y cf z h2
 refine⟨l1++l2,fun e he=>(UJ.1 he).elim (a1 e) (a2 e),fun zH h'=>?_⟩
 have e1:=b1 zH fun e he=>h' e (U6 _ he)
 have e2:=b2 zH fun e he=>h' e (List.mem_append_right _ he)
 show (F zH).bind _=_
 rw [e1,Ue,e2]
theorem uW {X Y:Type}{F:CallF→Option X}{g:X→Y}(hF:sV F):sV fun cf=>(F cf).map g:=by
 intro cf x hx
 obtain⟨y,h1,h2⟩:=Ug.1 hx
 obtain⟨l,a,b⟩:=hF cf y h1
 refine⟨l,a,fun zH h'=>?_⟩
 show (F zH).map g=some x
 rw [b zH h',Uk,h2]
theorem je {X:Type}{c:Prop}[Decidable c]{F G:CallF→Option X}(hF:sV F)(hG:sV G):sV fun cf=>if c then F cf else G cf:=by
 by_cases h:c
 ·simp only [h,if_true]; exact hF
 ·simp only [h,if_false]; exact hG
section
variable {P:Program}{aE ds:List Nat}
theorem ot {X:Type}{F:CallF→Option X}(h:∀cf zH,F cf=F zH):sV F:=by
 intro cf x hx
 refine⟨[],?_,fun zH _=>(h zH cf).trans hx⟩
 intro e he; cases he
theorem zI (e:Operand→AV)(s:RS)(o:Oper):sV fun cf=>xX P cf aE ds e s o:=by
 obtain⟨dst,op,type,pos,after,guard⟩:=o
 cases op with
 | call c=>
  obtain⟨callee,args,at_⟩:=c
  cases callee with
  | value f=>
   simp only [xX]
   cases e f with
   | fn f cap=>exact je (uW (dS (Dy _ _ _) fun y=>bo _)) (bo _)
   | _=>exact bo _
  | _=>exact ot fun _ _=>rfl
 | makeFunc fn first cap=>cases fn<;>exact ot fun _ _=>rfl
 | makeMap t r=>cases r<;>exact ot fun _ _=>rfl
 | _=>exact ot fun _ _=>rfl
theorem BM (ops:List Oper)(s:RS)(o:Oper):sV fun cf=>lK P cf aE ops s o:=by
 refine dS (bo (gE ops s.ρ o)) fun w=>?_
 exact je (zI _ _ _) (bo _)
theorem wO (ops:List Oper):∀(os:List Oper) (s:RS),sV fun cf=>p9 P cf aE ops s os
 | [],s=>bo _
 | o::os,s=>dS (BM ops s o) fun s'=>wO ops os s'
theorem wP (ops:List Oper):∀(os:List Oper) (s:RS),sV fun cf=>nN P cf aE ops s os
 | [],s=>bo _
 | o::os,s=>dS (bo (gE ops s.ρ o)) fun w=>dS (je (zI _ _ _) (bo _)) fun s1=>uW (wP ops os s1)
theorem yx (ops:Array Oper)(s:RS):sV fun cf=>jm P cf aE ops s:=by
 unfold jm
 exact je (dS (wP _ _ _) fun x=>bo _) (bo _)
theorem tH {f:CallF→St→Option (Ex × St)}(hf:∀s,sV fun cf=>f cf s):∀(n:Nat) (s:St),sV fun cf=>kj (f cf) n s
 | 0,s=>bo _
 | n+1,s=>dS (hf s) fun x=>by
  obtain⟨x,s'⟩:=x
  cases x with
  | norm=>exact tH hf n s'
  | _=>exact bo _
theorem iK (A:bY)(n:Nat):∀(c:Code) (s:St),sV fun cf=>bH P cf A n c s
 | .skip,s=>by simp only [bH]; exact bo _
 | .label _,s=>by simp only [bH]; exact bo _
 | .ret,s=>by simp only [bH]; exact bo _
 | .exit _,s=>by simp only [bH]; exact bo _
 | .seq a b,s=>by
  simp only [bH]
  exact dS (iK A n a s) fun x=>by
   obtain⟨x,s'⟩:=x
   cases x with
   | norm=>exact iK A n b s'
   | _=>exact bo _
 | .cond k x y,s=>by
  simp only [bH]
  exact dS (bo _) fun t=>je (iK A n x s) (iK A n y s)
 | .block id b,s=>by simp only [bH]; exact uW (iK A n b s)
 | .loop b,s=>by simp only [bH]; exact tH (fun s=>iK A n b s) n s
 | .region r ops draw,s=>by
  simp only [bH]
  exact dS (bo _) fun s=>dS (je (yx _ _) (wO _ _ _)) fun s'=>bo _
 | .rangeFunc ..,s=>by simp only [bH]; exact bo _
 | .scope _,s=>by simp only [bH]; exact bo _
 | .goto _,s=>by simp only [bH]; exact bo _
 | .refuse _,s=>by simp only [bH]; exact bo _
theorem jj (aV:FuncId→bY)(m:Nat)(f:FuncId)(args:List AV)(h:AHeap):sV fun cf=>a6 P aV cf m f args h:=by
 unfold a6
 refine dS (bo _) fun fn=>dS (bo _) fun c=>je (dS (iK _ _ _ _) fun x=>bo _) (bo _)
end
def p5 (P:Program)(T:mS)(m:Nat)(cf:CallF):CallF:=fun f args h=>
 match T.intr f with
 | some g=>g args h
 | none=>
  match T.pure f with
  | some deep=>if T.eB f then (bq h deep args).bind fun us=>(a6 P T.aV cf m f us bz).bind fun x=>(cP h.next x.1).map fun r=>(r,h.eB x.2) else
    if cy args then (a6 P T.aV cf m f (dm args) bz).bind fun x=>(b7 x.2 deep x.1).map fun r=>(r,h) else
    match bq h deep args with
    | some zs=>(a6 P T.aV cf m f zs bz).bind fun x=>(fK x.2 deep x.1).map fun r=>(r,h)
    | none=>a6 P T.aV cf m f (args.map aL) h
  | none=>a6 P T.aV cf m f (args.map aL) h
section
variable {P:Program}{T:mS}{m:Nat}
theorem tI (f:FuncId)(args:List AV)(h:AHeap):sV fun cf=>p5 P T m cf f args h:=by
 unfold p5
 cases T.intr f with
 | some g=>exact bo _
 | none=>
  cases T.pure f with
  | none=>exact jj _ _ _ _ _
  | some deep=>
   refine je (dS (bo _) fun us=>dS (jj _ _ _ _ _) fun x=>bo _) ?_
   refine je (dS (jj _ _ _ _ _) fun x=>bo _) ?_
   cases bq h deep args with
   | none=>exact jj _ _ _ _ _
   | some zs=>exact dS (jj _ _ _ _ _) fun x=>bo _
theorem rX:∀(n:Nat) (f:FuncId) (args:List AV) (h:AHeap) (x:AV × AHeap),eC P T m n f args h=some x→eC P T m (n+1) f args h=some x
 | 0,f,args,h,x,hc=>by simp [eC] at hc
 | n+1,f,args,h,x,hc=>by
  obtain⟨l,h1,h2⟩:=tI (P:=P) (T:=T) (m:=m) f args h _ _ hc
  exact h2 (eC P T m (n+1)) fun e he=>rX n _ _ _ _ (h1 e he)
theorem ou {n k:Nat}(hk:n≤k){f:FuncId}{args:List AV}{h:AHeap}{x:AV × AHeap}(hc:eC P T m n f args h=some x):eC P T m k f args h=some x:=by
 induction hk with
 | refl=>exact hc
 | step _ ih=>exact rX _ _ _ _ _ ih
open Classical in
noncomputable def iB (P:Program)(T:mS)(m:Nat):CallF:=fun f args h=>if H:∃x n,eC P T m n f args h=some x then some (Classical.choose H) else none
theorem ku {f:FuncId}{args:List AV}{h:AHeap}{x:AV × AHeap}:iB P T m f args h=some x↔∃n,eC P T m n f args h=some x:=by
 have key:∀(H:∃x n,eC P T m n f args h=some x) (n:Nat),eC P T m n f args h=some x→Classical.choose H=x:=fun H n hn=>by
  obtain⟨k,hk⟩:=Classical.choose_spec H
  have h1:=ou (Nat.le_max_left n k) hn
  have h2:=ou (Nat.le_max_right n k) hk
  rw [h1] at h2
  exact (UZ h2).symm
 unfold iB
 constructor
 ·intro hc
  split at hc
  ·rename_i H
   obtain⟨n,hn⟩:=Classical.choose_spec H
   cases hc
   exact⟨n,hn⟩
  ·cases hc
 ·rintro⟨n,hn⟩
  have H:∃x n,eC P T m n f args h=some x:=⟨x,n,hn⟩
  rw [dif_pos H,key H n hn]
theorem BN (l:List (FuncId × List AV × AHeap × (AV × AHeap)))(hl:∀e∈l,iB P T m e.1 e.2.1 e.2.2.1=some e.2.2.2):∃n,∀e∈l,eC P T m n e.1 e.2.1 e.2.2.1=some e.2.2.2:=by
 induction l with
 | nil=>exact⟨0,fun e he=>by cases he⟩
 | cons a l ih=>
  obtain⟨n,hn⟩:=ih fun e he=>hl e (List.mem_cons_of_mem _ he)
  obtain⟨k,hk⟩:=ku.1 (hl a List.mem_cons_self)
  refine⟨max n k,fun e he=>?_⟩
  rcases UF.1 he with rfl | he
  ·exact ou (Nat.le_max_right n k) hk
  ·exact ou (Nat.le_max_left n k) (hn e he)
theorem kx {f:FuncId}{args:List AV}{h:AHeap}{x:AV × AHeap}(hc:p5 P T m (iB P T m) f args h=some x):iB P T m f args h=some x:=by
 obtain⟨l,h1,h2⟩:=tI (P:=P) (T:=T) (m:=m) f args h _ _ hc
 obtain⟨n,hn⟩:=BN l h1
 exact ku.2 ⟨n+1,h2 (eC P T m n) hn⟩
theorem Dz (hP:Fit P)(pY:IntrOK P T.intr):CallOK P (iB P T m):=fun f args h r h' hc=>by
 obtain⟨n,hn⟩:=ku.1 hc
 exact od hP pY m n f args h r h' hn
theorem aW:Has bz []:=⟨fun j i c h=>by simp at h,fun j j' i c c' h=>by simp at h,VB⟩
end
section
variable {P:Program}{T:mS}{m f deep:Nat}{h:AHeap}{xs ys:List AV}{y:AV}{x:AV × AHeap}
theorem F0 (h1:T.intr f=none)(h2:T.pure f=some deep)(h3:T.eB f=false)(hd:gZ+bO≤deep)(hx:wI xs ys)(hb:∃r h',a6 P T.aV (iB P T m) m f ys bz=some (r,h')∧M3 h' r y):iB P T m f xs h=some (y,h):=by
 obtain⟨r,h',hb,hf⟩:=hb
 refine kx ?_
 have hd:gZ+4503599627370496≤deep:=U1 (Nat.add_le_add_left (by decide) _) hd
 simp only [p5,h1,h2,h3,Up,if_false,hx.1,if_true,hx.2,hb,Ue,hf deep hd,Uk]
theorem bh (h1:T.intr f=none)(h2:T.pure f=some deep)(h3:T.eB f=false)(hd:gZ+bO≤deep)(hx:aO bO h xs ys)(hb:∃r h',a6 P T.aV (iB P T m) m f ys bz=some (r,h')∧ff h' r y):iB P T m f xs h=some (y,h):=by
 have h4:=hx deep hd
 have Ff:gZ+4503599627370496≤deep:=U1 (Nat.add_le_add_left (by decide) _) hd
 by_cases hn:cy xs=true
 ·have:=gu deep xs ys hn h4
  obtain⟨r,h',hb,hf⟩:=hb
  exact F0 h1 h2 h3 hd ⟨hn,this.symm⟩ ⟨r,h',hb,hf.Fp⟩
 ·obtain⟨r,h',hb,hf⟩:=hb
  refine kx ?_
  simp only [p5,h1,h2,h3,Up,if_false,hn,h4,hb,Ue,hf deep Ff,Uk]
theorem gv (h1:T.intr f=none)(h2:T.pure f=none)(hx:xs.map aL=ys)(hb:a6 P T.aV (iB P T m) m f ys h=some x):iB P T m f xs h=some x:=by
 refine kx ?_
 simp only [p5,h1,h2,hx,hb]
theorem F3 {g:List AV→AHeap→Option (AV × AHeap)}(h1:T.intr f=some g)(hx:g xs h=some x):iB P T m f xs h=some x:=by
 refine kx ?_
 simp only [p5,h1,hx]
theorem rY {g:List AV→AHeap→Option (AV × AHeap)}(h1:T.intr f=some g):iB P T m f xs h=g xs h:=by
 cases hg:g xs h with
 | some x=>exact F3 h1 hg
 | none=>
  cases hc:iB P T m f xs h with
  | none=>rfl
  | some x=>
   obtain⟨n,hn⟩:=ku.1 hc
   cases n with
   | zero=>simp [eC] at hn
   | succ n=>simp only [eC,h1,hg] at hn; cases hn
end
end Go.R
namespace Go.R
open Go
def bE:List aq→List Nat→List (aq × Nat)
 | [],_=>[]
 | n::ns,ids=>(n,ids.headD 0)::bE ns ids.tail
def JA (ids:List Nat)(i:Int):Nat:=ids.getD i.toNat 0
def uX (ns:List aq)(ids:List Nat):List Nat:=(bE ns ids).map fun p=>p.2
def fW:bJ (aq × Nat):={n:=4,f:=fun x=>[.int .i64 x.1.kind,.int .i64 x.1.int,.str x.1.label,.rs x.2 0 x.1.args.length 1],len:=fun _=>rfl,pos:=by decide,flat:=false,pure:=fun _ h=>(by cases h),canon:=fun _=>rfl}
def yy (p:aq × Nat):Nat × Ct:=(p.2,.sl p.1.args.length 1 (af.l p.1.args))
def fQ (ns:List aq)(ids:List Nat):Mem:=(bE ns ids).map yy
theorem fD:∀(ns:List aq) (ids:List Nat),(bE ns ids).length=ns.length
 | [],_=>rfl
 | n::ns,ids=>by simp [bE,fD ns]
theorem yz (ids:List Nat):ids.headD 0=ids.getD 0 0:=by cases ids<;>rfl
theorem BO (ids:List Nat)(i:Nat):ids.tail.getD i 0=ids.getD (i+1) 0:=by cases ids<;>simp
theorem rZ:∀(ns:List aq) (ids:List Nat) (i:Nat) (n:aq),ns[i]? = some n→(bE ns ids)[i]? = some (n,ids.getD i 0)
 | [],_,i,n,h=>by simp at h
 | a::ns,ids,0,n,h=>by
  simp only [UW,Uh] at h
  subst h
  show (some (a,ids.headD 0):Option (aq × Nat))=some (a,ids.getD 0 0)
  rw [yz]
 | a::ns,ids,i+1,n,h=>by
  simp only [Vk] at h
  have:=rZ ns ids.tail i n h
  simp only [bE,Vk,this,BO]
theorem qW {ns:List aq}{ids:List Nat}{i:Int}{n:aq}(h:ix ns i=some n):ix (bE ns ids) i=some (n,JA ids i):=by
 obtain⟨h0,h1,h2⟩:=gG h
 unfold ix JA
 rw [if_pos h0,rZ ns ids _ _ h2]
theorem r6:∀(ns:List aq) (ids:List Nat) (n:aq) (ad:Nat),bE (ns++[n]) (uX ns ids++[ad])=bE ns ids++[(n,ad)]
 | [],ids,n,ad=>rfl
 | a::ns,ids,n,ad=>by
  have:=r6 ns ids.tail n ad
  simp only [uX,bE,UH,UQ,List.headD_cons,List.tail_cons] at this ⊢
  rw [this]
theorem F4 (ns:List aq)(ids:List Nat)(n:aq)(ad:Nat):fQ (ns++[n]) (uX ns ids++[ad])=fQ ns ids++[yy (n,ad)]:=by
 unfold fQ; rw [r6,UK]; rfl
theorem Has.perm {h:AHeap}{K K':Mem}(o:Has h K)(p:K'.Perm K):Has h K':=by
 have hP:K.Pairwise fun a b=>a.1≠0→a.1≠b.1:=by
  rw [List.pairwise_iff_getElem]
  intro i j hi hj xK h0 he
  have:=o.nd i j K[i].1 K[i].2 K[j].2 (by rw [Un hi]) (by rw [Un hj,he]) h0
  omega
 have Nl:K'.Pairwise fun a b=>a.1≠0→a.1≠b.1:=(p.pairwise_iff (fun {a b} h h0 he=>h (by rw [←he]; exact h0) he.symm)).2 hP
 rw [List.pairwise_iff_getElem] at Nl
 refine⟨fun j i c hj=>?_,fun j j' i c c' hj xJ h0=>?_,o.pos⟩
 ·obtain⟨j',xJ⟩:=Vj (p.mem_iff.1 (Ux hj))
  exact o.at_ j' i c xJ
 ·obtain⟨a1,a2⟩:=Ul.1 hj
  obtain⟨b1,b2⟩:=Ul.1 xJ
  rcases Nat.lt_trichotomy j j' with hl | hl | hl
  ·have:=Nl j j' a1 b1 hl
   rw [a2,b2] at this
   exact absurd rfl (this h0)
  ·exact hl
  ·have:=Nl j' j b1 a1 hl
   rw [a2,b2] at this
   exact absurd rfl (this h0)
section
variable {P:Program}{t t2 tf:TypeId}{h:AHeap}{pre L:Mem}{ns r:List aq}{ids:List Nat}{i ad k n2:Nat}{j a v:Int}{n:aq}
theorem Has.gone (o:Has h (pre++(fQ ns ids++L))):Has h (pre++L):=by
 refine o.sub (fun q=>if q<pre.length then q else q+(fQ ns ids).length) (fun q p hq=>?_) (fun q q' he=>?_)
 ·by_cases hl:q<pre.length
  ·rw [Uu hl] at hq
   rw [if_pos hl,Uu hl]; exact hq
  ·rw [Uz (by omega)] at hq
   rw [if_neg hl,Uz (by omega),Uz (by omega),←hq]
   congr 1; omega
 ·split at he<;>split at he<;>omega
theorem Ib {b:Nat}{kind int:Int}{label:ByteArray}{args:List Int}{x:AV}(T:wE P t 4 b=true)(o:Has h ((i,.sl k 4 (fW.l (bE ns ids)))::(ad,.sl n2 1 (af.l args))::(pre++(fQ ns ids++L))))
  (hx:fk h 4 x=some ([.int .i64 kind,.int .i64 int,.str label,.rs ad 0 n2 1],1)) (gj:ig P t2 x=true) (hr:app b ns [⟨kind,int,label,args⟩]=some r) :
  ∃i' Ks h',dy P h t t2 (.rs i 0 k 4) x=some (.rs i' 0 r.length 4,h')∧Has h' ((i',.sl r.length 4 (fW.l (bE r Ks)))::(pre++(fQ r Ks++L))):=by
 have hn:n2=args.length:=cG (E:=af) o (q:=1) rfl
 subst hn
 obtain⟨_,_,rfl⟩:=wF hr
 have yp:app b (bE ns ids) [((⟨kind,int,label,args⟩:aq),ad)]=some (bE ns ids++[((⟨kind,int,label,args⟩:aq),ad)]):=by
  unfold app at hr ⊢
  rw [fD]
  split at hr
  ·rename_i hh
   simp only [Ut,UG] at hh ⊢
   rw [if_pos hh]
  ·cases hr
 have FB:fk h fW.n x=some (fW.l [((⟨kind,int,label,args⟩:aq),ad)],[((⟨kind,int,label,args⟩:aq),ad)].length):=hx
 obtain⟨i',h',e,o'⟩:=iv (E:=fW) (l:=bE ns ids) (q:=0) T o rfl FB gj yp
 have e:dy P h t t2 (.rs i 0 k 4) x=some (.rs i' 0 (bE ns ids++[((⟨kind,int,label,args⟩:aq),ad)]).length 4,h'):=e
 refine⟨i',uX ns ids++[ad],h',?_,?_⟩
 ·rw [e,Uo,Uo,fD]; rfl
 ·rw [F4,r6]
  have o':Has h' ((i',.sl (bE ns ids++[((⟨kind,int,label,args⟩:aq),ad)]).length 4 (fW.l (bE ns ids++[((⟨kind,int,label,args⟩:aq),ad)])))::yy (⟨kind,int,label,args⟩,ad)::(pre++(fQ ns ids++L))):=o'
  have el:(ns++[(⟨kind,int,label,args⟩:aq)]).length=(bE ns ids++[((⟨kind,int,label,args⟩:aq),ad)]).length:=by
   rw [Uo,Uo,fD]; rfl
  rw [el]
  refine o'.perm (List.Perm.cons _ ?_)
  have k1:pre++((fQ ns ids++[yy ((⟨kind,int,label,args⟩:aq),ad)])++L)=(pre++fQ ns ids)++yy (⟨kind,int,label,args⟩,ad)::L:=by simp
  have k2:pre++(fQ ns ids++L)=(pre++fQ ns ids)++L:=by simp
  rw [k1,k2]
  exact List.perm_middle
def cr:Nat:=2251799813685248
end
end Go.R
namespace Go.R
open Go
inductive vD
 | b (i:Nat) {x y:Bool} (h:x=y)
 | v (i:Nat) {e:Option AV} {z:AV} (h:e=some z)
 | w (i:Nat) {e:Option AHeap} {g:AHeap} (h:e=some g)
 | a (i:Nat) {e:Option (AV × AHeap)} {z:AV} {g:AHeap} (h:e=some (z,g))
 | m (i:Nat) {e:AV × AHeap} {z:AV} {g:AHeap} (h:e=(z,g))
def vD.RW:vD→Nat × AV × Option AHeap
 | @b i x y h=>(i,.bool y,none)
 | @v i e z h=>(i,z,none)
 | @w i e g h=>(i,.any,some g)
 | @a i e z g h=>(i,z,some g)
 | @m i e z g h=>(i,z,some g)
def vD.fr:vD→AV × AHeap
 | @a i e z g h=>(z,g)
 | _=>(.any,bz)
def vD.p:vD→Prop
 | @b i x y h=>AV.bool x=AV.bool y
 | @v i e z h=>e=some z
 | @w i e g h=>e=some g
 | @a i e z g h=>e=some (z,g)
 | @m i e z g h=>e=(z,g)
theorem vD.ok:∀g:vD,g.p
 | @b i x y h=>congrArg AV.bool h
 | @v i e z h=>h
 | @w i e g h=>h
 | @a i e z g h=>h
 | @m i e z g h=>h
def wQ:List vD→FM
 | []=>[]
 | g::gs=>g.RW::wQ gs
def BP:List vD→List (AV × AHeap)
 | []=>[]
 | g::gs=>g.fr::BP gs
def ps:List vD→Prop
 | []=>True
 | g::gs=>g.p∧ps gs
theorem wR:∀gs,ps gs
 | []=>trivial
 | g::gs=>⟨g.ok,wR gs⟩
def cA:Code→Code
 | .seq a _=>a
 | .cond _ a _=>a
 | .block _ a=>a
 | .loop a=>a
 | _=>.skip
def cB:Code→Code
 | .seq _ b=>b
 | .cond _ _ b=>b
 | _=>.skip
def kd:Code→Nat
 | .skip=>0
 | .ret=>1
 | .seq _ _=>2
 | .loop _=>3
 | _=>9
def Nn:Code→Option Nat
 | .exit i=>some i
 | _=>none
def No:Code→Option Nat
 | .block i _=>some i
 | _=>none
def Np (A:bY)(c:Code)(s:St):Option AV:=
 match c with
 | .cond k _ _=>some (bI (s.open A).ρ k)
 | _=>none
def nx (P:Program)(cf:CallF)(A:bY)(c:Code)(fs gs:List vD)(s:St):St:=((mY P cf A c (BP fs) (wQ gs) s).map (·.2)).getD s
section
variable {P:Program}{cf:CallF}{A:bY}{m:Nat}{c:Code}{s:St}{Q R:Ex→St→Prop}
theorem Kt (fs gs:List vD)(hQ:Q .norm (nx P cf A c fs gs s))(h:(mY P cf A c (BP fs) (wQ gs) s).map (·.1)=some (ps fs∧ps gs):=by kernel_rfl):dn P cf A m c s Q:=by
 unfold nx at hQ
 obtain⟨⟨p,s'⟩,h1,rfl⟩:=Ug.1 h
 rw [h1] at hQ
 exact De h1 ⟨wR fs,wR gs⟩ hQ
theorem qr (gs:List vD)(hQ:Q .norm (nx P cf A c [] gs s))(h:(mY P cf A c [] (wQ gs) s).map (·.1)=some (True∧ps gs):=by kernel_rfl):dn P cf A m c s Q:=Kt [] gs hQ h
theorem q0 (hQ:Q .norm (nx P cf A c [] [] s))(h:(mY P cf A c [] [] s).map (·.1)=some (True∧True):=by kernel_rfl):dn P cf A m c s Q:=Kt [] [] hQ h
theorem PE (h:kd c=2):c = .seq (cA c) (cB c):=by cases c<;>first | rfl | cases h
theorem qq (hQ:dn P cf A m (cA c) s (H2 (fun s'=>dn P cf A m (cB c) s' Q) Q))(h:kd c=2:=by kernel_rfl):dn P cf A m c s Q:=by rw [PE h]; exact wB hQ
theorem PF (fs gs:List vD)(hQ:dn P cf A m (cB c) (nx P cf A (cA c) fs gs s) Q)(h:kd c=2:=by kernel_rfl)(h2:(mY P cf A (cA c) (BP fs) (wQ gs) s).map (·.1)=some (ps fs∧ps gs):=by kernel_rfl):dn P cf A m c s Q:=qq (Kt fs gs hQ h2) h
theorem qs (gs:List vD)(hQ:dn P cf A m (cB c) (nx P cf A (cA c) [] gs s) Q)(h:kd c=2:=by kernel_rfl)(h2:(mY P cf A (cA c) [] (wQ gs) s).map (·.1)=some (True∧ps gs):=by kernel_rfl):dn P cf A m c s Q:=PF [] gs hQ h h2
theorem q1 (hQ:dn P cf A m (cB c) (nx P cf A (cA c) [] [] s) Q)(h:kd c=2:=by kernel_rfl)(h2:(mY P cf A (cA c) [] [] s).map (·.1)=some (True∧True):=by kernel_rfl):dn P cf A m c s Q:=PF [] [] hQ h h2
theorem qk (hQ:Q .norm s)(h:kd c=0:=by kernel_rfl):dn P cf A m c s Q:=by
 have:c = .skip:=by cases c<;>first | rfl | cases h
 rw [this]; exact BC hQ
theorem qt (hQ:Q .ret s)(h:kd c=1:=by kernel_rfl):dn P cf A m c s Q:=by
 have:c = .ret:=by cases c<;>first | rfl | cases h
 rw [this]; exact Df hQ
theorem qx (i:Nat)(hQ:Q (.exit i) s)(h:Nn c=some i:=by kernel_rfl):dn P cf A m c s Q:=by
 have:c = .exit i:=by cases c<;>first | (cases h; rfl) | cases h
 rw [this]; exact BD hQ
theorem qb (i:Nat)(hQ:dn P cf A m (cA c) s (MZ i Q))(h:No c=some i:=by kernel_rfl):dn P cf A m c s Q:=by
 have:c = .block i (cA c):=by cases c<;>first | (cases h; rfl) | cases h
 rw [this]; exact yt hQ
theorem qc {α:Type}{b:Bool}{x y z:Option α}(H:(if b=true then x else y)=z)(ht:b=true→x=z→dn P cf A m (cA c) s Q)(hf:b=false→y=z→dn P cf A m (cB c) s Q)(h:Np A c s=some (.bool b):=by kernel_rfl):dn P cf A m c s Q:=by
 cases c<;>first | cases h | skip
 rename_i k a e
 exact pg b (UZ h) (fun hb=>ht hb (RR hb H)) (fun hb=>hf hb (RU hb H))
theorem Ku (hQ:dn P cf A m (cA c) s Q)(h:Np A c s=some (.bool true):=by kernel_rfl):dn P cf A m c s Q:=by
 cases c<;>first | cases h | skip
 exact pg true (UZ h) (fun _=>hQ) (fun hb=>by cases hb)
theorem DA (hQ:dn P cf A m (cB c) s Q)(h:Np A c s=some (.bool false):=by kernel_rfl):dn P cf A m c s Q:=by
 cases c<;>first | cases h | skip
 exact pg false (UZ h) (fun hb=>by cases hb) (fun _=>hQ)
theorem ql {c':Code}(h:dn P cf A m c' s Q)(k:∀e s',Q e s'→R e s')(hc:c=c':=by kernel_rfl):dn P cf A m c s R:=by rw [hc]; exact tE h k
theorem qj {α β:Type}{S:α→St→Prop}(f:α→Option β){out:β}{z:Option β}(h0:z=some out)(hB:∀σ s,S σ s→f σ=some out→dn P cf A m (cB c) s Q)
  (hA:(∀σ s,S σ s→f σ=some out→dn P cf A m (cB c) s Q)→dn P cf A m (cA c) s (H2 (fun s'=>dn P cf A m (cB c) s' Q) Q)) (h:kd c=2:=by kernel_rfl):dn P cf A m c s Q:=by
 rw [PE h]; exact wB (hA hB)
end
def dZ {S O:Type}(P:Program)(cf:CallF)(A:bY)(m:Nat)(c:Code)(l:Nat→S→Option O)(R:S→St→Prop)(Q:O→Ex→St→Prop):Prop:=∀σ s out,R σ s→l m σ=some out→dn P cf A m (.loop c) s (Q out)
theorem mI {S O:Type}{P:Program}{cf:CallF}{A:bY}{m:Nat}{c:Code}{l:Nat→S→Option O}{R:S→St→Prop}{Q:O→Ex→St→Prop}(h0:∀σ,l 0 σ=none)
  (step:∀k σ s out,R σ s→l (k+1) σ=some out→dn P cf A m c s (Dg l R Q k out)):dZ P cf A m c l R Q:=fun _ _ _ hr H=>BE l R Q h0 step hr H (fun _ _ _ h=>h)
def Ic:Nat→List Nat→List Nat
 | _,[]=>[]
 | k,x::xs=>bif UP (k % 2) 1 then x::Ic (k / 2) xs else Ic (k / 2) xs
def Kv (keep:List Nat):Nat→List Nat→List (Nat × List Nat)
 | _,[]=>[]
 | r,k::ks=>(r,Ic k keep)::Kv keep (r+1) ks
def gK (keep aE ms:List Nat)(Fp xY:List (Nat × List (Nat × Option Nat × Nat))):bY:={keep:=keep,aE:=aE,dead:=Kv keep 0 ms,Fp:=Fp,xY:=xY}
theorem iw {α:Type}{b:Bool}{x y z:α}(H:(if b=true then x else y)=z):(b=true∧x=z)∨(b=false∧y=z):=by
 cases b with
 | true=>exact .inl ⟨rfl,H⟩
 | false=>exact .inr ⟨rfl,H⟩
theorem oi {α:Type}{a b:α}(h:some a=some b):a=b:=UZ h
theorem dA {P:Program}{A:bY}{s:St}{rs:List ResultVar}{y:AV}(av:AV)(g:AHeap)(h:ff g av y)(h1:aM P (s.open A) rs=some av:=by kernel_rfl)(h2:s.h=g:=by kernel_rfl):∃av,aM P (s.open A) rs=some av∧ff s.h av y:=⟨av,h1,h2 ▸ h⟩
theorem he {g g':AHeap}{K:Mem}(o:Has g K)(h:g'=g:=by kernel_rfl):Has g' K:=h ▸ o
end Go.R
namespace Go.R
open Go Go.Proofs Go.Shelf Go.RowKit Go.Sort
def ny:List AV→Option (List Int)
 | []=>some []
 | .int .i64 z::xs=>(ny xs).map fun l=>z::l
 | _=>none
theorem l9:∀{xs:List AV} {l:List Int},ny xs=some l→xs=l.map fun z=>.int .i64 z
 | [],l,h=>by cases h; rfl
 | x::xs,l,h=>by
  unfold ny at h
  split at h
  ·rename_i e; cases e
  ·rename_i z ys e
   obtain⟨rfl,rfl⟩:=List.cons.inj e
   obtain⟨l',h1,rfl⟩:=Ug.1 h
   rw [l9 h1]; rfl
  ·cases h
theorem r7:∀l:List Int,ny (l.map fun z=>.int .i64 z)=some l
 | []=>rfl
 | z::l=>by simp only [UH,ny,r7 l,Uk]
def ky (l:List Int):List Int:=l.mergeSort fun x y=>decide (x≤y)
noncomputable def Ie (args:List AV)(h:AHeap):Option (AV × AHeap):=
 match args with
 | [.rs id 0 n 1]=>if n=0 then some (.tup [],h) else (h.get id).bind fun
  | .cells cs=>if n≤cs.length∧n<4611686018427387904 then (ny (cs.take n)).map fun l=>(.tup [],h.put id (.cells ((ky l).map (fun z=>.int .i64 z)++cs.drop n))) else none
  | _=>none
 | _=>none
theorem BQ:∀args h r h',Ie args h=some (r,h')→Steady h h':=by
 intro args h r h' hs
 unfold Ie at hs
 split at hs
 ·split at hs
  ·cases hs; exact Steady.refl _
  ·rw [Ud] at hs
   obtain⟨o,_,hs⟩:=hs
   split at hs
   ·split at hs
    ·obtain⟨l,_,hs⟩:=Ug.1 hs
     cases hs; exact Steady.put _ _ _
    ·cases hs
   ·cases hs
 ·cases hs
section
variable {c:Cx}{L0:Nat→Prop}
theorem BR (hrel:HRel c L0){id n:Nat}{cs:List AV}{l:List Int}(hid:c.h.get id=some (.cells cs))(hl:ny (cs.take n)=some l):Holds (Value.int .i64) c.w (c.β id).1 (c.β id).2 l.toArray:=by
 obtain⟨m,⟨C,T,hC,hn⟩,hle,hcl⟩:=hrel.obj _ _ hid
 intro j hj
 have hj:j<l.length:=by simpa using hj
 have hx:cs[j]? = some (.int .i64 l[j]):=by
  have h1:(cs.take n)[j]? = some (.int .i64 l[j]):=by rw [l9 hl,Vm,Un hj]; rfl
  rw [List.getElem?_take] at h1
  split at h1
  ·exact h1
  ·cases h1
 obtain⟨v,h1,_,h3⟩:=hcl.get' j _ hx
 simp only [VR] at h3
 subst h3
 refine⟨by rw [h1]; simp [hj],by simp [World.frozen?,hC]⟩
theorem F5 (hrel:HRel c L0)(hbs:c.base≤c.w.heap.size){id n:Nat}{cs:List AV}{new:List Int}(hid:c.h.get id=some (.cells cs))(hn:n≤cs.length)(hnew:new.length=n)(q:Nat)(os:Array Obj) :
  let w':=grow (putRow (Value.int .i64) (Sort.ahead c.w q) (c.β id).1 (c.β id).2 new.toArray) os
  let c':Cx:=⟨c.β,c.h.put id (.cells (new.map (fun z=>.int .i64 z)++cs.drop n)),w',c.base⟩
  HRel c' L0∧Ext c none0 c' none0∧c'.len (c.β id).1=c.len (c.β id).1:=by
 intro w' c'
 have hun:un L0 none0=L0:=by funext b; simp [un,none0]
 have f:=Fr.none hrel
 obtain⟨m,⟨C,T,hC,hm⟩,hle,hcl⟩:=hrel.obj _ _ hid
 have hlive:Live c.h id:=⟨hrel.lt _ _ hid,by rw [hid]; rfl⟩
 have hblt:(c.β id).1<c.w.heap.size:=(UL.1 hC).1
 have qf:∀k,k<c.w.heap.size→w'.heap[k]? = if k=(c.β id).1 then some (.cells (putCells (Value.int .i64) (c.β id).2 new.toArray C) T (0,0)) else c.w.heap[k]?:=fun k hk=>by
  show (grow _ os).heap[k]? = _
  rw [heap_grow_old _ _ (by simp [putRow,mapBlock,Sort.ahead]; exact hk)]
  by_cases h:k=(c.β id).1
  ·subst h; simp [putRow,mapBlock,Sort.ahead,Vh,hC,onCells]
  ·have h2:(c.β id).1≠k:=fun e=>h e.symm
   simp [putRow,mapBlock,Sort.ahead,Vh,h,h2]
 have sH:w'.heap[(c.β id).1]? = some (.cells (putCells (Value.int .i64) (c.β id).2 new.toArray C) T (0,0)):=by rw [qf _ hblt,if_pos rfl]
 have hsz:(putCells (Value.int .i64) (c.β id).2 new.toArray C).size=C.size:=by simp [putCells]
 have hlen:((w'.shape? (c.β id).1).map (·.2)).getD 0=c.len (c.β id).1:=by
  simp only [Cx.len,World.shape?,sH,hC,Uk,U7,hsz]
 have Kw:c.w.heap.size≤w'.heap.size:=by
  show _≤(grow _ os).heap.size
  simp [grow,putRow,mapBlock,Sort.ahead]
 obtain⟨e2,f2⟩:=f.upd (w':=w') (β':=c.β) (h':=c.h.put id (.cells (new.map (fun z=>.int .i64 z)++cs.drop n))) id (.cells (new.map (fun z=>.int .i64 z)++cs.drop n)) (Steady.put _ _ _) (Vr hlive.1) (by simp [AHeap.put,beq_nat])
  (fun j hj=>.inr ⟨by simp [AHeap.put,beq_nat,hj],rfl⟩) (fun _=>⟨hlive,rfl⟩) (.inr ⟨id,hlive,rfl,.inl rfl⟩)
  (fun _=>hlen) (fun k hk hne=>by rw [qf k hk,if_neg hne]) (fun k hk hne=>by rw [qf k (by omega),if_neg hne]) Kw hbs rfl rfl rfl
  (fun ee=>by
   refine⟨C.size,⟨_,T,sH,hsz⟩,by rw [Uo,UB,List.length_drop,hnew]; omega,?_⟩
   rw [Cells.iff]
   intro i x hx
   show ∃v,w'.cell? _=some v∧_
   rw [cell_of_block sH]
   have hi:i<cs.length:=by
    have:=(Ul.1 hx).1
    rw [Uo,UB,List.length_drop,hnew] at this; omega
   have RX:(putCells (Value.int .i64) (c.β id).2 new.toArray C)[(c.β id).2+i]? = C[(c.β id).2+i]?.map fun x=>if (c.β id).2≤(c.β id).2+i∧(c.β id).2+i<(c.β id).2+new.toArray.size then Value.int .i64 new.toArray[(c.β id).2+i - (c.β id).2]! else x:=by
    unfold putCells; rw [Array.getElem?_mapIdx]
   rw [RX]
   by_cases h:i<n
   ·rw [Uu (by rw [UB,hnew]; exact h),Vm,Un (by omega)] at hx
    simp only [Uk,Uh] at hx
    subst hx
    have RY:(c.β id).2+i<C.size:=by omega
    rw [Array.getElem?_eq_getElem RY]
    refine⟨.int .i64 new[i],?_,rfl,by simp [VR]⟩
    simp only [Uk,Uh]
    rw [if_pos ⟨by omega,by simp [hnew]; exact h⟩,Vt]
    simp [show i<new.length by omega]
   ·rw [Uz (by rw [UB,hnew]; omega),UB,hnew,List.getElem?_drop,show n+(i - n)=i by omega] at hx
    obtain⟨v,v1,v2,v3⟩:=hcl.get' i x hx
    rw [cell_of_block hC] at v1
    refine⟨v,?_,v2,?_⟩
    ·rw [v1]
     simp only [Uk,Uh]
     rw [if_neg (by simp [hnew]; omega)]
    ·have:=VR.ext ee (L0:=L0) x v (by rw [hun]; exact v3)
     exact this)
 exact⟨by have:=f2.rel; rwa [hun] at this,e2,hlen⟩
end
section
variable {P:Program}{ρ:Ren}
theorem Kx (L:Lays.n189 P ρ)(henter:∀(vs:Array Value) (w:World),(callFunc (ρ.f 189) vs).run P w = .ok (.enter (ρ.f 189) vs) w) :
  CallOK P fun f' args h=>if f'=ρ.f 189 then Ie args h else none:=by
 intro f args h r h' hc
 dsimp only at hc
 split at hc
 rotate_left
 ·cases hc
 rename_i hf
 subst hf
 refine⟨henter,fun L0 c vs hh hb0 hrel hargs=>?_⟩
 subst hh
 unfold Ie at hc
 split at hc
 rotate_left
 ·cases hc
 rename_i id n
 match vs,hargs with
 | [v1],⟨q1,_⟩=>
 split at hc
 ·rename_i hn
  subst hn
  cases hc
  have hs:∃a cap,v1 = .slice a 0 cap:=by
   simp only [VR] at q1
   rcases q1 with⟨_,_,_,a,rfl⟩| ⟨_,_,a,cap,rfl,_⟩
   ·exact⟨a,0,rfl⟩
   ·exact⟨a,cap,rfl⟩
  obtain⟨a,cap,rfl⟩:=hs
  refine (Any.slices_Sort_int_none L a cap c.w).mono ?_
  rintro e w' ⟨rfl,rfl⟩
  exact⟨c,_,rfl,rfl,rfl,by simp only [VR]; exact⟨#[],rfl,trivial⟩,hrel,Ext.refl _ _⟩
 ·rename_i hn
  rw [Ud] at hc
  obtain⟨o,hid,hc⟩:=hc
  split at hc
  rotate_left
  ·cases hc
  rename_i cs
  split at hc
  rotate_left
  ·cases hc
  rename_i hle
  obtain⟨l,hl,he⟩:=Ug.1 hc
  simp only [Um] at he
  obtain⟨rfl,rfl⟩:=he
  have hlive:Live c.h id:=⟨hrel.lt _ _ hid,by rw [hid]; rfl⟩
  have hll:l.length=n:=by
   have:=congrArg List.length (l9 hl)
   rw [UB,Vi] at this; omega
  simp only [VR] at q1
  rcases q1 with⟨_,_,h0,_⟩| ⟨_,_,a,cap,rfl,h1,h2,h3⟩
  ·exact absurd h0 hn
  rcases h3 hlive with⟨rfl,h4⟩| h4
  rotate_left
  ·omega
  have hc:=Any.slices_Sort_int L (c.β id).1 (c.β id).2 cap l c.w (BR hrel hid hl) (hrel.block hlive) (by omega)
  rw [hll] at hc
  refine hc.mono ?_
  rintro e w' ⟨rfl,q,os,rfl⟩
  have hsl:(ky l).length=n:=by unfold ky; rw [List.length_mergeSort,hll]
  obtain⟨g1,g2,_⟩:=F5 hrel hb0 hid hle.1 hsl q os
  exact⟨_,_,rfl,rfl,rfl,by simp only [VR]; exact⟨#[],rfl,trivial⟩,g1,g2⟩
end
end Go.R
namespace Go.R
open Go
def Hd (cf:CallF)(f:FuncId):Prop:=∀args h,cf f args h=Ie args h
theorem pk (l:List Int):af.l l=l.map fun z=>.int .i64 z:=by
 induction l with
 | nil=>rfl
 | cons a l ih=>rw [bJ.eA,ih]; rfl
theorem mJ (l:List Int):(ky l).length=l.length:=by unfold ky; rw [List.length_mergeSort]
section
variable {h:AHeap}{L:Mem}{i n:Nat}{l:List Int}{cf:CallF}{f:FuncId}
theorem F6 (o:Has h ((i,.sl n 1 (af.l l))::L))(hn:n≠0):n=l.length∧i≠0∧l.length<4611686018427387904∧∃rest,h.get i=some (.cells (l.map (fun z=>.int .i64 z)++rest)):=by
 obtain⟨⟨⟨h1,h2⟩,h3⟩,_⟩:=o.at_ 0 _ _ rfl
 have hl:(af.l l).length=l.length:=by rw [pk,UB]
 rw [hl] at h1 h2
 rcases h3 with⟨_,h⟩| ⟨h,rest,h4⟩
 ·exact absurd h hn
 ·rw [pk] at h4
  exact⟨by omega,h,by omega,rest,h4⟩
theorem If (o:Has h ((i,.sl 0 1 (af.l l))::L)):l=[]:=by
 obtain⟨⟨⟨h1,_⟩,_⟩,_⟩:=o.at_ 0 _ _ rfl
 rw [pk,UB] at h1
 exact UU (by omega)
theorem Ig (S:Hd cf f)(o:Has h ((i,.sl n 1 (af.l l))::L)):∃h',cf f [.rs i 0 n 1] h=some (.tup [],h')∧Has h' ((i,.sl n 1 (af.l (ky l)))::L):=by
 rw [S]
 by_cases hn:n=0
 ·subst hn
  have:=If o
  subst this
  have e:ky []=[]:=by simp [ky]
  exact⟨h,rfl,by rw [e]; exact o⟩
 ·obtain⟨h1,h2,h3,rest,h4⟩:=F6 o hn
  subst h1
  have et:(l.map (fun z=>AV.int .i64 z)++rest).take l.length=l.map fun z=>AV.int .i64 z:=by
   rw [UO (by simp),UT (by simp)]
  have ed:(l.map (fun z=>AV.int .i64 z)++rest).drop l.length=rest:=by
   have:=List.drop_left (l₁:=l.map fun z=>AV.int .i64 z) (l₂:=rest)
   rwa [UB] at this
  refine⟨h.put i (.cells ((ky l).map (fun z=>.int .i64 z)++rest)),?_,?_⟩
  ·unfold Ie
   simp only
   rw [if_neg hn,h4,Ue]
   simp only
   rw [if_pos ⟨by simp,h3⟩,et,r7,Uk,ed]
  ·refine jd (q:=0) o rfl (ob:=.cells ((ky l).map (fun z=>.int .i64 z)++rest)) (c':=.sl l.length 1 (af.l (ky l))) ⟨⟨?_,?_⟩,.inr ⟨h2,rest,by rw [cV,if_pos rfl,pk]⟩⟩
   ·rw [pk,UB,mJ]; omega
   ·have:=(o.at_ 0 _ _ rfl).1.1.2
    rw [pk,UB] at this ⊢
    rw [mJ]; exact this
end
end Go.R
namespace Go.R
open Go
def xL (z:Nat)(args:List AV)(h:AHeap):Option (AV × AHeap):=
 match args with
 | [.nils]=>some (.rs 0 0 0 z,h)
 | [.fz cs n _]=>if n=0 then some (.rs 0 0 0 z,h) else if cs.length=n*z∧n*1024≤1099511627776 then some (.rs h.next 0 n z,h.alloc (.cells (cs.map jk))) else none
 | [.rs id 0 n z']=>if n=0 then some (.rs 0 0 0 z,h) else (h.get id).bind fun
  | .cells cs=>if z'=z∧n*z≤cs.length∧n*1024≤1099511627776 then some (.rs h.next 0 n z,h.alloc (.cells ((cs.take (n*z)).map jk))) else none
  | _=>none
 | _=>none
def DB (cf:CallF)(f:FuncId)(z:Nat):Prop:=∀args h,cf f args h=xL z args h
def F7 (z:Nat){α:Type}(l:List α):Option (List α):=if l.length*1024≤1099511627776 then some l else none
theorem DC {z:Nat}{α:Type}{l r:List α}(h:F7 z l=some r):l.length*1024≤1099511627776∧r=l:=by
 unfold F7 at h
 split at h
 ·rename_i g; cases h; exact⟨g,rfl⟩
 ·cases h
section
variable {h:AHeap}{K:Mem}{i n q:Nat}{α:Type}{E:bJ α}{l r:List α}{cf:CallF}{f:FuncId}
theorem Ih (o:Has h K)(hl:l≠[])(hb:l.length*1024≤1099511627776):Has (h.alloc (.cells (E.l l))) ((h.next,.sl l.length E.n (E.l l))::K):=
 o.new (fun k hk=>by rw [AHeap.alloc,cV,if_neg (by omega)]) (Vn _) (.inr (Uj _)) (U0 _) ⟨⟨bJ.bL,bJ.mF (by omega)⟩,.inr ⟨by have:=o.pos; omega,[],by rw [AHeap.alloc,cV,if_pos rfl]; simp⟩⟩
theorem F8 (o:Has h K):Has h ((0,.sl ([]:List α).length E.n (E.l []))::K):=Has.nil o E.n
theorem Ky (S:DB cf f E.n)(o:Has h K)(hr:F7 E.n l=some r):∃i h',cf f [E.fz l] h=some (.rs i 0 r.length E.n,h')∧Has h' ((i,.sl r.length E.n (E.l r))::K):=by
 obtain⟨hb,rfl⟩:=DC hr
 rw [S]
 by_cases hl:r=[]
 ·subst hl
  exact⟨0,h,rfl,F8 o⟩
 ·have hn:r.length≠0:=fun e=>hl (UU e)
  refine⟨h.next,_,?_,Ih o hl hb⟩
  show xL E.n [.fz (E.l r) r.length false] h=_
  unfold xL
  simp only
  rw [if_neg hn,if_pos ⟨bJ.bL,hb⟩,bJ.zC]
end
end Go.R
namespace Go.R
open Go
section
variable {h:AHeap}{K:Mem}{i q off k:Nat}{cs ys:List AV}
theorem cJ (o:Has h K)(hq:K[q]? = some (i,.ob cs))(f:aO k h cs ys):jZ (k+1) h (.ptr i off) (.fp ys off):=fun n hn=>by
 obtain⟨m,rfl⟩:∃m,n=m+1:=⟨n - 1,by simp only [gZ] at hn; omega⟩
 obtain⟨⟨_,h2⟩,_⟩:=o.at_ _ _ _ hq
 simp only [b7,h2,Ue]
 rw [f m (by omega)]; rfl
theorem kV (hp:cy cs=true∧dm cs=cs):(AV.fp cs off).dT=true∧(AV.fp cs off).iV = .fp cs off:=⟨by simpa [AV.dT] using hp.1,by show AV.fp (dm cs) off=_; rw [hp.2]⟩
theorem fX (hp:cy cs=true∧dm cs=cs):jZ 0 h (.fp cs off) (.fp cs off):=kT (kV hp).1 (fun _=>rfl) (kV hp).2
end
def Nq {α β:Type}(o:Option α)(n:Option β)(s:α→Option β):Option β:=
 match o with
 | none=>n
 | some y=>s y
end Go.R
namespace Go.R
open Go
def qo:List (AHeap × AHeap × Nat)→Prop
 | []=>True
 | (h,h',i)::l=>h.ver i=h'.ver i∧qo l
theorem ov:∀{a b:List (AHeap × AHeap × Nat)},qo (a++b)→qo a∧qo b
 | [],b,h=>⟨trivial,h⟩
 | (_,_,_)::a,b,h=>by
  have:=ov (a:=a) h.2
  exact⟨⟨h.1,this.1⟩,this.2⟩
theorem wS:∀{l:List Nat} {h h':AHeap},qo (l.map fun id=>(h,h',id))→∀id∈l,h.ver id=h'.ver id
 | i::l,h,h',hp,id,hm=>by
  rcases UF.1 hm with rfl | hm
  ·exact hp.1
  ·exact wS hp.2 id hm
def Ii (x y:ly):Bool:=
 match x.f.wb with
 | some k=>!y.f.rb.contains k&&y.f.wb != some k
 | none=>true
def uY (x y:ly):Option (List (AHeap × AHeap × Nat)):=
 bif Ii x y then (bif x.f.wh then (bif y.f.wh then none else some (y.f.rh.map fun id=>(x.s.h,x.s'.h,id))) else some []) else none
theorem tJ {x y:ly}{l:List (AHeap × AHeap × Nat)}(h:uY x y=some l)(hp:qo l):x.iW y=true:=by
 have he:x.iW y=(Ii x y&&(!x.f.wh||(!y.f.wh&&y.f.rh.all fun id=>UP (x.s.h.ver id) (x.s'.h.ver id)))):=rfl
 rw [he]
 unfold uY at h
 cases h1:Ii x y with
 | false=>rw [h1] at h; cases h
 | true=>
  rw [h1,cond_true] at h
  cases hw:x.f.wh with
  | false=>rfl
  | true=>
   rw [hw,cond_true] at h
   cases hy:y.f.wh with
   | true=>rw [hy] at h; cases h
   | false=>
    rw [hy,cond_false] at h
    cases h
    simp only [Vd,Bool.false_or,Bool.not_false,VN,Uy]
    intro id hid
    rw [wS hp id hid,Nat.beq_refl]
def wT (ms:List Nat)(x:ly)(i:Nat):List (ly × Nat)→Option (List (AHeap × AHeap × Nat))
 | []=>some []
 | y::l=>bif Vz y.2 i||(ms.getD y.2 0).testBit i then wT ms x i l else (uY x y.1).bind fun a=>(uY y.1 x).bind fun b=>(wT ms x i l).map fun c=>a++(b++c)
theorem DD {ms:List Nat}{x:ly}{i:Nat}(l:List (ly × Nat)):∀{v:List (AHeap × AHeap × Nat)},wT ms x i l=some v→qo v→∀p∈l,(Vz p.2 i||(ms.getD p.2 0).testBit i||(x.iW p.1&&p.1.iW x))=true:=by
 induction l with
 | nil=>intro v _ _ p hm; cases hm
 | cons y l ih=>
  intro v h hp p hm
  simp only [wT] at h
  cases hc:(Vz y.2 i||(ms.getD y.2 0).testBit i) with
  | true=>
   rw [hc,cond_true] at h
   rcases UF.1 hm with rfl | hm
   ·rw [hc,Bool.true_or]
   ·exact ih h hp p hm
  | false=>
   rw [hc,cond_false] at h
   simp only [Ud,Ug] at h
   obtain⟨a,ha,b,hb,c,hc,rfl⟩:=h
   obtain⟨p1,p2⟩:=ov hp
   obtain⟨p2,p3⟩:=ov p2
   rcases UF.1 hm with rfl | hm
   ·rw [tJ ha p1,tJ hb p2,Bool.and_self,Bool.or_true]
   ·exact ih hc p3 p hm
def zJ (ms:List Nat)(all:List (ly × Nat)):List (ly × Nat)→Option (List (AHeap × AHeap × Nat))
 | []=>some []
 | x::l=>(wT ms x.1 x.2 all).bind fun a=>(zJ ms all l).map fun b=>a++b
theorem DE {ms:List Nat}{all:List (ly × Nat)}(l:List (ly × Nat)):∀{v:List (AHeap × AHeap × Nat)},zJ ms all l=some v→qo v→∀x∈l,∀p∈all,(Vz p.2 x.2||(ms.getD p.2 0).testBit x.2||(x.1.iW p.1&&p.1.iW x.1))=true:=by
 induction l with
 | nil=>intro v _ _ x hm; cases hm
 | cons y l ih=>
  intro v h hp x hm
  simp only [zJ,Ud,Ug] at h
  obtain⟨a,ha,b,hb,rfl⟩:=h
  obtain⟨p1,p2⟩:=ov hp
  rcases UF.1 hm with rfl | hm
  ·exact DD all ha p1
  ·exact ih hb p2 x hm
def Ij (ops:List Oper)(arr:Array Oper)(s:RS)(es:List ly):Option (List (AHeap × AHeap × Nat)):=
 let ms:=iX [] ops
 let is:=es.zipIdx
 let ui:=is.filter fun (x,_)=>!x.f.quiet
 if mz arr ms&&ui.all (fun (x,i)=>qN ms (ops.filterMap (·.dst)) s is x i) then zJ ms ui ui else none
theorem F9 {P:Program}{cf:CallF}{aE:List Nat}{ops:Array Oper}{s r:RS}{es:List ly}{l:List (AHeap × AHeap × Nat)}(h:Ij ops.toList ops s es=some l)(hp:qo l)(hr:nN P cf aE ops.toList s ops.toList=some (es,r)):jm P cf aE ops s=some r:=by
 unfold Ij at h
 simp only at h
 split at h
 rotate_left
 ·cases h
 rename_i hc
 simp only [Ui] at hc
 obtain⟨h1,h2⟩:=hc
 unfold jm
 simp only [h1,if_true,hr,Ue]
 rw [if_pos]
 rw [Uy] at h2 ⊢
 intro x hx
 have a:=h2 x hx
 simp only [Ui] at a ⊢
 refine⟨a,?_⟩
 rw [Uy]
 intro y hy
 exact DE _ h hp x hx y hy
def zK (P:Program)(cf:CallF)(A:bY)(c:Code)(fs:List (AV × AHeap))(zs:FM)(st:St):Option ((Prop × Prop) × St):=
 match c with
 | .region id ops draw=>(qm (st.open A) (fJ id A.Fp) fs).bind fun (s0,p0)=>(qi P cf A.aE ops.toList s0 0 ops.toList zs).bind fun (es,r,p)=>
   bif draw then (Ij ops.toList ops s0 es).bind fun l=>(ki r (fJ id A.xY)).map fun r2=>((p0∧p,qo l),r2.lL A id) else none
 | _=>none
theorem DF {P:Program}{cf:CallF}{A:bY}{m:Nat}{c:Code}{fs:List (AV × AHeap)}{zs:FM}{st ja:St}{p q:Prop}(h:zK P cf A c fs zs st=some ((p,q),ja))(hp:p)(hq:q):bH P cf A m c st=some (.norm,ja):=by
 unfold zK at h
 split at h
 rotate_left
 ·cases h
 rename_i id ops draw
 simp only [Ud] at h
 obtain⟨⟨s0,p0⟩,h0,⟨es,r,p1⟩,h1,h⟩:=h
 cases draw with
 | false=>cases h
 | true=>
  simp only [cond_true,Ud,Ug,Um] at h
  obtain⟨l,hl,r2,h2,⟨rfl,rfl⟩,rfl⟩:=h
  obtain⟨g1,g2⟩:=uN h1 hp.2
  have g0:=qR h0 hp.1
  simp only [bH,g0,Ue,if_true,F9 hl hq g1,h2,Uk]
inductive Vg
 | mk {h h':AHeap} {i:Nat} (e:h.ver i=h'.ver i)
def Vg.t:Vg→AHeap × AHeap × Nat
 | @mk h h' i e=>(h,h',i)
theorem DG:∀vs:List Vg,qo (vs.map Vg.t)
 | []=>trivial
 | @Vg.mk h h' i e::vs=>⟨e,DG vs⟩
def PG (P:Program)(cf:CallF)(A:bY)(c:Code)(fs gs:List vD)(s:St):St:=((zK P cf A c (BP fs) (wQ gs) s).map (·.2)).getD s
section
variable {P:Program}{cf:CallF}{A:bY}{m:Nat}{c:Code}{s:St}{Q R:Ex→St→Prop}
theorem Kz (fs gs:List vD)(vs:List Vg)(hQ:Q .norm (PG P cf A c fs gs s))(h:(zK P cf A c (BP fs) (wQ gs) s).map (·.1)=some (ps fs∧ps gs,qo (vs.map Vg.t)):=by kernel_rfl):dn P cf A m c s Q:=by
 unfold PG at hQ
 obtain⟨⟨p,s'⟩,h1,rfl⟩:=Ug.1 h
 rw [h1] at hQ
 exact⟨.norm,s',DF h1 ⟨wR fs,wR gs⟩ (DG vs),hQ⟩
end
section
variable {P:Program}{h h':AHeap}{K:Mem}{i j n z q q2:Nat}{c:Ct}{cs:List AV}{x y:AV}{t t2:TypeId}
theorem uZ {o:AObj}(hj:j≠i):h.ver j=(h.put i o).ver j:=by
 simp only [AHeap.put,beq_nat]
 simp [hj]
theorem wU (hj:j≠i):h.ver j=(h.kill i).ver j:=by
 simp only [AHeap.kill,beq_nat]
 simp [hj]
theorem Ga {s:AV}(e:dy P h t t2 s x=some (y,h'))(hs:∀i off n z,s = .rs i off n z→j≠i)(hj:j≠h.next):h.ver j=h'.ver j:=by
 have ha:∀o:AObj,h.ver j=(h.alloc o).ver j:=fun o=>uZ hj
 unfold dy at e
 simp only [Ud] at e
 obtain⟨u,hu,e⟩:=e
 split at e
 rotate_left
 ·cases e
 simp only [Ud] at e
 obtain⟨inf,hi,⟨new,m⟩,hc,e⟩:=e
 split at e
 ·cases e
 split at e
 ·split at e
  ·cases e
  ·split at e
   ·cases e; rfl
   ·cases e; exact ha _
 ·split at e
  ·cases e
  ·split at e
   ·split at e<;>(cases e; rfl)
   ·cases e; exact ha _
 ·rename_i id off len hH
  have hne:=hs _ _ _ _ rfl
  split at e
  ·split at e
   ·cases e
   ·split at e
    ·cases e; rfl
    ·cases e; exact ha _
  ·simp only [Ud] at e
   obtain⟨ob,ho,e⟩:=e
   split at e
   rotate_left
   ·cases e
   split at e
   ·cases e
   ·split at e
    ·cases e; rfl
    ·cases e
     exact (wU hne).trans (uZ hj)
 ·cases e
theorem yA (o:Has h K)(hq:K[q]? = some (i,c))(Gb:K[q2]? = some (j,.ob cs))(hne:q≠q2)(e:dy P h t t2 (.rs i 0 n z) x=some (y,h')):h.ver j=h'.ver j:=by
 obtain⟨⟨h1,_⟩,h2⟩:=o.at_ _ _ _ Gb
 refine Ga e (fun i' _ _ _ he=>?_) (by omega)
 cases he
 intro hji
 subst hji
 exact hne (o.nd _ _ _ _ _ hq Gb h1)
end
theorem DH {cf:CallF}{f:FuncId}{z:Nat}{h h':AHeap}{K:Mem}{q2 j:Nat}{cs:List AV}{x y:AV}(S:DB cf f z)(o:Has h K)(Gb:K[q2]? = some (j,.ob cs))(e:cf f [x] h=some (y,h')):h.ver j=h'.ver j:=by
 obtain⟨⟨h1,_⟩,h2⟩:=o.at_ _ _ _ Gb
 have ha:∀o:AObj,h.ver j=(h.alloc o).ver j:=fun o=>uZ (Nat.ne_of_lt h2)
 rw [S] at e
 unfold xL at e
 split at e
 ·cases e; rfl
 ·split at e
  ·cases e; rfl
  ·split at e
   ·cases e; exact ha _
   ·cases e
 ·split at e
  ·cases e; rfl
  ·rw [Ud] at e
   obtain⟨ob,ho,e⟩:=e
   split at e
   ·split at e
    ·cases e; exact ha _
    ·cases e
   ·cases e
 ·cases e
theorem KA {x:Option (AV × AHeap)}{a:AV}{h:AHeap}{z:AV × AHeap}(h1:x=some (a,h))(h2:iO 0 h a=some z):x.bind (fun x=>iO 0 x.2 x.1)=some z:=by rw [h1]; exact h2
theorem Ik {P:Program}{h:AHeap}{K:Mem}{q i t e n:Nat}{inf:TypeInfo}{l:List Int}{j:Int}(ht:P.underlying t=some (.slice e))(hi:P.info? e=some inf)(hs:inf.size=1)(hz:ie P e=some (.int .i64 0))(o:Has h K)(hq:K[q]? = some (i,.sl n 1 (af.l l)))(h0:0≤j)(h1:j≤(l.length:Int)) :
  ∃h',kL P h t (.rs i (0+j.toNat*1) (n - j.toNat) 1)=some h'∧Has h' (K.set q (i,.sl n 1 (af.l (l.take j.toNat++Uw (l.length - j.toNat) 0)))):=by
 have hn:n=l.length:=cG (E:=af) o hq
 subst hn
 have hll:(l.take j.toNat++Uw (l.length - j.toNat) 0).length=l.length:=by simp; omega
 unfold kL
 rw [ht,Ue]
 simp only
 by_cases hl:l.length - j.toNat=0
 ·refine⟨h,by rw [if_pos hl],?_⟩
  have:l.take j.toNat++Uw (l.length - j.toNat) 0=l:=by rw [hl,List.replicate_zero,VC,UT (by omega)]
  rw [this]
  have hK:K.set q (i,.sl l.length 1 (af.l l))=K:=by
   obtain⟨g1,g2⟩:=Ul.1 hq
   rw [←g2,List.set_getElem_self]
  rw [hK]; exact o
 ·rw [if_neg hl]
  obtain⟨⟨⟨hlen,qg⟩,ll⟩,hlt⟩:=o.at_ _ _ _ hq
  rcases ll with⟨_,h5⟩| ⟨h5,rest,h6⟩
  ·omega
  rw [if_neg h5]
  simp only [hi,hz,h6,Ue,hs]
  have RZ:hJ [AV.int .i64 0] (l.length - j.toNat)=af.l (Uw (l.length - j.toNat) 0):=by
   generalize l.length - j.toNat=k
   induction k with
   | zero=>rfl
   | succ k ih=>show [AV.int .i64 0]++hJ [AV.int .i64 0] k=_; rw [ih]; rfl
  rw [if_pos ⟨trivial,rfl,by decide,rfl,by rw [Uo,hlen]; omega⟩]
  refine⟨_,rfl,?_⟩
  refine jd o hq ?_
  have Hy:(af.l (l.take j.toNat++Uw (l.length - j.toNat) 0)).length=l.length*1:=(bJ.bL (E:=af)).trans (by rw [hll]; rfl)
  refine⟨⟨Hy,by rw [Hy]; rw [hlen] at qg; exact qg⟩,.inr ⟨h5,rest,?_⟩⟩
  rw [cV,if_pos rfl]
  congr 2
  show db (af.l l++rest) (0+j.toNat*1) (hJ [AV.int .i64 0] (l.length - j.toNat))=_
  rw [RZ,bJ.gQ]
  have Il:=gR (af.l (l.drop j.toNat)) (af.l (Uw (l.length - j.toNat) 0)) (af.l (l.take j.toNat)) rest (by
   rw [bJ.bL,bJ.bL]; simp)
  rw [←bJ.gQ,Vp] at Il
  have hp:(af.l (l.take j.toNat)).length=0+j.toNat*1:=by
   rw [bJ.bL]; show _*1=_; simp; omega
  rw [hp] at Il
  exact Il
end Go.R
namespace Go.R
open Go
def PH (P:Program)(t:TypeId):Bool:=
 match P.underlying t with
 | some (.map kt et)=>(P.underlying kt matches some (.int .i64))&&(match ie P et with | some (.bool b)=>!b | _=>false)
 | _=>false
section
variable {P:Program}{h:AHeap}{K:Mem}{i q n b:Nat}{t t2:TypeId}{α:Type}{E:bJ α}{l r s:List α}{x:AV}
def KB {α:Type}(l s:List α):Option (List α):=if s.length≤l.length then some (s++l.drop s.length) else none
theorem Gc (T:wE P t E.n b=true)(o:Has h K)(hq:K[q]? = some (i,.sl n E.n (E.l l)))(hc:dY h E.n x=some (E.l s,s.length))(gj:ig P t2 x=true)(nH:(E.l s).all AV.bQ=true)(hr:KB l s=some r) :
  ∃h',pJ P h t t2 (.rs i 0 n E.n) x=some (.int .i64 s.length,h')∧Has h' (K.set q (i,.sl n E.n (E.l r))):=by
 have hn:=cG o hq
 subst hn
 unfold KB at hr
 split at hr
 rotate_left
 ·cases hr
 rename_i hle
 cases hr
 obtain⟨e,inf,g1,g2,g3,g4,g5,g6⟩:=jA T
 obtain⟨⟨⟨hlen,qg⟩,ll⟩,hlt⟩:=o.at_ _ _ _ hq
 have hll:(s++l.drop s.length).length=l.length:=by simp; omega
 simp only [pJ,g1,Ue,g2,g3,hc,gj,Bool.true_eq_false,if_false]
 rcases ll with⟨h0,h1⟩| ⟨h0,rest,h1⟩
 ·have hl0:l=[]:=by simpa using h1
  subst hl0
  have hs0:s=[]:=by cases s with | nil=>rfl | cons _ _=>simp at hle
  subst hs0
  refine⟨h,by simp [h0],?_⟩
  have hK:K.set q (i,.sl ([]:List α).length E.n (E.l ([]++([]:List α).drop ([]:List α).length)))=K:=by
   obtain⟨g1,g2⟩:=Ul.1 hq
   show K.set q (i,.sl ([]:List α).length E.n (E.l []))=K
   rw [←g2,List.set_getElem_self]
  rw [hK]; exact o
 ·rw [if_neg h0,h1]
  simp only [Ue]
  rw [if_pos ⟨trivial,hle,by
   rw [Uo,hlen,UC]
   exact U1 (U4 _ hle) (Nat.le_add_right _ _)⟩]
  refine⟨_,rfl,jd o hq ⟨⟨by rw [bJ.bL,hll],by rw [bJ.bL,hll,←hlen]; exact qg⟩,.inr ⟨h0,rest,?_⟩⟩⟩
  rw [cV,if_pos rfl]
  congr 2
  have Il:=gR (E.l (l.take s.length)) (E.l s) [] (E.l (l.drop s.length)++rest) (by rw [bJ.bL,bJ.bL,Vi,VA hle])
  simp only [UR,UG] at Il
  rw [←Uv,←bJ.gQ,Vp] at Il
  rw [Il,bJ.gQ,Uv]
theorem Im:dY h E.n (E.fz l)=some (E.l l,l.length):=by
 simp only [dY,bJ.fz]
 rw [if_pos bJ.bL]
end
theorem KC:∀l:List Int,(af.l l).all AV.bQ=true:=fun l=>by
 induction l with
 | nil=>rfl
 | cons a l ih=>rw [bJ.eA,List.all_append,ih]; rfl
section
variable {P:Program}{h:AHeap}{K:Mem}{i q n b:Nat}{t:TypeId}{α:Type}{E:bJ α}{l:List α}{j:Int}{k:IntKind}
def JB (l:List Int)(j:Int):Option (List Int):=if 0≤j∧j≤l.length then some (l.take j.toNat++Uw (l.length - j.toNat) 0) else none
theorem r8 {l r:List Int}{j:Int}(h:JB l j=some r):0≤j∧j≤l.length∧r=l.take j.toNat++Uw (l.length - j.toNat) 0:=by
 unfold JB at h
 split at h
 ·rename_i g; cases h; exact⟨g.1,g.2,rfl⟩
 ·cases h
theorem Io (T:wE P t E.n b=true)(o:Has h K)(hq:K[q]? = some (i,.sl n E.n (E.l l)))(h0:0≤j)(h1:j≤(l.length:Int)):kJ P t (.rs i 0 n E.n) (some (.int k j)) none none=some (.rs i (0+j.toNat*E.n) (n - j.toNat) E.n):=by
 have hn:=cG o hq
 subst hn
 obtain⟨e,inf,g1,g2,g3,g4,g5,g6⟩:=jA T
 simp only [kJ,g1,Ue,g6,if_true,jJ]
 rw [if_pos ⟨h0,by omega⟩]
 simp only [Ue,Uk,Ur]
def Nr (P:Program)(t:TypeId):Bool:=
 match P.underlying t with
 | some (.slice e)=>(match P.info? e with | some inf=>inf.size==1 | none=>false)&&(match ie P e with | some (.int .i64 z)=>z==0 | _=>false)
 | _=>false
theorem Ip {l r:List Int}(T:Nr P t=true)(o:Has h K)(hq:K[q]? = some (i,.sl n 1 (af.l l)))(hr:JB l j=some r) :
  ∃h',(kL P h t (.rs i (0+j.toNat*1) (n - j.toNat) 1)).map (fun h=>(AV.tup [],h))=some (AV.tup [],h')∧Has h' (K.set q (i,.sl n 1 (af.l r))):=by
 obtain⟨h0,h1,rfl⟩:=r8 hr
 unfold Nr at T
 split at T
 rotate_left
 ·cases T
 rename_i e ht
 simp only [Ui] at T
 obtain⟨T1,T2⟩:=T
 split at T1
 rotate_left
 ·cases T1
 rename_i inf hi
 split at T2
 rotate_left
 ·cases T2
 rename_i z hz
 simp only [beq_iff_eq] at T1 T2
 subst T2
 obtain⟨h',e1,o1⟩:=Ik ht hi T1 hz o hq h0 h1
 exact⟨h',by rw [e1]; rfl,o1⟩
end
section
variable {h:AHeap}{f k k2:Nat}{cs ys:List AV}
theorem r9 (g:aO k h cs ys):jZ (k+1) h (.fn f cs) (.fn f ys):=fun n hn=>by
 obtain⟨m,rfl⟩:∃m,n=m+1:=⟨n - 1,by simp only [gZ] at hn; omega⟩
 simp only [b7]
 rw [g m (by omega)]; rfl
theorem aO.mono {k k':Nat}{x y:List AV}(hk:k≤k')(f:aO k h x y):aO k' h x y:=fun n hn=>f n (by omega)
theorem iC {xs:List AV}(f:aO k h xs ys)(hk:k≤cr:=by decide):aO cr h xs ys:=aO.mono hk f
theorem DI:∀{us bs cs ys:List AV} {k1 k2:Nat},aO k1 h us bs→aO k2 h cs ys→aO (k1+k2+us.length+1) h (us++cs) (bs++ys)
 | [],bs,cs,ys,k1,k2,f,g=>fun n hn=>by
  have:=f (gZ+k1) (Uj _)
  have hb:bs=[]:=by
   cases hm:gZ+k1 with
   | zero=>simp [gZ] at hm
   | succ m=>rw [hm] at this; simp only [bq,Uh] at this; exact this.symm
  subst hb
  exact g n (by omega)
 | a::us,bs,cs,ys,k1,k2,f,g=>fun n hn=>by
  have h1:=f (gZ+k1) (Uj _)
  obtain⟨m,rfl⟩:∃m,n=m+1:=⟨n - 1,by simp only [gZ] at hn; omega⟩
  have hb:∃b KD,bs=b::KD:=by
   cases hm:gZ+k1 with
   | zero=>simp [gZ] at hm
   | succ m=>
    rw [hm] at h1
    simp only [bq,Ud,Ug] at h1
    obtain⟨y,_,zs,_,e⟩:=h1
    exact⟨y,zs,e.symm⟩
  obtain⟨b,KD,rfl⟩:=hb
  have key:∀n',gZ+k1≤n'+1→b7 h n' a=some b∧bq h n' us=some KD:=fun n' MI=>by
   have:=f (n'+1) MI
   simp only [bq,Ud,Ug] at this
   obtain⟨y,hy,zs,hz,e⟩:=this
   cases e
   exact⟨hy,hz⟩
  have f2:aO k1 h us KD:=fun n' MI=>(key n' (by omega)).2
  have:=DI f2 g m (by simp only [Ut] at hn; omega)
  show bq h (m+1) (a::(us++cs))=some (b::(KD++ys))
  simp only [bq]
  rw [(key m (by omega)).1,this]
  rfl
theorem He {us bs:List AV}{k:Nat}(f:aO k h us bs)(g:aO cr h cs ys)(hk:k≤500:=by decide)(hl:us.length≤400:=by simp):aO bO h (us++cs) (bs++ys):=(DI f g).mono (by
 have:k+cr+us.length+1≤cr+1001:=by omega
 exact U1 this (by decide))
end
theorem DJ {α:Type}{E:bJ α}{l:List α}{h h':AHeap}{K:Mem}{q q2 i j n:Nat}{cs:List AV}{y:AV}(o:Has h K)(hq:K[q]? = some (i,.sl n E.n (E.l l)))(Gb:K[q2]? = some (j,.ob cs))(e:iO 0 h (.rs i 0 n E.n)=some (y,h'))(hp:E.flat=true:=by rfl):h.ver j=h'.ver j:=by
 have hn:=cG o hq
 subst hn
 obtain⟨⟨⟨hlen,qg⟩,ll⟩,hlt⟩:=o.at_ _ _ _ hq
 obtain⟨⟨hj,_⟩,_⟩:=o.at_ _ _ _ Gb
 have hne:j≠i:=by
  intro he
  subst he
  have:=o.nd _ _ _ _ _ hq Gb hj
  subst this
  rw [hq] at Gb
  cases Gb
 simp only [iO] at e
 rcases ll with⟨h0,h1⟩| ⟨h0,rest,h1⟩
 ·rw [if_pos h0,if_pos h1] at e
  cases e; rfl
 ·rw [if_neg h0,h1] at e
  simp only [Ue] at e
  have e1:((E.l l++rest).drop 0).take (l.length*E.n)=E.l l:=by
   rw [UX,UO (by rw [hlen]; exact Uj _),UT (by rw [hlen]; exact Uj _)]
  rw [e1,if_pos (by rw [Uo,hlen]; omega),pa (bJ.nu hp).1] at e
  cases e
  exact wU hne
end Go.R
namespace Go.R
open Go
def nJ (k i:Nat):Nat:=if i=0 then 0 else i+k
theorem zL {k i off n z:Nat}:cP k (.rs i off n z)=some (.rs (nJ k i) off n z):=by
 unfold cP nJ
 split<;>rfl
theorem qX {k:Nat}:cb k []=some []:=rfl
theorem gw {k:Nat}{x y:AV}{xs ys:List AV}(a:cP k x=some y)(b:cb k xs=some ys):cb k (x::xs)=some (y::ys):=by
 simp only [cb,a,b,Ue,Uk]
theorem DK {k:Nat}{xs ys:List AV}(b:cb k xs=some ys):cP k (.agg xs)=some (.agg ys):=by
 simp only [cP,b,Uk]
theorem Iq {k:Nat}{xs ys:List AV}(b:cb k xs=some ys):cP k (.tup xs)=some (.tup ys):=by
 simp only [cP,b,Uk]
theorem ma {k:Nat}:∀{a a' b b':List AV},cb k a=some a'→cb k b=some b'→cb k (a++b)=some (a'++b')
 | [],a',b,b',h1,h2=>by simp only [cb,Uh] at h1; subst h1; exact h2
 | x::a,a',b,b',h1,h2=>by
  simp only [cb,Ud,Ug] at h1
  obtain⟨y,h3,ys,h4,rfl⟩:=h1
  exact gw h3 (ma h4 h2)
theorem nz {k:Nat}:∀{a a':List AV} (r:List AV),cb k a=some a'→fi k (a++r)=a'++fi k r
 | [],a',r,h1=>by simp only [cb,Uh] at h1; subst h1; rfl
 | x::a,a',r,h1=>by
  simp only [cb,Ud,Ug] at h1
  obtain⟨y,h3,ys,h4,rfl⟩:=h1
  have e:fi k (x::(a++r))=y::fi k (a++r):=by rw [fi,h3]
  show fi k (x::(a++r))=(y::ys)++fi k r
  rw [e,nz r h4]; rfl
theorem p6 {k:Nat}:∀{a a':List AV},cb k a=some a'→a'.length=a.length
 | [],a',h1=>by simp only [cb,Uh] at h1; subst h1; rfl
 | x::a,a',h1=>by
  simp only [cb,Ud,Ug] at h1
  obtain⟨y,h3,ys,h4,rfl⟩:=h1
  rw [Ut,Ut,p6 h4]
def Ns (k:Nat):Nat × Ct→Nat × Ct→Prop
 | (i,.sl n z cs),b=>∃eS,cb k cs=some eS∧b=(nJ k i,.sl n z eS)
 | (i,.ob cs),b=>∃eS,cb k cs=some eS∧b=(nJ k i,.ob eS)
 | _,_=>False
inductive Cr (k:Nat)(L:Mem):Mem→Mem→Prop
 | nil:Cr k L [] L
 | cons {a b:Nat × Ct} {K K':Mem} (e:Ns k a b) (g:Cr k L K K'):Cr k L (a::K) (b::K')
section
variable {k i n z:Nat}{L K K':Mem}{α:Type}{E:bJ α}{l:List α}
theorem KE (hE:∀a,cb k (E.f a)=some (E.f a)):∀l:List α,cb k (E.l l)=some (E.l l)
 | []=>rfl
 | a::l=>by rw [bJ.eA]; exact ma (hE a) (KE hE l)
theorem Hf (hE:∀a,cb k (E.f a)=some (E.f a))(g:Cr k L K K'):Cr k L ((i,.sl n z (E.l l))::K) ((nJ k i,.sl n z (E.l l))::K'):=.cons ⟨_,KE hE l,rfl⟩ g
theorem DL:∀(ns:List aq) (ids:List Nat),cb k (fW.l (bE ns ids))=some (fW.l (bE ns (ids.map (nJ k))))
 | [],_=>rfl
 | a::ns,ids=>by
  have h1:(ids.map (nJ k)).headD 0=nJ k (ids.headD 0):=by cases ids<;>rfl
  have h2:(ids.map (nJ k)).tail=ids.tail.map (nJ k):=by cases ids<;>rfl
  show cb k (fW.f (a,ids.headD 0)++fW.l (bE ns ids.tail))=some (fW.f (a,(ids.map (nJ k)).headD 0)++fW.l (bE ns (ids.map (nJ k)).tail))
  rw [h1,h2]
  exact ma (gw rfl (gw rfl (gw rfl (gw zL qX)))) (DL ns ids.tail)
theorem Hg {ns:List aq}{ids:List Nat}(g:Cr k L K K'):Cr k L ((i,.sl n z (fW.l (bE ns ids)))::K) ((nJ k i,.sl n z (fW.l (bE ns (ids.map (nJ k)))))::K'):=.cons ⟨_,DL ns ids,rfl⟩ g
theorem yB:∀{ns:List aq} {ids:List Nat},Cr k L K K'→Cr k L (fQ ns ids++K) (fQ ns (ids.map (nJ k))++K')
 | [],_,g=>g
 | a::ns,ids,g=>by
  have h1:(ids.map (nJ k)).headD 0=nJ k (ids.headD 0):=by cases ids<;>rfl
  have h2:(ids.map (nJ k)).tail=ids.tail.map (nJ k):=by cases ids<;>rfl
  show Cr k L (yy (a,ids.headD 0)::(fQ ns ids.tail++K)) (yy (a,(ids.map (nJ k)).headD 0)::(fQ ns (ids.map (nJ k)).tail++K'))
  rw [h1,h2]
  exact Hf (E:=af) (fun _=>rfl) (yB g)
end
theorem Ir {k:Nat}{L K K':Mem}(g:Cr k L K K'):∃K2,K'=K2++L∧K2.length=K.length∧∀(j:Nat) b,K2[j]? = some b→∃a,K[j]? = some a∧Ns k a b:=by
 induction g with
 | nil=>exact⟨[],rfl,rfl,fun j b h=>by simp at h⟩
 | cons e g ih=>
  rename_i a b K K'
  obtain⟨K2,rfl,h2,h3⟩:=ih
  refine⟨b::K2,rfl,by rw [Ut,Ut,h2],fun j c hj=>?_⟩
  cases j with
  | zero=>simp only [UW,Uh] at hj; subst hj; exact⟨a,rfl,e⟩
  | succ j=>simp only [Vk] at hj ⊢; exact h3 j c hj
theorem u6 {k i i':Nat}{c c':Ct}(e:Ns k (i,c) (i',c')):i'=nJ k i:=by
 cases c with
 | sl n z cs=>obtain⟨_,_,h⟩:=e; cases h; rfl
 | ob cs=>obtain⟨_,_,h⟩:=e; cases h; rfl
 | mp es=>exact e.elim
 | row t cs=>exact e.elim
theorem Has.eB {h h1:AHeap}{K1 K2 L:Mem}(o:Has h L)(o1:Has h1 K1)(g:Cr h.next L K1 K2):Has (h.eB h1) K2:=by
 obtain⟨K3,rfl,hlen,Bi⟩:=Ir g
 have hnx:(h.eB h1).next=h.next+h1.next:=rfl
 have Fc:∀{i:Nat},i≠0→nJ h.next i=i+h.next:=fun hi=>if_neg hi
 have hget:∀{i:Nat} {cs:List AV},i≠0→h1.get i=some (.cells cs)→(h.eB h1).get (nJ h.next i)=some (.cells (fi h.next cs)):=fun {i cs} hi hg=>by
  rw [Fc hi,(jz (Nat.le_add_left _ _)).1,Nat.add_sub_cancel,hg]; rfl
 have hidlt:∀{i:Nat},i<h1.next→nJ h.next i<(h.eB h1).next:=fun {i} hi=>by
  rw [hnx]
  by_cases h0:i=0
  ·subst h0; show 0<_; have:=o.pos; omega
  ·rw [Fc h0]; omega
 refine⟨fun j i c hj=>?_,fun j j' i c c' hj xJ hi=>?_,by rw [hnx]; have:=o.pos; omega⟩
 ·by_cases hl:j<K3.length
  ·rw [Uu hl] at hj
   obtain⟨⟨i1,c1⟩,ha,he⟩:=Bi j _ hj
   obtain⟨w1,w2⟩:=o1.at_ _ _ _ ha
   cases c1 with
   | sl n z cs=>
    obtain⟨eS,h3,h4⟩:=he
    cases h4
    refine⟨⟨by rw [p6 h3]; exact w1.1,?_⟩,hidlt w2⟩
    rcases w1.2 with⟨h5,h6⟩| ⟨h5,rest,h6⟩
    ·left; subst h5; exact⟨rfl,h6⟩
    ·right
     refine⟨by rw [Fc h5]; omega,fi h.next rest,?_⟩
     rw [hget h5 h6,nz rest h3]
   | ob cs=>
    obtain⟨eS,h3,h4⟩:=he
    cases h4
    refine⟨⟨by rw [Fc w1.1]; have:=w1.1; omega,?_⟩,hidlt w2⟩
    rw [hget w1.1 w1.2]
    have:=nz [] h3
    rw [VC] at this
    rw [this]; simp [fi]
   | mp es=>exact he.elim
   | row t cs=>exact he.elim
  ·rw [Uz (by omega)] at hj
   obtain⟨w1,w2⟩:=o.at_ _ _ _ hj
   exact⟨nv (fun _=>(iS w2).1) w1,by rw [hnx]; omega⟩
 ·by_cases hl:j<K3.length<;>by_cases nF:j'<K3.length
  ·rw [Uu hl] at hj
   rw [Uu nF] at xJ
   obtain⟨⟨i1,c1⟩,ha,he⟩:=Bi j _ hj
   obtain⟨⟨i2,c2⟩,R0,R5⟩:=Bi j' _ xJ
   have e1:=u6 he
   have e2:=u6 R5
   have n1:i1≠0:=fun h0=>hi (by rw [e1,h0]; rfl)
   have n2:i2≠0:=fun h0=>hi (by rw [e2,h0]; rfl)
   rw [Fc n1] at e1
   rw [Fc n2] at e2
   have:i2=i1:=by omega
   subst this
   exact o1.nd _ _ _ _ _ ha R0 n1
  ·rw [Uu hl] at hj
   rw [Uz (by omega)] at xJ
   obtain⟨⟨i1,c1⟩,ha,he⟩:=Bi j _ hj
   have e1:=u6 he
   have n1:i1≠0:=fun h0=>hi (by rw [e1,h0]; rfl)
   rw [Fc n1] at e1
   have:=(o.at_ _ _ _ xJ).2
   omega
  ·rw [Uz (by omega)] at hj
   rw [Uu nF] at xJ
   obtain⟨⟨i1,c1⟩,ha,he⟩:=Bi j' _ xJ
   have e1:=u6 he
   have n1:i1≠0:=fun h0=>hi (by rw [e1,h0]; rfl)
   rw [Fc n1] at e1
   have:=(o.at_ _ _ _ hj).2
   omega
  ·rw [Uz (by omega)] at hj xJ
   have:=o.nd _ _ _ _ _ hj xJ hi
   omega
theorem pn (h h1:AHeap):∀j,j<h.next→h.ver j=(h.eB h1).ver j:=fun j hj=>(iS hj).2.symm
theorem sa {P:Program}{T:mS}{m f deep:Nat}{h h':AHeap}{xs ys:List AV}{r y:AV}(h1:T.intr f=none)(h2:T.pure f=some deep)(h3:T.eB f=true)(hd:gZ+bO≤deep)(hx:aO bO h xs ys)(hb:a6 P T.aV (iB P T m) m f ys bz=some (r,h'))(hg:cP h.next r=some y):iB P T m f xs h=some (y,h.eB h'):=by
 refine kx ?_
 simp only [p5,h1,h2,h3,if_true,hx deep hd,Ue,hb,hg,Uk]
theorem Gd {P:Program}{t:TypeId}{a b c d:Int}(h:∀a b c d:Int,lJ P .eql t (.agg [.int .i64 a,.int .i64 b]) (.agg [.int .i64 c,.int .i64 d])=some (.bool (fc (.agg [.int .i64 a,.int .i64 b]) (.agg [.int .i64 c,.int .i64 d])==true))) :
  lJ P .eql t (.agg [.int .i64 a,.int .i64 b]) (.agg [.int .i64 c,.int .i64 d])=some (.bool (a==c&&b==d)):=by
 rw [h]
 congr 2
 have:=kU [a,b] [c,d]
 have e:fc (.agg [.int .i64 a,.int .i64 b]) (.agg [.int .i64 c,.int .i64 d])=kK (af.l [a,b]) (af.l [c,d]):=rfl
 rw [e,this]
 by_cases h1:a=c<;>by_cases h2:b=d<;>simp [h1,h2]
theorem Has.wV {h:AHeap}{pre mid N L:Mem}(o:Has h (pre++(mid++(N++L)))):Has h (pre++(N++(mid++L))):=by
 refine o.perm (List.Perm.append_left _ ?_)
 rw [←Uv,←Uv]
 exact List.Perm.append_right _ List.perm_append_comm
def u7 (ns:List aq)(ids:List Nat)(j:Int)(ad:Nat):List Nat:=(uX ns ids).set j.toNat ad
theorem tK:∀(ns:List aq) (ids:List Nat),bE ns (uX ns ids)=bE ns ids
 | [],_=>rfl
 | a::ns,ids=>by
  have:=tK ns ids.tail
  simp only [uX,bE,UH,List.headD_cons,List.tail_cons] at this ⊢
  rw [this]
theorem tL:∀(ns:List aq) (ids:List Nat) (i:Nat) (n:aq) (ad:Nat),ns.length=ids.length→bE (ns.set i n) (ids.set i ad)=(bE ns ids).set i (n,ad)
 | [],_,_,_,_,_=>rfl
 | a::ns,[],_,_,_,h=>by simp at h
 | a::ns,j::ids,0,n,ad,_=>rfl
 | a::ns,j::ids,i+1,n,ad,h=>by
  have:=tL ns ids i n ad (by simpa using h)
  simp only [List.set_cons_succ,bE,List.headD_cons,List.tail_cons,this]
theorem tM (ns:List aq)(ids:List Nat)(j:Int)(n:aq)(ad:Nat):bE (ns.set j.toNat n) (u7 ns ids j ad)=(bE ns ids).set j.toNat (n,ad):=by
 unfold u7
 rw [tL ns (uX ns ids) j.toNat n ad (by unfold uX; rw [UB,fD]),tK]
section
variable {P:Program}{tf:TypeId}{h:AHeap}{pre L:Mem}{ns:List aq}{ids:List Nat}{i ad k n2 q:Nat}{j:Int}{n:aq}{args:List Int}
theorem Ge (o:Has h ((i,.sl k 4 (fW.l (bE ns ids)))::(ad,.sl n2 1 (af.l args))::(pre++(fQ ns ids++L))))(hs:eP P tf=some 1)(hx:ix ns j=some n) :
  ∃h',iH P h tf (.ptr i (0+j.toNat*4+3)) (.rs ad 0 n2 1)=some h'∧
   Has h' ((i,.sl k 4 (fW.l (bE (ns.set j.toNat ⟨n.kind,n.int,n.label,args⟩) (u7 ns ids j ad))))::(pre++(fQ (ns.set j.toNat ⟨n.kind,n.int,n.label,args⟩) (u7 ns ids j ad)++L))):=by
 have hn:n2=args.length:=cG (E:=af) o (q:=1) rfl
 subst hn
 obtain⟨h0,h1,h2⟩:=gG hx
 obtain⟨h',e,o'⟩:=FQ (P:=P) (tf:=tf) (E:=fW) (l:=bE ns ids) (q:=0) (off:=3) (v:=((⟨n.kind,n.int,n.label,args⟩:aq),ad)) (x:=.rs ad 0 args.length 1) o rfl hs (qW hx) rfl rfl (by decide) rfl
 refine⟨h',e,?_⟩
 have e1:(bE ns ids).set j.toNat ((⟨n.kind,n.int,n.label,args⟩:aq),ad)=bE (ns.set j.toNat ⟨n.kind,n.int,n.label,args⟩) (u7 ns ids j ad):=(tM ns ids j _ ad).symm
 have e2:fQ (ns.set j.toNat ⟨n.kind,n.int,n.label,args⟩) (u7 ns ids j ad)=(fQ ns ids).set j.toNat (yy (⟨n.kind,n.int,n.label,args⟩,ad)):=by
  unfold fQ; rw [tM,List.map_set]
 rw [←e1,e2]
 have o2:Has h' ((i,.sl k 4 (fW.l ((bE ns ids).set j.toNat ((⟨n.kind,n.int,n.label,args⟩:aq),ad))))::yy (⟨n.kind,n.int,n.label,args⟩,ad)::(pre++(fQ ns ids++L))):=o'
 have hl:j.toNat<(fQ ns ids).length:=by unfold fQ; rw [UB,fD]; omega
 have e3:(fQ ns ids).set j.toNat (yy (⟨n.kind,n.int,n.label,args⟩,ad))=(fQ ns ids).take j.toNat++yy (⟨n.kind,n.int,n.label,args⟩,ad)::(fQ ns ids).drop (j.toNat+1):=by
  rw [List.set_eq_take_append_cons_drop,if_pos hl]
 have e4:fQ ns ids=(fQ ns ids).take j.toNat++(fQ ns ids)[j.toNat]::(fQ ns ids).drop (j.toNat+1):=by
  conv=>lhs; rw [←Vp j.toNat (fQ ns ids),Us hl]
 rw [e3]
 generalize hA:(fQ ns ids).take j.toNat=A at *
 generalize hB:(fQ ns ids).drop (j.toNat+1)=B at *
 rw [e4] at o2
 have o3:=(o2.del (pre.length+A.length+2))
 have e5:((i,Ct.sl k 4 (fW.l ((bE ns ids).set j.toNat ((⟨n.kind,n.int,n.label,args⟩:aq),ad))))::yy (⟨n.kind,n.int,n.label,args⟩,ad)::(pre++((A++(fQ ns ids)[j.toNat]::B)++L))).eraseIdx (pre.length+A.length+2)=(i,Ct.sl k 4 (fW.l ((bE ns ids).set j.toNat ((⟨n.kind,n.int,n.label,args⟩:aq),ad))))::yy (⟨n.kind,n.int,n.label,args⟩,ad)::(pre++((A++B)++L)):=by
  show _::_::(pre++((A++(fQ ns ids)[j.toNat]::B)++L)).eraseIdx (pre.length+A.length)=_
  congr 2
  rw [List.eraseIdx_append_of_length_le (by omega),Vt,Uv,List.eraseIdx_append_of_length_le (by omega),VK]
  simp
 rw [e5] at o3
 refine o3.perm (List.Perm.cons _ ?_)
 have k1:pre++((A++yy ((⟨n.kind,n.int,n.label,args⟩:aq),ad)::B)++L)=(pre++A)++yy (⟨n.kind,n.int,n.label,args⟩,ad)::(B++L):=by simp
 have k2:pre++((A++B)++L)=(pre++A)++(B++L):=by simp
 rw [k1,k2]
 exact List.perm_middle
theorem mK:∀(ns:List aq) (ids:List Nat) (k:Nat),bE (ns.drop k) (ids.drop k)=(bE ns ids).drop k
 | ns,ids,0=>rfl
 | [],_,k+1=>by simp [bE]
 | a::ns,[],k+1=>by
  have:=mK ns [] k
  simpa [bE] using this
 | a::ns,j::ids,k+1=>by
  have:=mK ns ids k
  simpa [bE] using this
theorem DM (o:Has h (pre++(fQ (ns.drop j.toNat) (ids.drop j.toNat)++L)))(hq:pre[q]? = some (i,.sl k 4 (fW.l (bE ns ids))))(hx:ix ns j=some n) :
  Has h ((JA ids j,.sl n.args.length 1 (af.l n.args))::(pre++(fQ (ns.drop (IntKind.i64.wrap (j+(1:Int))).toNat) (ids.drop (IntKind.i64.wrap (j+(1:Int))).toNat)++L))):=by
 obtain⟨h0,h1,h2⟩:=gG hx
 have R6:q<pre.length:=(Ul.1 hq).1
 have uw:(pre++(fQ (ns.drop j.toNat) (ids.drop j.toNat)++L))[q]? = some (i,.sl k 4 (fW.l (bE ns ids))):=by rw [Uu R6]; exact hq
 obtain⟨⟨⟨_,qg⟩,_⟩,_⟩:=o.at_ _ _ _ uw
 have qg:(fW.l (bE ns ids)).length≤1125899906842624:=qg
 rw [bJ.bL,fD] at qg
 have qg:ns.length*4≤1125899906842624:=qg
 have hw:(IntKind.i64.wrap (j+(1:Int))).toNat=j.toNat+1:=by
  have hm:(j+1) % 18446744073709551616=j+1:=Int.emod_eq_of_lt (by omega) (by omega)
  have:IntKind.i64.wrap (j+(1:Int))=j+1:=by
   show (if true&&decide ((j+1) % 18446744073709551616≥9223372036854775808) then (j+1) % 18446744073709551616 - 18446744073709551616 else (j+1) % 18446744073709551616)=j+1
   rw [hm]
   have:decide (j+1≥9223372036854775808)=false:=by rw [decide_eq_false_iff_not]; omega
   rw [this]; rfl
  rw [this]; omega
 rw [hw]
 have e:fQ (ns.drop j.toNat) (ids.drop j.toNat)=(JA ids j,.sl n.args.length 1 (af.l n.args))::fQ (ns.drop (j.toNat+1)) (ids.drop (j.toNat+1)):=by
  unfold fQ
  rw [mK,mK]
  have hz:=rZ ns ids _ _ h2
  have hl:j.toNat<(bE ns ids).length:=by rw [fD]; omega
  rw [Us hl]
  have:(bE ns ids)[j.toNat]=(n,ids.getD j.toNat 0):=(Ul.1 hz).2
  rw [this]
  rfl
 rw [e] at o
 refine o.perm ?_
 exact List.perm_middle.symm
end
end Go.R
namespace Go.Proofs.Ytifafejidnjckaa
open Go Go.R
open Go.IntKind (i64 u64 u8 u32)
structure aJ where
 cK:Int
 po:Int
 u9:Int
 di:ByteArray
 ec:List Int
 nA:bu
structure ab where
 aj:Bool
 aa:List aq
 ae:List Int
structure aZ where
 jH:Int
 kI:Int
def aQ:bJ aJ:={n:=7,f:=fun x=>[.int .i64 x.cK,.int .i64 x.po,.int .i64 x.u9,.str x.di,af.fz x.ec,ai.fz x.nA.nodes,.int .i64 x.nA.root],len:=fun _=>rfl,pos:=by decide,pure:=fun x _=>pure_cons dp (pure_cons dp (pure_cons dp (pure_cons jB (pure_cons bJ.bw (pure_cons bJ.bw (pure_cons dp (pure_nil))))))),canon:=fun _=>rfl}
def dE:bJ aZ:={n:=2,f:=fun x=>[.int .i64 x.jH,.int .i64 x.kI],len:=fun _=>rfl,pos:=by decide,pure:=fun x _=>pure_cons dp (pure_cons dp (pure_nil)),canon:=fun _=>rfl}
theorem LQ:wE Try.prog 22 7 96=true:=by kernel_rfl
theorem gx:wE Try.prog 33 1 8=true:=by kernel_rfl
theorem xM:wE Try.prog 40 4 56=true:=by kernel_rfl
theorem Nt:wE Try.prog 93 2 16=true:=by kernel_rfl
theorem A3:fH Try.prog 3=some false:=by kernel_rfl
theorem R7:fH Try.prog 33=some false:=by kernel_rfl
theorem PI:fH Try.prog 40=some false:=by kernel_rfl
theorem R8:fH Try.prog 44=some true:=by kernel_rfl
theorem Fj:fH Try.prog 51=some true:=by kernel_rfl
theorem Z3:eP Try.prog 3=some 1:=by kernel_rfl
theorem R9:eP Try.prog 33=some 1:=by kernel_rfl
theorem Sa:eP Try.prog 44=some 7:=by kernel_rfl
theorem Fk:eP Try.prog 51=some 4:=by kernel_rfl
theorem U9:Try.prog.underlying 9=some .string:=by kernel_rfl
theorem KF:wK Try.prog 82=true:=by kernel_rfl
theorem zM:wL Try.prog 113 9=true:=by kernel_rfl
theorem DN:Try.prog.underlying 113=some (.map 115 3):=by kernel_rfl
theorem tN:BK Try.prog 115 9=true:=by kernel_rfl
theorem Nu:Nr Try.prog 33=true:=by kernel_rfl
theorem Nv:∀a b c d:Int,lJ Try.prog .eql 92 (.agg [.int .i64 a,.int .i64 b]) (.agg [.int .i64 c,.int .i64 d])=some (.bool (fc (.agg [.int .i64 a,.int .i64 b]) (.agg [.int .i64 c,.int .i64 d])==true)):=by
 intro a b c d
 kernel_rfl
def cz.f (m:Nat):Option Bool:=some true
def PJ (cf:CallF)(m:Nat):Prop:=∀r:Bool,cz.f m=some r→∀h xs,aO bO h xs []→cf 11 xs h=some (.bool r,h)
def PK (cf:CallF)(m:Nat):Prop:=DB cf 39 1
def PL (cf:CallF)(m:Nat):Prop:=Hd cf 60
end Go.Proofs.Ytifafejidnjckaa
namespace Go.Proofs.Ytifafejidnjckaa
open Go Go.R
open Go.IntKind (i64 u64 u8 u32)
def wW:bY:=gK [0,2,3,7,26] [] [30,26,18,26,10,29,29] [] []
def bp.l0 (m:Nat)(l0:List aJ):Nat→Int→Option (Sum Bool (Int))
 | 0,_=>none
 | k+1,i0=>if (decide (i0<(l0.length:Int)))=true then ((ix l0 i0).bind fun v0=>if (decide ((v0.nA.nodes.length:Int) > (40:Int)))=true then (some (.inl true)) else ((ix l0 i0).bind fun v1=>if (decide ((v1.ec.length:Int) > (40:Int)))=true then (some (.inl true)) else (bp.l0 m l0 k (i64.wrap (i0+(1:Int)))))) else (some (.inr i0))
def bp.f (m:Nat)(l0:List aJ):Option (Bool):=(bp.l0 m l0 m (0:Int)).bind fun b6=>match b6 with | .inl r0=>some r0 | .inr i1=>some (decide ((l0.length:Int) > (60:Int)))
def bp.fin (L:Mem)(r:Bool)(s:St):Prop:=∃av,aM Try.prog (s.open wW) Try.f10.results.toList=some av∧ff s.h av (.bool r)
def PM (cf:CallF)(m:Nat):Prop:=∀(l0:List aJ) (r:Bool),bp.f m l0=some r→∀h xs,aO bO h xs [aQ.fz l0]→cf 10 xs h=some (.bool r,h)
section
variable {cf:CallF}{m:Nat}
theorem bp.dF (L:Mem)(l0:List aJ)   : dZ Try.prog cf wW m (sub [1,0,1,0,0] (b8 Try.f10)) (fun k (σ:Int)=>bp.l0 m l0 k σ) (fun σ s=>match σ with | i0=>∃h0,s=⟨[aQ.fz l0,.any,.int .i64 i0,.any,.any],[],h0⟩∧Has h0 (L)) (fun out e s=>(e = .exit 0∧∃i0,.inr i0=out∧∃Gf Gg h0,s=⟨[aQ.fz l0,.any,Gf,Gg,.any],[],h0⟩∧Has h0 (L))∨(e = .ret∧∃r,.inl r=out∧bp.fin L r s)):=by
 refine mI (fun _=>rfl) ?_
 rintro k i0 s out ⟨h0,rfl,o0⟩ H
 have H:bp.l0 m l0 (k+1) i0=some out:=H
 refine qq <| qq <| q0 <| qc H (fun c0 H=>?_) (fun c0 H=>?_)
 ·refine qk <| qq <| qb 1 <| qq ?_
  obtain⟨v0,e0,H⟩:=bj H
  rcases iw H with⟨c1,H⟩| ⟨c1,H⟩
  ·exact qr [.v 2 (fV (k:=.i64) (E:=aQ) (l:=l0) LQ e0),.v 5 (rQ  (E:=aQ) (l:=l0) (off:=5) h0 PI e0 rfl),.b 8 c1] <| Ku <| qq <| q0 <| qt <| Or.inr (⟨rfl,_,oi H,dA (.bool true) h0 (dz (aD))⟩)
  ·obtain⟨v1,e1,H⟩:=bj H
   refine qr [.v 2 (fV (k:=.i64) (E:=aQ) (l:=l0) LQ e0),.v 5 (rQ  (E:=aQ) (l:=l0) (off:=5) h0 PI e0 rfl),.b 8 c1,.v 11 (fV (k:=.i64) (E:=aQ) (l:=l0) LQ e1),.v 13 (rQ  (E:=aQ) (l:=l0) (off:=4) h0 R7 e1 rfl)] <| qc H (fun c3 H=>?_) (fun c3 H=>?_)
   ·exact q1 <| qt <| Or.inr (⟨rfl,_,oi H,dA (.bool true) h0 (dz (aD))⟩)
   ·exact qk <| q0 <| ⟨i64.wrap (i0+(1:Int)),⟨h0,by kernel_rfl,o0⟩,H⟩
 ·exact qx 0 <| Or.inl (⟨rfl,i0,oi H,.int .i64 i0,.bool (decide (i0<(l0.length:Int))),h0,by kernel_rfl,o0⟩)
theorem pq {aV:FuncId→bY}(ha:aV 10=wW)  (l0:List aJ)(h:AHeap)(L:Mem)  (o:Has h (L)){out:Bool}(H:bp.f m l0=some out) :
  ∃r h',a6 Try.prog aV cf m 10 [aQ.fz l0] h=some (r,h')∧ff h' r (.bool out):=by
 refine ar (fn:=Try.f10) ha Try.func10 (by kernel_rfl) (by kernel_rfl) ?_
 refine aH (Q:=fun s=>bp.fin L out s) (fun _ _ h=>h) ?_
 have H:_=some out:=H
 unfold bp.f at H
 show dn _ cf wW m _ ⟨aQ.fz l0::nw [],[],h⟩ _
 refine q1 <| qq <| qq <| q0 <| qb 0 ?_
 obtain⟨b6,e2,H⟩:=bj H
 refine ql (bp.dF L l0   (0:Int) _ _ ⟨h,by kernel_rfl,o⟩ e2) ?_
 rintro e s (⟨rfl,i1,rfl,g0,g1,h1,rfl,o1⟩| ⟨rfl,r0,rfl,yC⟩)
 ·try dsimp only at H
  obtain rfl:=oi H
  exact q1 <| qt <| ⟨.inl rfl,dA (.bool (decide ((l0.length:Int) > (60:Int)))) h1 (dz (aD))⟩
 ·try dsimp only at H
  obtain rfl:=oi H
  exact⟨.inl rfl,yC⟩
end
end Go.Proofs.Ytifafejidnjckaa
namespace Go.Proofs.Ytifafejidnjckaa
open Go Go.R
open Go.IntKind (i64 u64 u8 u32)
def wX:bY:=gK [0,1,4,5,10,14,25] [] [124,108,123,116,84,116,52,123,123] [] []
def bU.l0 (m:Nat)(a0:List Int)(b0:List Int):Nat→Int→Option (Sum Bool (Int))
 | 0,_=>none
 | k+1,i0=>if (decide (i0<(a0.length:Int)))=true then ((ix a0 i0).bind fun v0=>(ix b0 i0).bind fun v1=>if (!(v0==v1))=true then (some (.inl false)) else (bU.l0 m a0 b0 k (i64.wrap (i0+(1:Int))))) else (some (.inr i0))
def bU.f (m:Nat)(a0:List Int)(b0:List Int):Option (Bool):=if (!((a0.length:Int)==(b0.length:Int)))=true then (some false) else ((bU.l0 m a0 b0 m (0:Int)).bind fun b6=>match b6 with | .inl r0=>some r0 | .inr i1=>some true)
def bU.fin (L:Mem)(r:Bool)(s:St):Prop:=∃av,aM Try.prog (s.open wX) Try.f14.results.toList=some av∧ff s.h av (.bool r)
def PN (cf:CallF)(m:Nat):Prop:=∀(a0:List Int) (b0:List Int) (r:Bool),bU.f m a0 b0=some r→∀h xs,aO bO h xs [af.fz a0,af.fz b0]→cf 14 xs h=some (.bool r,h)
section
variable {cf:CallF}{m:Nat}
theorem bU.dF (L:Mem)(a0:List Int)(b0:List Int)   : dZ Try.prog cf wX m (sub [1,1,0,1,0,0] (b8 Try.f14)) (fun k (σ:Int)=>bU.l0 m a0 b0 k σ) (fun σ s=>match σ with | i0=>∃h0,s=⟨af.fz a0::af.fz b0 :: .any :: .int .i64 i0::sI [],[],h0⟩∧Has h0 (L)) (fun out e s=>(e = .exit 0∧∃i0,.inr i0=out∧∃ow yD KG DO h0,s=⟨[ow,yD,.any,KG,.any,DO,.any],[],h0⟩∧Has h0 (L))∨(e = .ret∧∃r,.inl r=out∧bU.fin L r s)):=by
 refine mI (fun _=>rfl) ?_
 rintro k i0 s out ⟨h0,rfl,o0⟩ H
 have H:bU.l0 m a0 b0 (k+1) i0=some out:=H
 refine qq <| qq <| q0 <| qc H (fun c1 H=>?_) (fun c1 H=>?_)
 ·refine qk <| qq <| qb 1 <| qq ?_
  obtain⟨v0,e0,H⟩:=bj H
  obtain⟨v1,e1,H⟩:=bj H
  refine qr [.v 2 (fV (k:=.i64) (E:=af) (l:=a0) gx e0),.v 3 (iI  (E:=af) (l:=a0) h0 A3 e0 rfl),.v 6 (fV (k:=.i64) (E:=af) (l:=b0) gx e1),.v 7 (iI  (E:=af) (l:=b0) h0 A3 e1 rfl)] <| qc H (fun c2 H=>?_) (fun c2 H=>?_)
  ·exact q1 <| qt <| Or.inr (⟨rfl,_,oi H,dA (.bool false) h0 (dz (aD))⟩)
  ·exact qk <| q0 <| ⟨i64.wrap (i0+(1:Int)),⟨h0,by kernel_rfl,o0⟩,H⟩
 ·exact qx 0 <| Or.inl (⟨rfl,i0,oi H,af.fz a0,af.fz b0,.int .i64 i0,.bool (decide (i0<(a0.length:Int))),h0,by kernel_rfl,o0⟩)
theorem qp {aV:FuncId→bY}(ha:aV 14=wX)  (a0:List Int)(b0:List Int)(h:AHeap)(L:Mem)  (o:Has h (L)){out:Bool}(H:bU.f m a0 b0=some out) :
  ∃r h',a6 Try.prog aV cf m 14 [af.fz a0,af.fz b0] h=some (r,h')∧ff h' r (.bool out):=by
 refine ar (fn:=Try.f14) ha Try.func14 (by kernel_rfl) (by kernel_rfl) ?_
 refine aH (Q:=fun s=>bU.fin L out s) (fun _ _ h=>h) ?_
 have H:_=some out:=H
 unfold bU.f at H
 show dn _ cf wX m _ ⟨af.fz a0::af.fz b0::Fi [],[],h⟩ _
 refine q1 <| qq <| qq <| q0 <| qc H (fun c0 H=>?_) (fun c0 H=>?_)
 ·obtain rfl:=oi H
  exact q1 <| qt <| ⟨.inl rfl,dA (.bool false) h (dz (aD))⟩
 ·refine qk <| qq <| qq <| q0 <| qb 0 ?_
  obtain⟨b6,e2,H⟩:=bj H
  refine ql (bU.dF L a0 b0   (0:Int) _ _ ⟨h,by kernel_rfl,o⟩ e2) ?_
  rintro e s (⟨rfl,i1,rfl,g0,g1,g2,g3,h1,rfl,o1⟩| ⟨rfl,r0,rfl,yC⟩)
  ·try dsimp only at H
   obtain rfl:=oi H
   exact q1 <| qt <| ⟨.inl rfl,dA (.bool true) h1 (dz (aD))⟩
  ·try dsimp only at H
   obtain rfl:=oi H
   exact⟨.inl rfl,yC⟩
end
end Go.Proofs.Ytifafejidnjckaa
namespace Go.Proofs.Ytifafejidnjckaa
open Go Go.R
open Go.IntKind (i64 u64 u8 u32)
end Go.Proofs.Ytifafejidnjckaa
namespace Go.Proofs.Ytifafejidnjckaa
open Go Go.R
open Go.IntKind (i64 u64 u8 u32)
def zN:bY:=gK [0] [14000000001] [1] [] []
def iL.f (m:Nat)  : Option (ab):=some (ab.mk true ([]:List aq) ([]:List Int))
def iL.fin (L:Mem)  (r:ab)(s:St):Prop:=∃eT fY fZ:Nat,aM Try.prog (s.open zN) Try.f26.results.toList=some (.ptr eT 0)∧Has s.h ((eT,.ob [.bool r.aj,.rs fY 0 r.aa.length 4,.rs fZ 0 r.ae.length 1])::(fY,.sl r.aa.length 4 (ai.l r.aa))::(fZ,.sl r.ae.length 1 (af.l r.ae))::L)
def PO (cf:CallF)(m:Nat):Prop:=∀ (r:ab),iL.f m  = some r→∀h L,Has h (L)→∀xs,xs.map aL=[]→∃eT fY fZ h',cf 26 xs h=some (.ptr eT 0,h')∧Has h' ((eT,.ob [.bool r.aj,.rs fY 0 r.aa.length 4,.rs fZ 0 r.ae.length 1])::(fY,.sl r.aa.length 4 (ai.l r.aa))::(fZ,.sl r.ae.length 1 (af.l r.ae))::L)
section
variable {cf:CallF}{m:Nat}
theorem sb {aV:FuncId→bY}(ha:aV 26=zN)   (h:AHeap)(L:Mem)  (o:Has h (L)){out:ab}(H:iL.f m  = some out) :
  ∃r h',a6 Try.prog aV cf m 26 [] h=some (r,h')∧∃eT fY fZ:Nat,r = .ptr eT 0∧Has h' ((eT,.ob [.bool out.aj,.rs fY 0 out.aa.length 4,.rs fZ 0 out.ae.length 1])::(fY,.sl out.aa.length 4 (ai.l out.aa))::(fZ,.sl out.ae.length 1 (af.l out.ae))::L):=by
 refine ar (fn:=Try.f26) ha Try.func26 (by kernel_rfl) (by kernel_rfl) ?_
 refine aH (Q:=fun s=>iL.fin L out s) (fun _ _ ⟨h1,eT,fY,fZ,h2,h3⟩=>⟨h1,_,h2,eT,fY,fZ,rfl,h3⟩) ?_
 have H:_=some out:=H
 unfold iL.f at H
 show dn _ cf zN m _ ⟨[.any],[none],h⟩ _
 refine q1 <| qq ?_
 have o0:Has h (((0),.sl (([]:List aq).length) 4 (ai.l ([]:List aq)))::L):=Has.nil o 4
 have o1:Has h ((((0)),.sl (([]:List Int).length) 1 (af.l ([]:List Int)))::((0),.sl (([]:List aq).length) 4 (ai.l ([]:List aq)))::L):=Has.nil o0 1
 obtain⟨aI,h0,e0,o2⟩:=gg (cs:=[.bool true,.rs (0) 0 (([]:List aq).length) 4,.rs ((0)) 0 (([]:List Int).length) 1]) o1 (by kernel_rfl)
 obtain rfl:=oi H
 exact qr [.a 1 e0] <| qt <| ⟨.inl rfl,⟨aI,(0),((0)),by kernel_rfl,he (Has.front (Has.front (Has.front o2 1 rfl) 2 rfl) 2 rfl)⟩⟩
end
end Go.Proofs.Ytifafejidnjckaa
namespace Go.Proofs.Ytifafejidnjckaa
open Go Go.R
open Go.IntKind (i64 u64 u8 u32)
def wY:bY:=gK [0,1,5,6,7,8,9] [] [70,6,66,70,70] [] []
def ba.l0 (m:Nat)(aF:List Int):Nat→Int→ab→Option (Int × ab)
 | 0,_,_=>none
 | k+1,x0,s1=>if (decide (x0<(aF.length:Int)))=true then ((ix aF x0).bind fun v0=>(ix s1.ae v0).bind fun v1=>ba.l0 m aF k (i64.wrap (x0+(1:Int))) (ab.mk s1.aj s1.aa (s1.ae.set v0.toNat v0))) else (some ((x0,s1)))
def ba.f (m:Nat)(s0:ab)(aF:List Int):Option (ab):=(ba.l0 m aF m (0:Int) s0).bind fun b6=>match b6 with | (x1,s2)=>some s2
def ba.fin (L:Mem)(ao:Nat)(ak:Nat)(an:Nat)(s0:ab)(aF:List Int)(r:ab)(s:St):Prop:=∃aB aC:Nat,aM Try.prog (s.open wY) Try.f32.results.toList=some (.tup [])∧Has s.h ((ao,.ob [.bool r.aj,.rs aB 0 r.aa.length 4,.rs aC 0 r.ae.length 1])::(aB,.sl r.aa.length 4 (ai.l r.aa))::(aC,.sl r.ae.length 1 (af.l r.ae))::L)
def Nw (cf:CallF)(m:Nat):Prop:=∀(s0:ab) (aF:List Int) (r:ab),ba.f m s0 aF=some r→∀h L (ao:Nat) (ak:Nat) (an:Nat),Has h ((ao,.ob [.bool s0.aj,.rs ak 0 s0.aa.length 4,.rs an 0 s0.ae.length 1])::(ak,.sl s0.aa.length 4 (ai.l s0.aa))::(an,.sl s0.ae.length 1 (af.l s0.ae))::L)→∀xs,xs.map aL=[.ptr ao 0,af.fz aF]→∃aB aC h',cf 32 xs h=some (.tup [],h')∧Has h' ((ao,.ob [.bool r.aj,.rs aB 0 r.aa.length 4,.rs aC 0 r.ae.length 1])::(aB,.sl r.aa.length 4 (ai.l r.aa))::(aC,.sl r.ae.length 1 (af.l r.ae))::L)
section
variable {cf:CallF}{m:Nat}
theorem ba.dF (L:Mem)(ao:Nat)(ak:Nat)(an:Nat)(s0:ab)(aF:List Int)   : dZ Try.prog cf wY m (sub [1,0,0] (b8 Try.f32)) (fun k (σ:Int × ab)=>ba.l0 m aF k σ.1 σ.2) (fun σ s=>match σ with | (x0,s1)=>∃aI eh h0,s=⟨[.ptr ao 0,.any,.any,af.fz aF,.int .i64 (aF.length:Int),.int .i64 x0,.any],[],h0⟩∧Has h0 ((ao,.ob [.bool s1.aj,.rs aI 0 s1.aa.length 4,.rs eh 0 s1.ae.length 1])::(aI,.sl s1.aa.length 4 (ai.l s1.aa))::(eh,.sl s1.ae.length 1 (af.l s1.ae))::L)) (fun out e s=>(e = .exit 0∧∃x0 s1,(x0,s1)=out∧∃ow Gh Gg BS BT aI eh h0,s=⟨[ow,.any,.any,Gh,Gg,BS,BT],[],h0⟩∧Has h0 ((ao,.ob [.bool s1.aj,.rs aI 0 s1.aa.length 4,.rs eh 0 s1.ae.length 1])::(aI,.sl s1.aa.length 4 (ai.l s1.aa))::(eh,.sl s1.ae.length 1 (af.l s1.ae))::L))):=by
 refine mI (fun _=>rfl) ?_
 rintro k ⟨x0,s1⟩ s out ⟨aI,eh,h0,rfl,o0⟩ H
 have H:ba.l0 m aF (k+1) x0 s1=some out:=H
 refine q1 <| qq <| qc H (fun c0 H=>?_) (fun c0 H=>?_)
 ·refine qk <| qq <| qb 1 <| qq ?_
  obtain⟨v0,e0,H⟩:=bj H
  refine qr [.v 0 (fV (k:=.i64) (E:=af) (l:=aF) gx e0),.v 1 (iI  (E:=af) (l:=aF) h0 A3 e0 rfl)] ?_
  obtain⟨v1,e1,H⟩:=bj H
  obtain⟨h1,e2,o1⟩:=fo (P:=Try.prog) (tf:=3) (E:=af) (l:=s1.ae) (q:=2) (v:=v0) (x:=.int .i64 v0) o0 rfl Z3 e1 rfl rfl
  exact qr [.v 3 (show bl Try.prog h0 33 (.ptr ao 2)=some (.rs eh 0 s1.ae.length 1) from bX (q:=0) (cs:=[.bool s1.aj,.rs aI 0 s1.aa.length 4,.rs eh 0 s1.ae.length 1]) o0 rfl (by kernel_rfl)),.v 6 (bn (k:=.i64) (E:=af) (l:=s1.ae) (q:=2) gx o0 rfl e1),.w 7 e2] <| q0 <| ⟨(i64.wrap (x0+(1:Int)),(ab.mk s1.aj s1.aa (s1.ae.set v0.toNat v0))),⟨aI,eh,h1,(VL (b:=⟨[.ptr ao 0,.any,.any,af.fz aF,.int .i64 (aF.length:Int),.int .i64 (i64.wrap (x0+(1:Int))),.any],[],h1⟩) (by kernel_rfl) (by simp only [Uq])),(by have o:Has h1 ((ao,.ob [.bool s1.aj,.rs aI 0 s1.aa.length 4,.rs eh 0 s1.ae.length 1])::(aI,.sl s1.aa.length 4 (ai.l s1.aa))::(eh,.sl s1.ae.length 1 (af.l (s1.ae.set v0.toNat v0)))::L):=o1; simpa only [Uq] using o)⟩,H⟩
 ·exact qx 0 <| ⟨rfl,x0,s1,oi H,.ptr ao 0,af.fz aF,.int .i64 (aF.length:Int),.int .i64 x0,.bool (decide (x0<(aF.length:Int))),aI,eh,h0,by kernel_rfl,o0⟩
theorem lz {aV:FuncId→bY}(ha:aV 32=wY)  (s0:ab)(aF:List Int)(h:AHeap)(L:Mem)(ao:Nat)(ak:Nat)(an:Nat)  (o:Has h ((ao,.ob [.bool s0.aj,.rs ak 0 s0.aa.length 4,.rs an 0 s0.ae.length 1])::(ak,.sl s0.aa.length 4 (ai.l s0.aa))::(an,.sl s0.ae.length 1 (af.l s0.ae))::L)){out:ab}(H:ba.f m s0 aF=some out) :
  ∃r h',a6 Try.prog aV cf m 32 [.ptr ao 0,af.fz aF] h=some (r,h')∧∃aB aC:Nat,r = .tup []∧Has h' ((ao,.ob [.bool out.aj,.rs aB 0 out.aa.length 4,.rs aC 0 out.ae.length 1])::(aB,.sl out.aa.length 4 (ai.l out.aa))::(aC,.sl out.ae.length 1 (af.l out.ae))::L):=by
 refine ar (fn:=Try.f32) ha Try.func32 (by kernel_rfl) (by kernel_rfl) ?_
 refine aH (Q:=fun s=>ba.fin L ao ak an s0 aF out s) (fun _ _ ⟨h1,aB,aC,h2,h3⟩=>⟨h1,_,h2,aB,aC,rfl,h3⟩) ?_
 have H:_=some out:=H
 unfold ba.f at H
 show dn _ cf wY m _ ⟨.ptr ao 0::af.fz aF::Fi [],[],h⟩ _
 refine q1 <| qb 0 ?_
 obtain⟨b6,e3,H⟩:=bj H
 refine ql (ba.dF L ao ak an s0 aF   ((0:Int),s0) _ _ ⟨ak,an,h,by kernel_rfl,o⟩ e3) ?_
 rintro e s ⟨rfl,x1,s2,rfl,g0,g1,g2,g3,g4,eO,dG,h2,rfl,o2⟩
 try dsimp only at H
 obtain rfl:=oi H
 exact⟨.inr rfl,⟨eO,dG,by kernel_rfl,he o2⟩⟩
end
end Go.Proofs.Ytifafejidnjckaa
namespace Go.Proofs.Ytifafejidnjckaa
open Go Go.R
open Go.IntKind (i64 u64 u8 u32)
def zO:bY:=gK [0,2] [] [2,1] [] []
def bA.f (m:Nat)(s0:ab):Option (Bool):=some s0.aj
def bA.fin (L:Mem)(r:Bool)(s:St):Prop:=∃av,aM Try.prog (s.open zO) Try.f37.results.toList=some av∧ff s.h av (.bool r)
def KH (cf:CallF)(m:Nat):Prop:=∀(s0:ab) (r:Bool),bA.f m s0=some r→∀h xs,aO bO h xs [.fp [.bool s0.aj,ai.fz s0.aa,af.fz s0.ae] 0]→cf 37 xs h=some (.bool r,h)
section
variable {cf:CallF}{m:Nat}
theorem lA {aV:FuncId→bY}(ha:aV 37=zO)  (s0:ab)(h:AHeap)(L:Mem)  (o:Has h (L)){out:Bool}(H:bA.f m s0=some out) :
  ∃r h',a6 Try.prog aV cf m 37 [.fp [.bool s0.aj,ai.fz s0.aa,af.fz s0.ae] 0] h=some (r,h')∧ff h' r (.bool out):=by
 refine ar (fn:=Try.f37) ha Try.func37 (by kernel_rfl) (by kernel_rfl) ?_
 refine aH (Q:=fun s=>bA.fin L out s) (fun _ _ h=>h) ?_
 have H:_=some out:=H
 unfold bA.f at H
 show dn _ cf zO m _ ⟨[.fp [.bool s0.aj,ai.fz s0.aa,af.fz s0.ae] 0,.any],[],h⟩ _
 obtain rfl:=oi H
 exact q1 <| qq <| q0 <| qt <| ⟨.inl rfl,dA (.bool s0.aj) h (dz (aD))⟩
end
end Go.Proofs.Ytifafejidnjckaa
