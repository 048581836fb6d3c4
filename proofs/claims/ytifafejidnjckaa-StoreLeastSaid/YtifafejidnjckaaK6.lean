/- Part of the proof: RBuf1, RBuf2, RBuf3, RBuf4, RBuf5, RG9, RFix, RGN, RGL, RSrt, RGS, RGC, RPT, RDV, RMB, RGR, QW, Q10, Q14, Q25, Q26, Q32, Q37. -/
import Derived.Test.YtifafejidnjckaaK5
import Derived.Shelf.LaysM
import Derived.Shelf.Bytes.GrowAt
import Derived.Lib.ByteType
import Derived.Lib.BufferAt
import Derived.Lib.BufferKept
import Derived.Lib.Walk
import Derived.Lib.BufferWrite
import Derived.Lib.Hide
import Derived.WalkKit
import Derived.BigCall
import Derived.BigGuard
import Derived.KernelRfl
import Derived.Shelf.Sort.Plain
import Derived.Shelf.Slices.In.SortNone
import Derived.Shelf.Slices.CompactI
import Derived.Test.YtifafejidnjckaaProg
set_option linter.unusedVariables false
set_option linter.unusedSimpArgs false
set_option maxRecDepth 100000
open Array renaming getElem?_eq_some_iff → U1, getElem?_modify → Vy
open Bool renaming and_eq_true → Ux, false_eq_true → UE, not_true → Vu, true_and → V5
open Eq renaming trans → V4
open Int renaming toNat_natCast → UG
open List renaming getElem?_eq_some_iff → UA, getElem?_eq_getElem → UC, length_append → UD, length_set → UF, drop_eq_getElem_cons → UH, length_cons → UI, getElem?_append_left → UJ, append_assoc → UK, replicate → UL, mem_of_getElem? → UM, all_eq_true → UN, getElem?_append_right → UO, length_map → UQ, mem_cons → UT, mem_singleton → UU, length_nil → UW, map_cons → UX, mem_append → UZ, map_append → U0, take_append_of_le_length → U4, cons_append → U6, nil_append → U7, take_of_length_le → Va, eq_nil_of_length_eq_zero → Vb, getElem?_cons_zero → Vc, drop_zero → Vd, mem_append_left → Vo, getElem?_map → Vv, length_take → Vz, getElem?_of_mem → VA, getElem?_cons_succ → VB, take_append_drop → VF, append_nil → VT
open Nat renaming le_refl → Uy, zero_add → UR, beq → U5, lt_succ_self → Vh, le_trans → Vj, mul_le_mul_right → Vm, le_succ → VD, lt_succ_of_lt → VI, add_sub_cancel_left → VJ, ble → VP, min_eq_left → VQ, zero_lt_one → VS, sub_self → V3
open Option renaming bind_eq_some_iff → Ut, bind_some → Uu, map_eq_some_iff → Uv, map_some → Uz, getD_some → Vp
open Option.some renaming injEq → Uw, inj → Vf
open Prod.mk renaming injEq → UB
namespace Go.R
open Go Go.Proofs Go.Shelf Go.RowKit
variable {P:Program}{ρ:Ren}
end Go.R
namespace Go.R
open Go Go.Proofs Go.Shelf Go.RowKit
variable {P:Program}{ρ:Ren}
end Go.R
namespace Go.R
open Go Go.Proofs Go.Shelf Go.RowKit
variable {P:Program}{ρ:Ren}
end Go.R
namespace Go.R
open Go Go.Proofs Go.Shelf Go.RowKit
theorem Fr.none {c:Cx}{L0:Nat→Prop}(hrel:HRel c L0):Fr L0 c none0 (fun _=>0) [] ⟨fun _=>.any,fun _=>none,c.h⟩ ⟨#[],[]⟩:=
 ⟨rfl,by rw [show un L0 none0=L0 from by funext b; simp [un,none0]]; exact hrel,fun t=>by simp [SR,VR],fun k cs h=>(by cases h),fun k k' h=>(by cases h),fun t k off _ h=>(by cases h),rfl,fun b h=>h.elim⟩
end Go.R
namespace Go.R
open Go Go.Proofs Go.Shelf Go.RowKit
theorem intr_cons {P:Program}{f0:FuncId}{g0:List AV→AHeap→Option (AV × AHeap)}{intr:FuncId→Option (List AV→AHeap→Option (AV × AHeap))}(h0:CallOK P fun f' args h=>if f'=f0 then g0 args h else none)
  (hs:∀args h r h',g0 args h=some (r,h')→Steady h h') (h:IntrOK P intr):IntrOK P fun f=>if f=f0 then some g0 else intr f:=by
 intro f g hg
 dsimp only at hg
 split at hg
 ·rename_i hf
  subst hf
  cases hg
  exact⟨h0,hs⟩
 ·exact h f g hg
end Go.R
namespace Go.R
open Go
section
variable {h:AHeap}{L:Mem}{e:TypeId}{id i:Nat}{bs news r:List Int}{c:Int}{s:ByteArray}
variable {cf:CallF}{f:FuncId}
end
def jn {α β:Type}(b:α→Option β)(a:(α→Option β)→Option β):Option β:=a b
theorem mN {α β:Type}{b:α→Option β}{a:(α→Option β)→Option β}{out:β}(H:jn b a=some out):∃j:α→Option β,(∀x,j x=b x)∧a j=some out:=⟨b,fun _=>rfl,H⟩
section
variable {P:Program}{cf:CallF}{A:bX}{m:Nat}{s:St}{Q:Ex→St→Prop}
theorem er {c:Code}(fs:List (AV × AHeap))(zs:Fx)(iW:St)(p:Prop)(h:l9 P cf A c fs zs s=some (p,iW))(hp:p)(hQ:Q .norm iW):dj P cf A m c s Q:=wH h hp hQ
end
theorem bj {α β:Type}{o:Option α}{f:α→Option β}{b:β}(h:o.bind f=some b):∃a,o=some a∧f a=some b:=Ut.1 h
theorem Sa {α:Type}{c:Bool}{a b z:α}(h:c=true)(H:(if c=true then a else b)=z):a=z:=(if_pos h).symm.trans H
theorem Sb {α:Type}{c:Bool}{a b z:α}(h:c=false)(H:(if c=true then a else b)=z):b=z:=(if_neg (F8 h)).symm.trans H
abbrev sJ (l:List AV):List AV:=.any :: .any :: .any::l
abbrev nh (l:List AV):List AV:=.any :: .any :: .any :: .any::l
abbrev Fy (l:List AV):List AV:=.any :: .any :: .any :: .any :: .any::l
abbrev wS (l:List AV):List AV:=.any :: .any :: .any :: .any :: .any :: .any::l
abbrev Ge (l:List AV):List AV:=.any :: .any :: .any :: .any :: .any :: .any :: .any::l
abbrev BS (l:List AV):List AV:=.any :: .any :: .any :: .any :: .any :: .any :: .any :: .any::l
abbrev Sc (l:List AV):List AV:=.any :: .any :: .any :: .any :: .any :: .any :: .any :: .any :: .any::l
abbrev KG (l:List AV):List AV:=.any :: .any :: .any :: .any :: .any :: .any :: .any :: .any :: .any :: .any::l
abbrev sV (l:List AV):List AV:=.any :: .any :: .any :: .any :: .any :: .any :: .any :: .any :: .any :: .any :: .any::l
abbrev u6 (l:List AV):List AV:=.any :: .any :: .any :: .any :: .any :: .any :: .any :: .any :: .any :: .any :: .any :: .any::l
abbrev qn (l:List AV):List AV:=.any :: .any :: .any :: .any :: .any :: .any :: .any :: .any :: .any :: .any :: .any :: .any :: .any::l
abbrev u7 (l:List AV):List AV:=.any :: .any :: .any :: .any :: .any :: .any :: .any :: .any :: .any :: .any :: .any :: .any :: .any :: .any::l
abbrev Nk (l:List AV):List AV:=.any :: .any :: .any :: .any :: .any :: .any :: .any :: .any :: .any :: .any :: .any :: .any :: .any :: .any :: .any::l
abbrev Gf (l:List AV):List AV:=.any :: .any :: .any :: .any :: .any :: .any :: .any :: .any :: .any :: .any :: .any :: .any :: .any :: .any :: .any :: .any::l
abbrev Nl (l:List AV):List AV:=.any :: .any :: .any :: .any :: .any :: .any :: .any :: .any :: .any :: .any :: .any :: .any :: .any :: .any :: .any :: .any :: .any::l
abbrev Nn (l:List AV):List AV:=.any :: .any :: .any :: .any :: .any :: .any :: .any :: .any :: .any :: .any :: .any :: .any :: .any :: .any :: .any :: .any :: .any :: .any :: .any :: .any::l
abbrev No (l:List AV):List AV:=.any :: .any :: .any :: .any :: .any :: .any :: .any :: .any :: .any :: .any :: .any :: .any :: .any :: .any :: .any :: .any :: .any :: .any :: .any :: .any :: .any::l
abbrev Np (l:List AV):List AV:=.any :: .any :: .any :: .any :: .any :: .any :: .any :: .any :: .any :: .any :: .any :: .any :: .any :: .any :: .any :: .any :: .any :: .any :: .any :: .any :: .any :: .any :: .any::l
abbrev Nq (l:List AV):List AV:=.any :: .any :: .any :: .any :: .any :: .any :: .any :: .any :: .any :: .any :: .any :: .any :: .any :: .any :: .any :: .any :: .any :: .any :: .any :: .any :: .any :: .any :: .any :: .any :: .any::l
abbrev Nr (l:List AV):List AV:=.any :: .any :: .any :: .any :: .any :: .any :: .any :: .any :: .any :: .any :: .any :: .any :: .any :: .any :: .any :: .any :: .any :: .any :: .any :: .any :: .any :: .any :: .any :: .any :: .any :: .any :: .any::l
abbrev Ns (l:List AV):List AV:=.any :: .any :: .any :: .any :: .any :: .any :: .any :: .any :: .any :: .any :: .any :: .any :: .any :: .any :: .any :: .any :: .any :: .any :: .any :: .any :: .any :: .any :: .any :: .any :: .any :: .any :: .any :: .any :: .any::l
abbrev Nt (l:List AV):List AV:=.any :: .any :: .any :: .any :: .any :: .any :: .any :: .any :: .any :: .any :: .any :: .any :: .any :: .any :: .any :: .any :: .any :: .any :: .any :: .any :: .any :: .any :: .any :: .any :: .any :: .any :: .any :: .any :: .any :: .any :: .any :: .any :: .any :: .any::l
end Go.R
namespace Go.R
open Go
def sW {X:Type}(F:CallF→Option X):Prop:=∀cf x,F cf=some x→∃l:List (FuncId × List AV × AHeap × (AV × AHeap)),(∀e∈l,cf e.1 e.2.1 e.2.2.1=some e.2.2.2)∧∀zQ:CallF,(∀e∈l,zQ e.1 e.2.1 e.2.2.1=some e.2.2.2)→F zQ=some x
theorem bp {X:Type}(x:Option X):sW fun _=>x:=by
 intro cf y h
 refine⟨[],?_,fun _ _=>h⟩
 intro e he; cases he
theorem DH (f:FuncId)(args:List AV)(h:AHeap):sW fun cf=>cf f args h:=by
 intro cf x hx
 refine⟨[(f,args,h,x)],?_,fun zQ h'=>h' (f,args,h,x) (UU.2 rfl)⟩
 intro e he; cases (UU.1 he); exact hx
theorem dN {X Y:Type}{F:CallF→Option X}{G:X→CallF→Option Y}(hF:sW F)(hG:∀y,sW (G y)):sW fun cf=>(F cf).bind fun y=>G y cf:=fun cf z hz=>by
 obtain⟨y,h1,h2⟩:=Ut.1 hz
 obtain⟨l1,a1,b1⟩:=hF cf y h1
 obtain⟨l2,a2,b2⟩:=hG y cf z h2
 refine⟨l1++l2,fun e he=>(UZ.1 he).elim (a1 e) (a2 e),fun zQ h'=>?_⟩
 have e1:=b1 zQ fun e he=>h' e (Vo _ he)
 have e2:=b2 zQ fun e he=>h' e (List.mem_append_right _ he)
 show (F zQ).bind _=_
 rw [e1,Uu,e2]
theorem u9 {X Y:Type}{F:CallF→Option X}{g:X→Y}(hF:sW F):sW fun cf=>(F cf).map g:=by
 intro cf x hx
 obtain⟨y,h1,h2⟩:=Uv.1 hx
 obtain⟨l,a,b⟩:=hF cf y h1
 refine⟨l,a,fun zQ h'=>?_⟩
 show (F zQ).map g=some x
 rw [b zQ h',Uz,h2]
theorem jk {X:Type}{c:Prop}[Decidable c]{F G:CallF→Option X}(hF:sW F)(hG:sW G):sW fun cf=>if c then F cf else G cf:=by
 by_cases h:c
 ·simp only [h,if_true]; exact hF
 ·simp only [h,if_false]; exact hG
section
variable {P:Program}{aE ds:List Nat}
theorem ow {X:Type}{F:CallF→Option X}(h:∀cf zQ,F cf=F zQ):sW F:=by
 intro cf x hx
 refine⟨[],?_,fun zQ _=>(h zQ cf).trans hx⟩
 intro e he; cases he
theorem zR (e:Operand→AV)(s:RS)(o:Oper):sW fun cf=>yd P cf aE ds e s o:=by
 obtain⟨dst,op,type,pos,after,guard⟩:=o
 cases op with
 | call c=>
  obtain⟨callee,args,at_⟩:=c
  cases callee with
  | value f=>
   simp only [yd]
   cases e f with
   | fn f cap=>exact jk (u9 (dN (DH _ _ _) fun y=>bp _)) (bp _)
   | _=>exact bp _
  | _=>exact ow fun _ _=>rfl
 | makeFunc fn first cap=>cases fn<;>exact ow fun _ _=>rfl
 | makeMap t r=>cases r<;>exact ow fun _ _=>rfl
 | _=>exact ow fun _ _=>rfl
theorem BT (ops:List Oper)(s:RS)(o:Oper):sW fun cf=>lP P cf aE ops s o:=by
 refine dN (bp (gJ ops s.ρ o)) fun w=>?_
 exact jk (zR _ _ _) (bp _)
theorem wT (ops:List Oper):∀(os:List Oper) (s:RS),sW fun cf=>qa P cf aE ops s os
 | [],s=>bp _
 | o::os,s=>dN (BT ops s o) fun s'=>wT ops os s'
theorem wU (ops:List Oper):∀(os:List Oper) (s:RS),sW fun cf=>nP P cf aE ops s os
 | [],s=>bp _
 | o::os,s=>dN (bp (gJ ops s.ρ o)) fun w=>dN (jk (zR _ _ _) (bp _)) fun s1=>u9 (wU ops os s1)
theorem yD (ops:Array Oper)(s:RS):sW fun cf=>ju P cf aE ops s:=by
 unfold ju
 exact jk (dN (wU _ _ _) fun x=>bp _) (bp _)
theorem tJ {f:CallF→St→Option (Ex × St)}(hf:∀s,sW fun cf=>f cf s):∀(n:Nat) (s:St),sW fun cf=>kn (f cf) n s
 | 0,s=>bp _
 | n+1,s=>dN (hf s) fun x=>by
  obtain⟨x,s'⟩:=x
  cases x with
  | norm=>exact tJ hf n s'
  | _=>exact bp _
theorem iQ (A:bX)(n:Nat):∀(c:Code) (s:St),sW fun cf=>bI P cf A n c s
 | .skip,s=>by simp only [bI]; exact bp _
 | .label _,s=>by simp only [bI]; exact bp _
 | .ret,s=>by simp only [bI]; exact bp _
 | .exit _,s=>by simp only [bI]; exact bp _
 | .seq a b,s=>by
  simp only [bI]
  exact dN (iQ A n a s) fun x=>by
   obtain⟨x,s'⟩:=x
   cases x with
   | norm=>exact iQ A n b s'
   | _=>exact bp _
 | .cond k x y,s=>by
  simp only [bI]
  exact dN (bp _) fun t=>jk (iQ A n x s) (iQ A n y s)
 | .block id b,s=>by simp only [bI]; exact u9 (iQ A n b s)
 | .loop b,s=>by simp only [bI]; exact tJ (fun s=>iQ A n b s) n s
 | .region r ops draw,s=>by
  simp only [bI]
  exact dN (bp _) fun s=>dN (jk (yD _ _) (wT _ _ _)) fun s'=>bp _
 | .rangeFunc ..,s=>by simp only [bI]; exact bp _
 | .scope _,s=>by simp only [bI]; exact bp _
 | .goto _,s=>by simp only [bI]; exact bp _
 | .refuse _,s=>by simp only [bI]; exact bp _
theorem jq (aV:FuncId→bX)(m:Nat)(f:FuncId)(args:List AV)(h:AHeap):sW fun cf=>a7 P aV cf m f args h:=by
 unfold a7
 refine dN (bp _) fun fn=>dN (bp _) fun c=>jk (dN (iQ _ _ _ _) fun x=>bp _) (bp _)
end
def p6 (P:Program)(T:mW)(m:Nat)(cf:CallF):CallF:=fun f args h=>
 match T.intr f with
 | some g=>g args h
 | none=>
  match T.pure f with
  | some deep=>if T.eu f then (bq h deep args).bind fun us=>(a7 P T.aV cf m f us bu).bind fun x=>(cM h.next x.1).map fun r=>(r,h.eu x.2) else
    if cC args then (a7 P T.aV cf m f (dk args) bu).bind fun x=>(b9 x.2 deep x.1).map fun r=>(r,h) else
    match bq h deep args with
    | some zs=>(a7 P T.aV cf m f zs bu).bind fun x=>(fM x.2 deep x.1).map fun r=>(r,h)
    | none=>a7 P T.aV cf m f (args.map aK) h
  | none=>a7 P T.aV cf m f (args.map aK) h
section
variable {P:Program}{T:mW}{m:Nat}
theorem tK (f:FuncId)(args:List AV)(h:AHeap):sW fun cf=>p6 P T m cf f args h:=by
 unfold p6
 cases T.intr f with
 | some g=>exact bp _
 | none=>
  cases T.pure f with
  | none=>exact jq _ _ _ _ _
  | some deep=>
   refine jk (dN (bp _) fun us=>dN (jq _ _ _ _ _) fun x=>bp _) ?_
   refine jk (dN (jq _ _ _ _ _) fun x=>bp _) ?_
   cases bq h deep args with
   | none=>exact jq _ _ _ _ _
   | some zs=>exact dN (jq _ _ _ _ _) fun x=>bp _
theorem rZ:∀(n:Nat) (f:FuncId) (args:List AV) (h:AHeap) (x:AV × AHeap),ez P T m n f args h=some x→ez P T m (n+1) f args h=some x
 | 0,f,args,h,x,hc=>by simp [ez] at hc
 | n+1,f,args,h,x,hc=>by
  obtain⟨l,h1,h2⟩:=tK (P:=P) (T:=T) (m:=m) f args h _ _ hc
  exact h2 (ez P T m (n+1)) fun e he=>rZ n _ _ _ _ (h1 e he)
theorem ox {n k:Nat}(hk:n≤k){f:FuncId}{args:List AV}{h:AHeap}{x:AV × AHeap}(hc:ez P T m n f args h=some x):ez P T m k f args h=some x:=by
 induction hk with
 | refl=>exact hc
 | step _ ih=>exact rZ _ _ _ _ _ ih
open Classical in
noncomputable def iI (P:Program)(T:mW)(m:Nat):CallF:=fun f args h=>if H:∃x n,ez P T m n f args h=some x then some (Classical.choose H) else none
theorem kz {f:FuncId}{args:List AV}{h:AHeap}{x:AV × AHeap}:iI P T m f args h=some x↔∃n,ez P T m n f args h=some x:=by
 have key:∀(H:∃x n,ez P T m n f args h=some x) (n:Nat),ez P T m n f args h=some x→Classical.choose H=x:=fun H n hn=>by
  obtain⟨k,hk⟩:=Classical.choose_spec H
  have h1:=ox (Nat.le_max_left n k) hn
  have h2:=ox (Nat.le_max_right n k) hk
  rw [h1] at h2
  exact (Vf h2).symm
 unfold iI
 constructor
 ·intro hc
  split at hc
  ·rename_i H
   obtain⟨n,hn⟩:=Classical.choose_spec H
   cases hc
   exact⟨n,hn⟩
  ·cases hc
 ·rintro⟨n,hn⟩
  have H:∃x n,ez P T m n f args h=some x:=⟨x,n,hn⟩
  rw [dif_pos H,key H n hn]
theorem BU (l:List (FuncId × List AV × AHeap × (AV × AHeap)))(hl:∀e∈l,iI P T m e.1 e.2.1 e.2.2.1=some e.2.2.2):∃n,∀e∈l,ez P T m n e.1 e.2.1 e.2.2.1=some e.2.2.2:=by
 induction l with
 | nil=>exact⟨0,fun e he=>by cases he⟩
 | cons a l ih=>
  obtain⟨n,hn⟩:=ih fun e he=>hl e (List.mem_cons_of_mem _ he)
  obtain⟨k,hk⟩:=kz.1 (hl a List.mem_cons_self)
  refine⟨max n k,fun e he=>?_⟩
  rcases UT.1 he with rfl | he
  ·exact ox (Nat.le_max_right n k) hk
  ·exact ox (Nat.le_max_left n k) (hn e he)
theorem kA {f:FuncId}{args:List AV}{h:AHeap}{x:AV × AHeap}(hc:p6 P T m (iI P T m) f args h=some x):iI P T m f args h=some x:=by
 obtain⟨l,h1,h2⟩:=tK (P:=P) (T:=T) (m:=m) f args h _ _ hc
 obtain⟨n,hn⟩:=BU l h1
 exact kz.2 ⟨n+1,h2 (ez P T m n) hn⟩
theorem DI (hP:Fit P)(pZ:IntrOK P T.intr):CallOK P (iI P T m):=fun f args h r h' hc=>by
 obtain⟨n,hn⟩:=kz.1 hc
 exact og hP pZ m n f args h r h' hn
theorem aW:Has bu []:=⟨fun j i c h=>by simp at h,fun j j' i c c' h=>by simp at h,VS⟩
end
section
variable {P:Program}{T:mW}{m f deep:Nat}{h:AHeap}{xs ys:List AV}{y:AV}{x:AV × AHeap}
theorem Gg (h1:T.intr f=none)(h2:T.pure f=some deep)(h3:T.eu f=false)(hd:ia+bO≤deep)(hx:wO xs ys)(hb:∃r h',a7 P T.aV (iI P T m) m f ys bu=some (r,h')∧Ng h' r y):iI P T m f xs h=some (y,h):=by
 obtain⟨r,h',hb,hf⟩:=hb
 refine kA ?_
 have hd:ia+4503599627370496≤deep:=Vj (Nat.add_le_add_left (by decide) _) hd
 simp only [p6,h1,h2,h3,UE,if_false,hx.1,if_true,hx.2,hb,Uu,hf deep hd,Uz]
theorem bk (h1:T.intr f=none)(h2:T.pure f=some deep)(h3:T.eu f=false)(hd:ia+bO≤deep)(hx:aO bO h xs ys)(hb:∃r h',a7 P T.aV (iI P T m) m f ys bu=some (r,h')∧ff h' r y):iI P T m f xs h=some (y,h):=by
 have h4:=hx deep hd
 have Fu:ia+4503599627370496≤deep:=Vj (Nat.add_le_add_left (by decide) _) hd
 by_cases hn:cC xs=true
 ·have:=gA deep xs ys hn h4
  obtain⟨r,h',hb,hf⟩:=hb
  exact Gg h1 h2 h3 hd ⟨hn,this.symm⟩ ⟨r,h',hb,hf.FF⟩
 ·obtain⟨r,h',hb,hf⟩:=hb
  refine kA ?_
  simp only [p6,h1,h2,h3,UE,if_false,hn,h4,hb,Uu,hf deep Fu,Uz]
theorem gB (h1:T.intr f=none)(h2:T.pure f=none)(hx:xs.map aK=ys)(hb:a7 P T.aV (iI P T m) m f ys h=some x):iI P T m f xs h=some x:=by
 refine kA ?_
 simp only [p6,h1,h2,hx,hb]
theorem Gh {g:List AV→AHeap→Option (AV × AHeap)}(h1:T.intr f=some g)(hx:g xs h=some x):iI P T m f xs h=some x:=by
 refine kA ?_
 simp only [p6,h1,hx]
theorem r6 {g:List AV→AHeap→Option (AV × AHeap)}(h1:T.intr f=some g):iI P T m f xs h=g xs h:=by
 cases hg:g xs h with
 | some x=>exact Gh h1 hg
 | none=>
  cases hc:iI P T m f xs h with
  | none=>rfl
  | some x=>
   obtain⟨n,hn⟩:=kz.1 hc
   cases n with
   | zero=>simp [ez] at hn
   | succ n=>simp only [ez,h1,hg] at hn; cases hn
end
end Go.R
namespace Go.R
open Go
def bC:List aq→List Nat→List (aq × Nat)
 | [],_=>[]
 | n::ns,ids=>(n,ids.headD 0)::bC ns ids.tail
def JM (ids:List Nat)(i:Int):Nat:=ids.getD i.toNat 0
def va (ns:List aq)(ids:List Nat):List Nat:=(bC ns ids).map fun p=>p.2
def gd:bL (aq × Nat):={n:=4,f:=fun x=>[.int .i64 x.1.kind,.int .i64 x.1.int,.str x.1.label,.rs x.2 0 x.1.args.length 1],len:=fun _=>rfl,pos:=by decide,flat:=false,pure:=fun _ h=>(by cases h),canon:=fun _=>rfl}
def yE (p:aq × Nat):Nat × Ct:=(p.2,.sl p.1.args.length 1 (af.l p.1.args))
def fT (ns:List aq)(ids:List Nat):Mem:=(bC ns ids).map yE
theorem fG:∀(ns:List aq) (ids:List Nat),(bC ns ids).length=ns.length
 | [],_=>rfl
 | n::ns,ids=>by simp [bC,fG ns]
theorem yF (ids:List Nat):ids.headD 0=ids.getD 0 0:=by cases ids<;>rfl
theorem BV (ids:List Nat)(i:Nat):ids.tail.getD i 0=ids.getD (i+1) 0:=by cases ids<;>simp
theorem r7:∀(ns:List aq) (ids:List Nat) (i:Nat) (n:aq),ns[i]? = some n→(bC ns ids)[i]? = some (n,ids.getD i 0)
 | [],_,i,n,h=>by simp at h
 | a::ns,ids,0,n,h=>by
  simp only [Vc,Uw] at h
  subst h
  show (some (a,ids.headD 0):Option (aq × Nat))=some (a,ids.getD 0 0)
  rw [yF]
 | a::ns,ids,i+1,n,h=>by
  simp only [VB] at h
  have:=r7 ns ids.tail i n h
  simp only [bC,VB,this,BV]
theorem qX {ns:List aq}{ids:List Nat}{i:Int}{n:aq}(h:ix ns i=some n):ix (bC ns ids) i=some (n,JM ids i):=by
 obtain⟨h0,h1,h2⟩:=gL h
 unfold ix JM
 rw [if_pos h0,r7 ns ids _ _ h2]
theorem r8:∀(ns:List aq) (ids:List Nat) (n:aq) (ad:Nat),bC (ns++[n]) (va ns ids++[ad])=bC ns ids++[(n,ad)]
 | [],ids,n,ad=>rfl
 | a::ns,ids,n,ad=>by
  have:=r8 ns ids.tail n ad
  simp only [va,bC,UX,U6,List.headD_cons,List.tail_cons] at this ⊢
  rw [this]
theorem Gi (ns:List aq)(ids:List Nat)(n:aq)(ad:Nat):fT (ns++[n]) (va ns ids++[ad])=fT ns ids++[yE (n,ad)]:=by
 unfold fT; rw [r8,U0]; rfl
theorem Has.perm {h:AHeap}{K K':Mem}(o:Has h K)(p:K'.Perm K):Has h K':=by
 have hP:K.Pairwise fun a b=>a.1≠0→a.1≠b.1:=by
  rw [List.pairwise_iff_getElem]
  intro i j hi hj xQ h0 he
  have:=o.nd i j K[i].1 K[i].2 K[j].2 (by rw [UC hi]) (by rw [UC hj,he]) h0
  omega
 have Nu:K'.Pairwise fun a b=>a.1≠0→a.1≠b.1:=(p.pairwise_iff (fun {a b} h h0 he=>h (by rw [←he]; exact h0) he.symm)).2 hP
 rw [List.pairwise_iff_getElem] at Nu
 refine⟨fun j i c hj=>?_,fun j j' i c c' hj xP h0=>?_,o.pos⟩
 ·obtain⟨j',xP⟩:=VA (p.mem_iff.1 (UM hj))
  exact o.at_ j' i c xP
 ·obtain⟨a1,a2⟩:=UA.1 hj
  obtain⟨b1,b2⟩:=UA.1 xP
  rcases Nat.lt_trichotomy j j' with hl | hl | hl
  ·have:=Nu j j' a1 b1 hl
   rw [a2,b2] at this
   exact absurd rfl (this h0)
  ·exact hl
  ·have:=Nu j' j b1 a1 hl
   rw [a2,b2] at this
   exact absurd rfl (this h0)
section
variable {P:Program}{t t2 tf:TypeId}{h:AHeap}{pre L:Mem}{ns r:List aq}{ids:List Nat}{i ad k n2:Nat}{j a v:Int}{n:aq}
theorem Has.gone (o:Has h (pre++(fT ns ids++L))):Has h (pre++L):=by
 refine o.sub (fun q=>if q<pre.length then q else q+(fT ns ids).length) (fun q p hq=>?_) (fun q q' he=>?_)
 ·by_cases hl:q<pre.length
  ·rw [UJ hl] at hq
   rw [if_pos hl,UJ hl]; exact hq
  ·rw [UO (by omega)] at hq
   rw [if_neg hl,UO (by omega),UO (by omega),←hq]
   congr 1; omega
 ·split at he<;>split at he<;>omega
theorem Ip {b:Nat}{kind int:Int}{label:ByteArray}{args:List Int}{x:AV}(T:wK P t 4 b=true)(o:Has h ((i,.sl k 4 (gd.l (bC ns ids)))::(ad,.sl n2 1 (af.l args))::(pre++(fT ns ids++L))))
  (hx:fo h 4 x=some ([.int .i64 kind,.int .i64 int,.str label,.rs ad 0 n2 1],1)) (gu:iu P t2 x=true) (hr:app b ns [⟨kind,int,label,args⟩]=some r) :
  ∃i' KH h',dv P h t t2 (.rs i 0 k 4) x=some (.rs i' 0 r.length 4,h')∧Has h' ((i',.sl r.length 4 (gd.l (bC r KH)))::(pre++(fT r KH++L))):=by
 have hn:n2=args.length:=cG (E:=af) o (q:=1) rfl
 subst hn
 obtain⟨_,_,rfl⟩:=wL hr
 have yw:app b (bC ns ids) [((⟨kind,int,label,args⟩:aq),ad)]=some (bC ns ids++[((⟨kind,int,label,args⟩:aq),ad)]):=by
  unfold app at hr ⊢
  rw [fG]
  split at hr
  ·rename_i hh
   simp only [UI,UW] at hh ⊢
   rw [if_pos hh]
  ·cases hr
 have FQ:fo h gd.n x=some (gd.l [((⟨kind,int,label,args⟩:aq),ad)],[((⟨kind,int,label,args⟩:aq),ad)].length):=hx
 obtain⟨i',h',e,o'⟩:=iD (E:=gd) (l:=bC ns ids) (q:=0) T o rfl FQ gu yw
 have e:dv P h t t2 (.rs i 0 k 4) x=some (.rs i' 0 (bC ns ids++[((⟨kind,int,label,args⟩:aq),ad)]).length 4,h'):=e
 refine⟨i',va ns ids++[ad],h',?_,?_⟩
 ·rw [e,UD,UD,fG]; rfl
 ·rw [Gi,r8]
  have o':Has h' ((i',.sl (bC ns ids++[((⟨kind,int,label,args⟩:aq),ad)]).length 4 (gd.l (bC ns ids++[((⟨kind,int,label,args⟩:aq),ad)])))::yE (⟨kind,int,label,args⟩,ad)::(pre++(fT ns ids++L))):=o'
  have el:(ns++[(⟨kind,int,label,args⟩:aq)]).length=(bC ns ids++[((⟨kind,int,label,args⟩:aq),ad)]).length:=by
   rw [UD,UD,fG]; rfl
  rw [el]
  refine o'.perm (List.Perm.cons _ ?_)
  have k1:pre++((fT ns ids++[yE ((⟨kind,int,label,args⟩:aq),ad)])++L)=(pre++fT ns ids)++yE (⟨kind,int,label,args⟩,ad)::L:=by simp
  have k2:pre++(fT ns ids++L)=(pre++fT ns ids)++L:=by simp
  rw [k1,k2]
  exact List.perm_middle
def cw:Nat:=2251799813685248
end
end Go.R
namespace Go.R
open Go
inductive vH
 | b (i:Nat) {x y:Bool} (h:x=y)
 | v (i:Nat) {e:Option AV} {z:AV} (h:e=some z)
 | w (i:Nat) {e:Option AHeap} {g:AHeap} (h:e=some g)
 | a (i:Nat) {e:Option (AV × AHeap)} {z:AV} {g:AHeap} (h:e=some (z,g))
 | m (i:Nat) {e:AV × AHeap} {z:AV} {g:AHeap} (h:e=(z,g))
def vH.Sd:vH→Nat × AV × Option AHeap
 | @b i x y h=>(i,.bool y,none)
 | @v i e z h=>(i,z,none)
 | @w i e g h=>(i,.any,some g)
 | @a i e z g h=>(i,z,some g)
 | @m i e z g h=>(i,z,some g)
def vH.fr:vH→AV × AHeap
 | @a i e z g h=>(z,g)
 | _=>(.any,bu)
def vH.p:vH→Prop
 | @b i x y h=>AV.bool x=AV.bool y
 | @v i e z h=>e=some z
 | @w i e g h=>e=some g
 | @a i e z g h=>e=some (z,g)
 | @m i e z g h=>e=(z,g)
theorem vH.ok:∀g:vH,g.p
 | @b i x y h=>congrArg AV.bool h
 | @v i e z h=>h
 | @w i e g h=>h
 | @a i e z g h=>h
 | @m i e z g h=>h
def wV:List vH→Fx
 | []=>[]
 | g::gs=>g.Sd::wV gs
def BW:List vH→List (AV × AHeap)
 | []=>[]
 | g::gs=>g.fr::BW gs
def ps:List vH→Prop
 | []=>True
 | g::gs=>g.p∧ps gs
theorem wW:∀gs,ps gs
 | []=>trivial
 | g::gs=>⟨g.ok,wW gs⟩
def cA:Code→Code
 | .seq a _=>a
 | .cond _ a _=>a
 | .block _ a=>a
 | .loop a=>a
 | _=>.skip
def cB:Code→Code
 | .seq _ b=>b
 | .cond _ _ b=>b
 | _=>.skip
def kd:Code→Nat
 | .skip=>0
 | .ret=>1
 | .seq _ _=>2
 | .loop _=>3
 | _=>9
def Nv:Code→Option Nat
 | .exit i=>some i
 | _=>none
def Nw:Code→Option Nat
 | .block i _=>some i
 | _=>none
def Nx (A:bX)(c:Code)(s:St):Option AV:=
 match c with
 | .cond k _ _=>some (bJ (s.open A).ρ k)
 | _=>none
def nx (P:Program)(cf:CallF)(A:bX)(c:Code)(fs gs:List vH)(s:St):St:=((l9 P cf A c (BW fs) (wV gs) s).map (·.2)).getD s
section
variable {P:Program}{cf:CallF}{A:bX}{m:Nat}{c:Code}{s:St}{Q R:Ex→St→Prop}
theorem KI (fs gs:List vH)(hQ:Q .norm (nx P cf A c fs gs s))(h:(l9 P cf A c (BW fs) (wV gs) s).map (·.1)=some (ps fs∧ps gs):=by kernel_rfl):dj P cf A m c s Q:=by
 unfold nx at hQ
 obtain⟨⟨p,s'⟩,h1,rfl⟩:=Uv.1 h
 rw [h1] at hQ
 exact wH h1 ⟨wW fs,wW gs⟩ hQ
theorem qr (gs:List vH)(hQ:Q .norm (nx P cf A c [] gs s))(h:(l9 P cf A c [] (wV gs) s).map (·.1)=some (True∧ps gs):=by kernel_rfl):dj P cf A m c s Q:=KI [] gs hQ h
theorem q0 (hQ:Q .norm (nx P cf A c [] [] s))(h:(l9 P cf A c [] [] s).map (·.1)=some (True∧True):=by kernel_rfl):dj P cf A m c s Q:=KI [] [] hQ h
theorem PR (h:kd c=2):c = .seq (cA c) (cB c):=by cases c<;>first | rfl | cases h
theorem qq (hQ:dj P cf A m (cA c) s (If (fun s'=>dj P cf A m (cB c) s' Q) Q))(h:kd c=2:=by kernel_rfl):dj P cf A m c s Q:=by rw [PR h]; exact wG hQ
theorem PS (fs gs:List vH)(hQ:dj P cf A m (cB c) (nx P cf A (cA c) fs gs s) Q)(h:kd c=2:=by kernel_rfl)(h2:(l9 P cf A (cA c) (BW fs) (wV gs) s).map (·.1)=some (ps fs∧ps gs):=by kernel_rfl):dj P cf A m c s Q:=qq (KI fs gs hQ h2) h
theorem qs (gs:List vH)(hQ:dj P cf A m (cB c) (nx P cf A (cA c) [] gs s) Q)(h:kd c=2:=by kernel_rfl)(h2:(l9 P cf A (cA c) [] (wV gs) s).map (·.1)=some (True∧ps gs):=by kernel_rfl):dj P cf A m c s Q:=PS [] gs hQ h h2
theorem q1 (hQ:dj P cf A m (cB c) (nx P cf A (cA c) [] [] s) Q)(h:kd c=2:=by kernel_rfl)(h2:(l9 P cf A (cA c) [] [] s).map (·.1)=some (True∧True):=by kernel_rfl):dj P cf A m c s Q:=PS [] [] hQ h h2
theorem qk (hQ:Q .norm s)(h:kd c=0:=by kernel_rfl):dj P cf A m c s Q:=by
 have:c = .skip:=by cases c<;>first | rfl | cases h
 rw [this]; exact BJ hQ
theorem qt (hQ:Q .ret s)(h:kd c=1:=by kernel_rfl):dj P cf A m c s Q:=by
 have:c = .ret:=by cases c<;>first | rfl | cases h
 rw [this]; exact Dp hQ
theorem qx (i:Nat)(hQ:Q (.exit i) s)(h:Nv c=some i:=by kernel_rfl):dj P cf A m c s Q:=by
 have:c = .exit i:=by cases c<;>first | (cases h; rfl) | cases h
 rw [this]; exact BK hQ
theorem qb (i:Nat)(hQ:dj P cf A m (cA c) s (Nc i Q))(h:Nw c=some i:=by kernel_rfl):dj P cf A m c s Q:=by
 have:c = .block i (cA c):=by cases c<;>first | (cases h; rfl) | cases h
 rw [this]; exact yz hQ
theorem qc {α:Type}{b:Bool}{x y z:Option α}(H:(if b=true then x else y)=z)(ht:b=true→x=z→dj P cf A m (cA c) s Q)(hf:b=false→y=z→dj P cf A m (cB c) s Q)(h:Nx A c s=some (.bool b):=by kernel_rfl):dj P cf A m c s Q:=by
 cases c<;>first | cases h | skip
 rename_i k a e
 exact pk b (Vf h) (fun hb=>ht hb (Sa hb H)) (fun hb=>hf hb (Sb hb H))
theorem L3 (hQ:dj P cf A m (cA c) s Q)(h:Nx A c s=some (.bool true):=by kernel_rfl):dj P cf A m c s Q:=by
 cases c<;>first | cases h | skip
 exact pk true (Vf h) (fun _=>hQ) (fun hb=>by cases hb)
theorem DJ (hQ:dj P cf A m (cB c) s Q)(h:Nx A c s=some (.bool false):=by kernel_rfl):dj P cf A m c s Q:=by
 cases c<;>first | cases h | skip
 exact pk false (Vf h) (fun hb=>by cases hb) (fun _=>hQ)
theorem ql {c':Code}(h:dj P cf A m c' s Q)(k:∀e s',Q e s'→R e s')(hc:c=c':=by kernel_rfl):dj P cf A m c s R:=by rw [hc]; exact tG h k
theorem qj {α β:Type}{S:α→St→Prop}(f:α→Option β){out:β}{z:Option β}(h0:z=some out)(hB:∀σ s,S σ s→f σ=some out→dj P cf A m (cB c) s Q)
  (hA:(∀σ s,S σ s→f σ=some out→dj P cf A m (cB c) s Q)→dj P cf A m (cA c) s (If (fun s'=>dj P cf A m (cB c) s' Q) Q)) (h:kd c=2:=by kernel_rfl):dj P cf A m c s Q:=by
 rw [PR h]; exact wG (hA hB)
end
def dS {S O:Type}(P:Program)(cf:CallF)(A:bX)(m:Nat)(c:Code)(l:Nat→S→Option O)(R:S→St→Prop)(Q:O→Ex→St→Prop):Prop:=∀σ s out,R σ s→l m σ=some out→dj P cf A m (.loop c) s (Q out)
theorem me {S O:Type}{P:Program}{cf:CallF}{A:bX}{m:Nat}{c:Code}{l:Nat→S→Option O}{R:S→St→Prop}{Q:O→Ex→St→Prop}(h0:∀σ,l 0 σ=none)
  (step:∀k σ s out,R σ s→l (k+1) σ=some out→dj P cf A m c s (Dq l R Q k out)):dS P cf A m c l R Q:=fun _ _ _ hr H=>BL l R Q h0 step hr H (fun _ _ _ h=>h)
def Iq:Nat→List Nat→List Nat
 | _,[]=>[]
 | k,x::xs=>bif U5 (k % 2) 1 then x::Iq (k / 2) xs else Iq (k / 2) xs
def KJ (keep:List Nat):Nat→List Nat→List (Nat × List Nat)
 | _,[]=>[]
 | r,k::ks=>(r,Iq k keep)::KJ keep (r+1) ks
def gQ (keep aE ms:List Nat)(FF ye:List (Nat × List (Nat × Option Nat × Nat))):bX:={keep:=keep,aE:=aE,dead:=KJ keep 0 ms,FF:=FF,ye:=ye}
theorem iG {α:Type}{b:Bool}{x y z:α}(H:(if b=true then x else y)=z):(b=true∧x=z)∨(b=false∧y=z):=by
 cases b with
 | true=>exact .inl ⟨rfl,H⟩
 | false=>exact .inr ⟨rfl,H⟩
theorem oi {α:Type}{a b:α}(h:some a=some b):a=b:=Vf h
theorem dy {P:Program}{A:bX}{s:St}{rs:List ResultVar}{y:AV}(av:AV)(g:AHeap)(h:ff g av y)(h1:aM P (s.open A) rs=some av:=by kernel_rfl)(h2:s.h=g:=by kernel_rfl):∃av,aM P (s.open A) rs=some av∧ff s.h av y:=⟨av,h1,h2 ▸ h⟩
theorem he {g g':AHeap}{K:Mem}(o:Has g K)(h:g'=g:=by kernel_rfl):Has g' K:=h ▸ o
end Go.R
namespace Go.R
open Go Go.Proofs Go.Shelf Go.RowKit Go.Sort
def nD:List AV→Option (List Int)
 | []=>some []
 | .int .i64 z::xs=>(nD xs).map fun l=>z::l
 | _=>none
theorem mf:∀{xs:List AV} {l:List Int},nD xs=some l→xs=l.map fun z=>.int .i64 z
 | [],l,h=>by cases h; rfl
 | x::xs,l,h=>by
  unfold nD at h
  split at h
  ·rename_i e; cases e
  ·rename_i z ys e
   obtain⟨rfl,rfl⟩:=List.cons.inj e
   obtain⟨l',h1,rfl⟩:=Uv.1 h
   rw [mf h1]; rfl
  ·cases h
theorem r9:∀l:List Int,nD (l.map fun z=>.int .i64 z)=some l
 | []=>rfl
 | z::l=>by simp only [UX,nD,r9 l,Uz]
def kB (l:List Int):List Int:=l.mergeSort fun x y=>decide (x≤y)
noncomputable def Ir (args:List AV)(h:AHeap):Option (AV × AHeap):=
 match args with
 | [.rs id 0 n 1]=>if n=0 then some (.tup [],h) else (h.get id).bind fun
  | .cells cs=>if n≤cs.length∧n<4611686018427387904 then (nD (cs.take n)).map fun l=>(.tup [],h.put id (.cells ((kB l).map (fun z=>.int .i64 z)++cs.drop n))) else none
  | _=>none
 | _=>none
theorem BX:∀args h r h',Ir args h=some (r,h')→Steady h h':=by
 intro args h r h' hs
 unfold Ir at hs
 split at hs
 ·split at hs
  ·cases hs; exact Steady.refl _
  ·rw [Ut] at hs
   obtain⟨o,_,hs⟩:=hs
   split at hs
   ·split at hs
    ·obtain⟨l,_,hs⟩:=Uv.1 hs
     cases hs; exact Steady.put _ _ _
    ·cases hs
   ·cases hs
 ·cases hs
section
variable {c:Cx}{L0:Nat→Prop}
theorem BY (hrel:HRel c L0){id n:Nat}{cs:List AV}{l:List Int}(hid:c.h.get id=some (.cells cs))(hl:nD (cs.take n)=some l):Holds (Value.int .i64) c.w (c.β id).1 (c.β id).2 l.toArray:=by
 obtain⟨m,⟨C,T,hC,hn⟩,hle,hcl⟩:=hrel.obj _ _ hid
 intro j hj
 have hj:j<l.length:=by simpa using hj
 have hx:cs[j]? = some (.int .i64 l[j]):=by
  have h1:(cs.take n)[j]? = some (.int .i64 l[j]):=by rw [mf hl,Vv,UC hj]; rfl
  rw [List.getElem?_take] at h1
  split at h1
  ·exact h1
  ·cases h1
 obtain⟨v,h1,_,h3⟩:=hcl.get' j _ hx
 simp only [VR] at h3
 subst h3
 refine⟨by rw [h1]; simp [hj],by simp [World.frozen?,hC]⟩
theorem Gj (hrel:HRel c L0)(hbs:c.base≤c.w.heap.size){id n:Nat}{cs:List AV}{new:List Int}(hid:c.h.get id=some (.cells cs))(hn:n≤cs.length)(hnew:new.length=n)(q:Nat)(os:Array Obj) :
  let w':=grow (putRow (Value.int .i64) (Sort.ahead c.w q) (c.β id).1 (c.β id).2 new.toArray) os
  let c':Cx:=⟨c.β,c.h.put id (.cells (new.map (fun z=>.int .i64 z)++cs.drop n)),w',c.base⟩
  HRel c' L0∧Ext c none0 c' none0∧c'.len (c.β id).1=c.len (c.β id).1:=by
 intro w' c'
 have hun:un L0 none0=L0:=by funext b; simp [un,none0]
 have f:=Fr.none hrel
 obtain⟨m,⟨C,T,hC,hm⟩,hle,hcl⟩:=hrel.obj _ _ hid
 have hlive:Live c.h id:=⟨hrel.lt _ _ hid,by rw [hid]; rfl⟩
 have hblt:(c.β id).1<c.w.heap.size:=(U1.1 hC).1
 have qf:∀k,k<c.w.heap.size→w'.heap[k]? = if k=(c.β id).1 then some (.cells (putCells (Value.int .i64) (c.β id).2 new.toArray C) T (0,0)) else c.w.heap[k]?:=fun k hk=>by
  show (grow _ os).heap[k]? = _
  rw [heap_grow_old _ _ (by simp [putRow,mapBlock,Sort.ahead]; exact hk)]
  by_cases h:k=(c.β id).1
  ·subst h; simp [putRow,mapBlock,Sort.ahead,Vy,hC,onCells]
  ·have h2:(c.β id).1≠k:=fun e=>h e.symm
   simp [putRow,mapBlock,Sort.ahead,Vy,h,h2]
 have sI:w'.heap[(c.β id).1]? = some (.cells (putCells (Value.int .i64) (c.β id).2 new.toArray C) T (0,0)):=by rw [qf _ hblt,if_pos rfl]
 have hsz:(putCells (Value.int .i64) (c.β id).2 new.toArray C).size=C.size:=by simp [putCells]
 have hlen:((w'.shape? (c.β id).1).map (·.2)).getD 0=c.len (c.β id).1:=by
  simp only [Cx.len,World.shape?,sI,hC,Uz,Vp,hsz]
 have KK:c.w.heap.size≤w'.heap.size:=by
  show _≤(grow _ os).heap.size
  simp [grow,putRow,mapBlock,Sort.ahead]
 obtain⟨e2,f2⟩:=f.upd (w':=w') (β':=c.β) (h':=c.h.put id (.cells (new.map (fun z=>.int .i64 z)++cs.drop n))) id (.cells (new.map (fun z=>.int .i64 z)++cs.drop n)) (Steady.put _ _ _) (VI hlive.1) (by simp [AHeap.put,beq_nat])
  (fun j hj=>.inr ⟨by simp [AHeap.put,beq_nat,hj],rfl⟩) (fun _=>⟨hlive,rfl⟩) (.inr ⟨id,hlive,rfl,.inl rfl⟩)
  (fun _=>hlen) (fun k hk hne=>by rw [qf k hk,if_neg hne]) (fun k hk hne=>by rw [qf k (by omega),if_neg hne]) KK hbs rfl rfl rfl
  (fun ee=>by
   refine⟨C.size,⟨_,T,sI,hsz⟩,by rw [UD,UQ,List.length_drop,hnew]; omega,?_⟩
   rw [Cells.iff]
   intro i x hx
   show ∃v,w'.cell? _=some v∧_
   rw [cell_of_block sI]
   have hi:i<cs.length:=by
    have:=(UA.1 hx).1
    rw [UD,UQ,List.length_drop,hnew] at this; omega
   have Se:(putCells (Value.int .i64) (c.β id).2 new.toArray C)[(c.β id).2+i]? = C[(c.β id).2+i]?.map fun x=>if (c.β id).2≤(c.β id).2+i∧(c.β id).2+i<(c.β id).2+new.toArray.size then Value.int .i64 new.toArray[(c.β id).2+i - (c.β id).2]! else x:=by
    unfold putCells; rw [Array.getElem?_mapIdx]
   rw [Se]
   by_cases h:i<n
   ·rw [UJ (by rw [UQ,hnew]; exact h),Vv,UC (by omega)] at hx
    simp only [Uz,Uw] at hx
    subst hx
    have Sf:(c.β id).2+i<C.size:=by omega
    rw [Array.getElem?_eq_getElem Sf]
    refine⟨.int .i64 new[i],?_,rfl,by simp [VR]⟩
    simp only [Uz,Uw]
    rw [if_pos ⟨by omega,by simp [hnew]; exact h⟩,VJ]
    simp [show i<new.length by omega]
   ·rw [UO (by rw [UQ,hnew]; omega),UQ,hnew,List.getElem?_drop,show n+(i - n)=i by omega] at hx
    obtain⟨v,v1,v2,v3⟩:=hcl.get' i x hx
    rw [cell_of_block hC] at v1
    refine⟨v,?_,v2,?_⟩
    ·rw [v1]
     simp only [Uz,Uw]
     rw [if_neg (by simp [hnew]; omega)]
    ·have:=VR.ext ee (L0:=L0) x v (by rw [hun]; exact v3)
     exact this)
 exact⟨by have:=f2.rel; rwa [hun] at this,e2,hlen⟩
end
section
variable {P:Program}{ρ:Ren}
theorem KL (L:Lays.n189 P ρ)(henter:∀(vs:Array Value) (w:World),(callFunc (ρ.f 189) vs).run P w = .ok (.enter (ρ.f 189) vs) w) :
  CallOK P fun f' args h=>if f'=ρ.f 189 then Ir args h else none:=by
 intro f args h r h' hc
 dsimp only at hc
 split at hc
 rotate_left
 ·cases hc
 rename_i hf
 subst hf
 refine⟨henter,fun L0 c vs hh hb0 hrel hargs=>?_⟩
 subst hh
 unfold Ir at hc
 split at hc
 rotate_left
 ·cases hc
 rename_i id n
 match vs,hargs with
 | [v1],⟨q1,_⟩=>
 split at hc
 ·rename_i hn
  subst hn
  cases hc
  have hs:∃a cap,v1 = .slice a 0 cap:=by
   simp only [VR] at q1
   rcases q1 with⟨_,_,_,a,rfl⟩| ⟨_,_,a,cap,rfl,_⟩
   ·exact⟨a,0,rfl⟩
   ·exact⟨a,cap,rfl⟩
  obtain⟨a,cap,rfl⟩:=hs
  refine (Any.slices_Sort_int_none L a cap c.w).mono ?_
  rintro e w' ⟨rfl,rfl⟩
  exact⟨c,_,rfl,rfl,rfl,by simp only [VR]; exact⟨#[],rfl,trivial⟩,hrel,Ext.refl _ _⟩
 ·rename_i hn
  rw [Ut] at hc
  obtain⟨o,hid,hc⟩:=hc
  split at hc
  rotate_left
  ·cases hc
  rename_i cs
  split at hc
  rotate_left
  ·cases hc
  rename_i hle
  obtain⟨l,hl,he⟩:=Uv.1 hc
  simp only [UB] at he
  obtain⟨rfl,rfl⟩:=he
  have hlive:Live c.h id:=⟨hrel.lt _ _ hid,by rw [hid]; rfl⟩
  have hll:l.length=n:=by
   have:=congrArg List.length (mf hl)
   rw [UQ,Vz] at this; omega
  simp only [VR] at q1
  rcases q1 with⟨_,_,h0,_⟩| ⟨_,_,a,cap,rfl,h1,h2,h3⟩
  ·exact absurd h0 hn
  rcases h3 hlive with⟨rfl,h4⟩| h4
  rotate_left
  ·omega
  have hc:=Any.slices_Sort_int L (c.β id).1 (c.β id).2 cap l c.w (BY hrel hid hl) (hrel.block hlive) (by omega)
  rw [hll] at hc
  refine hc.mono ?_
  rintro e w' ⟨rfl,q,os,rfl⟩
  have hsl:(kB l).length=n:=by unfold kB; rw [List.length_mergeSort,hll]
  obtain⟨g1,g2,_⟩:=Gj hrel hb0 hid hle.1 hsl q os
  exact⟨_,_,rfl,rfl,rfl,by simp only [VR]; exact⟨#[],rfl,trivial⟩,g1,g2⟩
end
end Go.R
namespace Go.R
open Go
def Hp (cf:CallF)(f:FuncId):Prop:=∀args h,cf f args h=Ir args h
theorem po (l:List Int):af.l l=l.map fun z=>.int .i64 z:=by
 induction l with
 | nil=>rfl
 | cons a l ih=>rw [bL.eo,ih]; rfl
theorem mO (l:List Int):(kB l).length=l.length:=by unfold kB; rw [List.length_mergeSort]
section
variable {h:AHeap}{L:Mem}{i n:Nat}{l:List Int}{cf:CallF}{f:FuncId}
theorem Gk (o:Has h ((i,.sl n 1 (af.l l))::L))(hn:n≠0):n=l.length∧i≠0∧l.length<4611686018427387904∧∃rest,h.get i=some (.cells (l.map (fun z=>.int .i64 z)++rest)):=by
 obtain⟨⟨⟨h1,h2⟩,h3⟩,_⟩:=o.at_ 0 _ _ rfl
 have hl:(af.l l).length=l.length:=by rw [po,UQ]
 rw [hl] at h1 h2
 rcases h3 with⟨_,h⟩| ⟨h,rest,h4⟩
 ·exact absurd h hn
 ·rw [po] at h4
  exact⟨by omega,h,by omega,rest,h4⟩
theorem Is (o:Has h ((i,.sl 0 1 (af.l l))::L)):l=[]:=by
 obtain⟨⟨⟨h1,_⟩,_⟩,_⟩:=o.at_ 0 _ _ rfl
 rw [po,UQ] at h1
 exact Vb (by omega)
theorem It (S:Hp cf f)(o:Has h ((i,.sl n 1 (af.l l))::L)):∃h',cf f [.rs i 0 n 1] h=some (.tup [],h')∧Has h' ((i,.sl n 1 (af.l (kB l)))::L):=by
 rw [S]
 by_cases hn:n=0
 ·subst hn
  have:=Is o
  subst this
  have e:kB []=[]:=by simp [kB]
  exact⟨h,rfl,by rw [e]; exact o⟩
 ·obtain⟨h1,h2,h3,rest,h4⟩:=Gk o hn
  subst h1
  have et:(l.map (fun z=>AV.int .i64 z)++rest).take l.length=l.map fun z=>AV.int .i64 z:=by
   rw [U4 (by simp),Va (by simp)]
  have ed:(l.map (fun z=>AV.int .i64 z)++rest).drop l.length=rest:=by
   have:=List.drop_left (l₁:=l.map fun z=>AV.int .i64 z) (l₂:=rest)
   rwa [UQ] at this
  refine⟨h.put i (.cells ((kB l).map (fun z=>.int .i64 z)++rest)),?_,?_⟩
  ·unfold Ir
   simp only
   rw [if_neg hn,h4,Uu]
   simp only
   rw [if_pos ⟨by simp,h3⟩,et,r9,Uz,ed]
  ·refine jj (q:=0) o rfl (ob:=.cells ((kB l).map (fun z=>.int .i64 z)++rest)) (c':=.sl l.length 1 (af.l (kB l))) ⟨⟨?_,?_⟩,.inr ⟨h2,rest,by rw [cR,if_pos rfl,po]⟩⟩
   ·rw [po,UQ,mO]; omega
   ·have:=(o.at_ 0 _ _ rfl).1.1.2
    rw [po,UQ] at this ⊢
    rw [mO]; exact this
end
end Go.R
namespace Go.R
open Go
def xR (z:Nat)(args:List AV)(h:AHeap):Option (AV × AHeap):=
 match args with
 | [.nils]=>some (.rs 0 0 0 z,h)
 | [.fz cs n _]=>if n=0 then some (.rs 0 0 0 z,h) else if cs.length=n*z∧n*1024≤1099511627776 then some (.rs h.next 0 n z,h.alloc (.cells (cs.map js))) else none
 | [.rs id 0 n z']=>if n=0 then some (.rs 0 0 0 z,h) else (h.get id).bind fun
  | .cells cs=>if z'=z∧n*z≤cs.length∧n*1024≤1099511627776 then some (.rs h.next 0 n z,h.alloc (.cells ((cs.take (n*z)).map js))) else none
  | _=>none
 | _=>none
def DK (cf:CallF)(f:FuncId)(z:Nat):Prop:=∀args h,cf f args h=xR z args h
def Gl (z:Nat){α:Type}(l:List α):Option (List α):=if l.length*1024≤1099511627776 then some l else none
theorem DL {z:Nat}{α:Type}{l r:List α}(h:Gl z l=some r):l.length*1024≤1099511627776∧r=l:=by
 unfold Gl at h
 split at h
 ·rename_i g; cases h; exact⟨g,rfl⟩
 ·cases h
section
variable {h:AHeap}{K:Mem}{i n q:Nat}{α:Type}{E:bL α}{l r:List α}{cf:CallF}{f:FuncId}
theorem Iu (o:Has h K)(hl:l≠[])(hb:l.length*1024≤1099511627776):Has (h.alloc (.cells (E.l l))) ((h.next,.sl l.length E.n (E.l l))::K):=
 o.new (fun k hk=>by rw [AHeap.alloc,cR,if_neg (by omega)]) (VD _) (.inr (Uy _)) (Vh _) ⟨⟨bL.bK,bL.mL (by omega)⟩,.inr ⟨by have:=o.pos; omega,[],by rw [AHeap.alloc,cR,if_pos rfl]; simp⟩⟩
theorem Gm (o:Has h K):Has h ((0,.sl ([]:List α).length E.n (E.l []))::K):=Has.nil o E.n
theorem KM (S:DK cf f E.n)(o:Has h K)(hr:Gl E.n l=some r):∃i h',cf f [E.fz l] h=some (.rs i 0 r.length E.n,h')∧Has h' ((i,.sl r.length E.n (E.l r))::K):=by
 obtain⟨hb,rfl⟩:=DL hr
 rw [S]
 by_cases hl:r=[]
 ·subst hl
  exact⟨0,h,rfl,Gm o⟩
 ·have hn:r.length≠0:=fun e=>hl (Vb e)
  refine⟨h.next,_,?_,Iu o hl hb⟩
  show xR E.n [.fz (E.l r) r.length false] h=_
  unfold xR
  simp only
  rw [if_neg hn,if_pos ⟨bL.bK,hb⟩,bL.zL]
end
end Go.R
namespace Go.R
open Go
section
variable {h:AHeap}{K:Mem}{i q off k:Nat}{cs ys:List AV}
theorem dM (o:Has h K)(hq:K[q]? = some (i,.ob cs))(f:aO k h cs ys):jM (k+1) h (.ptr i off) (.fp ys off):=fun n hn=>by
 obtain⟨m,rfl⟩:∃m,n=m+1:=⟨n - 1,by simp only [ia] at hn; omega⟩
 obtain⟨⟨_,h2⟩,_⟩:=o.at_ _ _ _ hq
 simp only [b9,h2,Uu]
 rw [f m (by omega)]; rfl
theorem kZ (hp:cC cs=true∧dk cs=cs):(AV.fp cs off).dO=true∧(AV.fp cs off).jd = .fp cs off:=⟨by simpa [AV.dO] using hp.1,by show AV.fp (dk cs) off=_; rw [hp.2]⟩
theorem gf (hp:cC cs=true∧dk cs=cs):jM 0 h (.fp cs off) (.fp cs off):=kW (kZ hp).1 (fun _=>rfl) (kZ hp).2
end
def Ny {α β:Type}(o:Option α)(n:Option β)(s:α→Option β):Option β:=
 match o with
 | none=>n
 | some y=>s y
end Go.R
namespace Go.R
open Go
def qo:List (AHeap × AHeap × Nat)→Prop
 | []=>True
 | (h,h',i)::l=>h.ver i=h'.ver i∧qo l
theorem oy:∀{a b:List (AHeap × AHeap × Nat)},qo (a++b)→qo a∧qo b
 | [],b,h=>⟨trivial,h⟩
 | (_,_,_)::a,b,h=>by
  have:=oy (a:=a) h.2
  exact⟨⟨h.1,this.1⟩,this.2⟩
theorem wX:∀{l:List Nat} {h h':AHeap},qo (l.map fun id=>(h,h',id))→∀id∈l,h.ver id=h'.ver id
 | i::l,h,h',hp,id,hm=>by
  rcases UT.1 hm with rfl | hm
  ·exact hp.1
  ·exact wX hp.2 id hm
def Iv (x y:lC):Bool:=
 match x.f.wb with
 | some k=>!y.f.rb.contains k&&y.f.wb != some k
 | none=>true
def vb (x y:lC):Option (List (AHeap × AHeap × Nat)):=
 bif Iv x y then (bif x.f.wh then (bif y.f.wh then none else some (y.f.rh.map fun id=>(x.s.h,x.s'.h,id))) else some []) else none
theorem tL {x y:lC}{l:List (AHeap × AHeap × Nat)}(h:vb x y=some l)(hp:qo l):x.je y=true:=by
 have he:x.je y=(Iv x y&&(!x.f.wh||(!y.f.wh&&y.f.rh.all fun id=>U5 (x.s.h.ver id) (x.s'.h.ver id)))):=rfl
 rw [he]
 unfold vb at h
 cases h1:Iv x y with
 | false=>rw [h1] at h; cases h
 | true=>
  rw [h1,cond_true] at h
  cases hw:x.f.wh with
  | false=>rfl
  | true=>
   rw [hw,cond_true] at h
   cases hy:y.f.wh with
   | true=>rw [hy] at h; cases h
   | false=>
    rw [hy,cond_false] at h
    cases h
    simp only [Vu,Bool.false_or,Bool.not_false,V5,UN]
    intro id hid
    rw [wX hp id hid,Nat.beq_refl]
def wY (ms:List Nat)(x:lC)(i:Nat):List (lC × Nat)→Option (List (AHeap × AHeap × Nat))
 | []=>some []
 | y::l=>bif VP y.2 i||(ms.getD y.2 0).testBit i then wY ms x i l else (vb x y.1).bind fun a=>(vb y.1 x).bind fun b=>(wY ms x i l).map fun c=>a++(b++c)
theorem DM {ms:List Nat}{x:lC}{i:Nat}(l:List (lC × Nat)):∀{v:List (AHeap × AHeap × Nat)},wY ms x i l=some v→qo v→∀p∈l,(VP p.2 i||(ms.getD p.2 0).testBit i||(x.je p.1&&p.1.je x))=true:=by
 induction l with
 | nil=>intro v _ _ p hm; cases hm
 | cons y l ih=>
  intro v h hp p hm
  simp only [wY] at h
  cases hc:(VP y.2 i||(ms.getD y.2 0).testBit i) with
  | true=>
   rw [hc,cond_true] at h
   rcases UT.1 hm with rfl | hm
   ·rw [hc,Bool.true_or]
   ·exact ih h hp p hm
  | false=>
   rw [hc,cond_false] at h
   simp only [Ut,Uv] at h
   obtain⟨a,ha,b,hb,c,hc,rfl⟩:=h
   obtain⟨p1,p2⟩:=oy hp
   obtain⟨p2,p3⟩:=oy p2
   rcases UT.1 hm with rfl | hm
   ·rw [tL ha p1,tL hb p2,Bool.and_self,Bool.or_true]
   ·exact ih hc p3 p hm
def zS (ms:List Nat)(all:List (lC × Nat)):List (lC × Nat)→Option (List (AHeap × AHeap × Nat))
 | []=>some []
 | x::l=>(wY ms x.1 x.2 all).bind fun a=>(zS ms all l).map fun b=>a++b
theorem DN {ms:List Nat}{all:List (lC × Nat)}(l:List (lC × Nat)):∀{v:List (AHeap × AHeap × Nat)},zS ms all l=some v→qo v→∀x∈l,∀p∈all,(VP p.2 x.2||(ms.getD p.2 0).testBit x.2||(x.1.je p.1&&p.1.je x.1))=true:=by
 induction l with
 | nil=>intro v _ _ x hm; cases hm
 | cons y l ih=>
  intro v h hp x hm
  simp only [zS,Ut,Uv] at h
  obtain⟨a,ha,b,hb,rfl⟩:=h
  obtain⟨p1,p2⟩:=oy hp
  rcases UT.1 hm with rfl | hm
  ·exact DM all ha p1
  ·exact ih hb p2 x hm
def Iw (ops:List Oper)(arr:Array Oper)(s:RS)(es:List lC):Option (List (AHeap × AHeap × Nat)):=
 let ms:=jf [] ops
 let is:=es.zipIdx
 let uq:=is.filter fun (x,_)=>!x.f.quiet
 if mF arr ms&&uq.all (fun (x,i)=>qN ms (ops.filterMap (·.dst)) s is x i) then zS ms uq uq else none
theorem Gn {P:Program}{cf:CallF}{aE:List Nat}{ops:Array Oper}{s r:RS}{es:List lC}{l:List (AHeap × AHeap × Nat)}(h:Iw ops.toList ops s es=some l)(hp:qo l)(hr:nP P cf aE ops.toList s ops.toList=some (es,r)):ju P cf aE ops s=some r:=by
 unfold Iw at h
 simp only at h
 split at h
 rotate_left
 ·cases h
 rename_i hc
 simp only [Ux] at hc
 obtain⟨h1,h2⟩:=hc
 unfold ju
 simp only [h1,if_true,hr,Uu]
 rw [if_pos]
 rw [UN] at h2 ⊢
 intro x hx
 have a:=h2 x hx
 simp only [Ux] at a ⊢
 refine⟨a,?_⟩
 rw [UN]
 intro y hy
 exact DN _ h hp x hx y hy
def zT (P:Program)(cf:CallF)(A:bX)(c:Code)(fs:List (AV × AHeap))(zs:Fx)(st:St):Option ((Prop × Prop) × St):=
 match c with
 | .region id ops draw=>(qm (st.open A) (fL id A.FF) fs).bind fun (s0,p0)=>(qi P cf A.aE ops.toList s0 0 ops.toList zs).bind fun (es,r,p)=>
   bif draw then (Iw ops.toList ops s0 es).bind fun l=>(km r (fL id A.ye)).map fun r2=>((p0∧p,qo l),r2.lQ A id) else none
 | _=>none
theorem DO {P:Program}{cf:CallF}{A:bX}{m:Nat}{c:Code}{fs:List (AV × AHeap)}{zs:Fx}{st iW:St}{p q:Prop}(h:zT P cf A c fs zs st=some ((p,q),iW))(hp:p)(hq:q):bI P cf A m c st=some (.norm,iW):=by
 unfold zT at h
 split at h
 rotate_left
 ·cases h
 rename_i id ops draw
 simp only [Ut] at h
 obtain⟨⟨s0,p0⟩,h0,⟨es,r,p1⟩,h1,h⟩:=h
 cases draw with
 | false=>cases h
 | true=>
  simp only [cond_true,Ut,Uv,UB] at h
  obtain⟨l,hl,r2,h2,⟨rfl,rfl⟩,rfl⟩:=h
  obtain⟨g1,g2⟩:=uS h1 hp.2
  have g0:=qS h0 hp.1
  simp only [bI,g0,Uu,if_true,Gn hl hq g1,h2,Uz]
inductive Vg
 | mk {h h':AHeap} {i:Nat} (e:h.ver i=h'.ver i)
def Vg.t:Vg→AHeap × AHeap × Nat
 | @mk h h' i e=>(h,h',i)
theorem DP:∀vs:List Vg,qo (vs.map Vg.t)
 | []=>trivial
 | @Vg.mk h h' i e::vs=>⟨e,DP vs⟩
def PT (P:Program)(cf:CallF)(A:bX)(c:Code)(fs gs:List vH)(s:St):St:=((zT P cf A c (BW fs) (wV gs) s).map (·.2)).getD s
section
variable {P:Program}{cf:CallF}{A:bX}{m:Nat}{c:Code}{s:St}{Q R:Ex→St→Prop}
theorem KN (fs gs:List vH)(vs:List Vg)(hQ:Q .norm (PT P cf A c fs gs s))(h:(zT P cf A c (BW fs) (wV gs) s).map (·.1)=some (ps fs∧ps gs,qo (vs.map Vg.t)):=by kernel_rfl):dj P cf A m c s Q:=by
 unfold PT at hQ
 obtain⟨⟨p,s'⟩,h1,rfl⟩:=Uv.1 h
 rw [h1] at hQ
 exact⟨.norm,s',DO h1 ⟨wW fs,wW gs⟩ (DP vs),hQ⟩
end
section
variable {P:Program}{h h':AHeap}{K:Mem}{i j n z q q2:Nat}{c:Ct}{cs:List AV}{x y:AV}{t t2:TypeId}
theorem vc {o:AObj}(hj:j≠i):h.ver j=(h.put i o).ver j:=by
 simp only [AHeap.put,beq_nat]
 simp [hj]
theorem wZ (hj:j≠i):h.ver j=(h.kill i).ver j:=by
 simp only [AHeap.kill,beq_nat]
 simp [hj]
theorem Gp {s:AV}(e:dv P h t t2 s x=some (y,h'))(hs:∀i off n z,s = .rs i off n z→j≠i)(hj:j≠h.next):h.ver j=h'.ver j:=by
 have ha:∀o:AObj,h.ver j=(h.alloc o).ver j:=fun o=>vc hj
 unfold dv at e
 simp only [Ut] at e
 obtain⟨u,hu,e⟩:=e
 split at e
 rotate_left
 ·cases e
 simp only [Ut] at e
 obtain⟨inf,hi,⟨new,m⟩,hc,e⟩:=e
 split at e
 ·cases e
 split at e
 ·split at e
  ·cases e
  ·split at e
   ·cases e; rfl
   ·cases e; exact ha _
 ·split at e
  ·cases e
  ·split at e
   ·split at e<;>(cases e; rfl)
   ·cases e; exact ha _
 ·rename_i id off len ib
  have hne:=hs _ _ _ _ rfl
  split at e
  ·split at e
   ·cases e
   ·split at e
    ·cases e; rfl
    ·cases e; exact ha _
  ·simp only [Ut] at e
   obtain⟨ob,ho,e⟩:=e
   split at e
   rotate_left
   ·cases e
   split at e
   ·cases e
   ·split at e
    ·cases e; rfl
    ·cases e
     exact (wZ hne).trans (vc hj)
 ·cases e
theorem yG (o:Has h K)(hq:K[q]? = some (i,c))(Gq:K[q2]? = some (j,.ob cs))(hne:q≠q2)(e:dv P h t t2 (.rs i 0 n z) x=some (y,h')):h.ver j=h'.ver j:=by
 obtain⟨⟨h1,_⟩,h2⟩:=o.at_ _ _ _ Gq
 refine Gp e (fun i' _ _ _ he=>?_) (by omega)
 cases he
 intro hji
 subst hji
 exact hne (o.nd _ _ _ _ _ hq Gq h1)
end
theorem DQ {cf:CallF}{f:FuncId}{z:Nat}{h h':AHeap}{K:Mem}{q2 j:Nat}{cs:List AV}{x y:AV}(S:DK cf f z)(o:Has h K)(Gq:K[q2]? = some (j,.ob cs))(e:cf f [x] h=some (y,h')):h.ver j=h'.ver j:=by
 obtain⟨⟨h1,_⟩,h2⟩:=o.at_ _ _ _ Gq
 have ha:∀o:AObj,h.ver j=(h.alloc o).ver j:=fun o=>vc (Nat.ne_of_lt h2)
 rw [S] at e
 unfold xR at e
 split at e
 ·cases e; rfl
 ·split at e
  ·cases e; rfl
  ·split at e
   ·cases e; exact ha _
   ·cases e
 ·split at e
  ·cases e; rfl
  ·rw [Ut] at e
   obtain⟨ob,ho,e⟩:=e
   split at e
   ·split at e
    ·cases e; exact ha _
    ·cases e
   ·cases e
 ·cases e
theorem KO {x:Option (AV × AHeap)}{a:AV}{h:AHeap}{z:AV × AHeap}(h1:x=some (a,h))(h2:iU 0 h a=some z):x.bind (fun x=>iU 0 x.2 x.1)=some z:=by rw [h1]; exact h2
theorem Ix {P:Program}{h:AHeap}{K:Mem}{q i t e n:Nat}{inf:TypeInfo}{l:List Int}{j:Int}(ht:P.underlying t=some (.slice e))(hi:P.info? e=some inf)(hs:inf.size=1)(hz:ir P e=some (.int .i64 0))(o:Has h K)(hq:K[q]? = some (i,.sl n 1 (af.l l)))(h0:0≤j)(h1:j≤(l.length:Int)) :
  ∃h',kO P h t (.rs i (0+j.toNat*1) (n - j.toNat) 1)=some h'∧Has h' (K.set q (i,.sl n 1 (af.l (l.take j.toNat++UL (l.length - j.toNat) 0)))):=by
 have hn:n=l.length:=cG (E:=af) o hq
 subst hn
 have hll:(l.take j.toNat++UL (l.length - j.toNat) 0).length=l.length:=by simp; omega
 unfold kO
 rw [ht,Uu]
 simp only
 by_cases hl:l.length - j.toNat=0
 ·refine⟨h,by rw [if_pos hl],?_⟩
  have:l.take j.toNat++UL (l.length - j.toNat) 0=l:=by rw [hl,List.replicate_zero,VT,Va (by omega)]
  rw [this]
  have hK:K.set q (i,.sl l.length 1 (af.l l))=K:=by
   obtain⟨g1,g2⟩:=UA.1 hq
   rw [←g2,List.set_getElem_self]
  rw [hK]; exact o
 ·rw [if_neg hl]
  obtain⟨⟨⟨hlen,qg⟩,ls⟩,hlt⟩:=o.at_ _ _ _ hq
  rcases ls with⟨_,h5⟩| ⟨h5,rest,h6⟩
  ·omega
  rw [if_neg h5]
  simp only [hi,hz,h6,Uu,hs]
  have Sh:ic [AV.int .i64 0] (l.length - j.toNat)=af.l (UL (l.length - j.toNat) 0):=by
   generalize l.length - j.toNat=k
   induction k with
   | zero=>rfl
   | succ k ih=>show [AV.int .i64 0]++ic [AV.int .i64 0] k=_; rw [ih]; rfl
  rw [if_pos ⟨trivial,rfl,by decide,rfl,by rw [UD,hlen]; omega⟩]
  refine⟨_,rfl,?_⟩
  refine jj o hq ?_
  have HK:(af.l (l.take j.toNat++UL (l.length - j.toNat) 0)).length=l.length*1:=(bL.bK (E:=af)).trans (by rw [hll]; rfl)
  refine⟨⟨HK,by rw [HK]; rw [hlen] at qg; exact qg⟩,.inr ⟨h5,rest,?_⟩⟩
  rw [cR,if_pos rfl]
  congr 2
  show da (af.l l++rest) (0+j.toNat*1) (ic [AV.int .i64 0] (l.length - j.toNat))=_
  rw [Sh,bL.gW]
  have Iy:=gX (af.l (l.drop j.toNat)) (af.l (UL (l.length - j.toNat) 0)) (af.l (l.take j.toNat)) rest (by
   rw [bL.bK,bL.bK]; simp)
  rw [←bL.gW,VF] at Iy
  have hp:(af.l (l.take j.toNat)).length=0+j.toNat*1:=by
   rw [bL.bK]; show _*1=_; simp; omega
  rw [hp] at Iy
  exact Iy
end Go.R
namespace Go.R
open Go
def PU (P:Program)(t:TypeId):Bool:=
 match P.underlying t with
 | some (.map kt et)=>(P.underlying kt matches some (.int .i64))&&(match ir P et with | some (.bool b)=>!b | _=>false)
 | _=>false
section
variable {P:Program}{h:AHeap}{K:Mem}{i q n b:Nat}{t t2:TypeId}{α:Type}{E:bL α}{l r s:List α}{x:AV}
def KP {α:Type}(l s:List α):Option (List α):=if s.length≤l.length then some (s++l.drop s.length) else none
theorem Gr (T:wK P t E.n b=true)(o:Has h K)(hq:K[q]? = some (i,.sl n E.n (E.l l)))(hc:dU h E.n x=some (E.l s,s.length))(gu:iu P t2 x=true)(nJ:(E.l s).all AV.bP=true)(hr:KP l s=some r) :
  ∃h',pK P h t t2 (.rs i 0 n E.n) x=some (.int .i64 s.length,h')∧Has h' (K.set q (i,.sl n E.n (E.l r))):=by
 have hn:=cG o hq
 subst hn
 unfold KP at hr
 split at hr
 rotate_left
 ·cases hr
 rename_i hle
 cases hr
 obtain⟨e,inf,g1,g2,g3,g4,g5,g6⟩:=jF T
 obtain⟨⟨⟨hlen,qg⟩,ls⟩,hlt⟩:=o.at_ _ _ _ hq
 have hll:(s++l.drop s.length).length=l.length:=by simp; omega
 simp only [pK,g1,Uu,g2,g3,hc,gu,Bool.true_eq_false,if_false]
 rcases ls with⟨h0,h1⟩| ⟨h0,rest,h1⟩
 ·have hl0:l=[]:=by simpa using h1
  subst hl0
  have hs0:s=[]:=by cases s with | nil=>rfl | cons _ _=>simp at hle
  subst hs0
  refine⟨h,by simp [h0],?_⟩
  have hK:K.set q (i,.sl ([]:List α).length E.n (E.l ([]++([]:List α).drop ([]:List α).length)))=K:=by
   obtain⟨g1,g2⟩:=UA.1 hq
   show K.set q (i,.sl ([]:List α).length E.n (E.l []))=K
   rw [←g2,List.set_getElem_self]
  rw [hK]; exact o
 ·rw [if_neg h0,h1]
  simp only [Uu]
  rw [if_pos ⟨trivial,hle,by
   rw [UD,hlen,UR]
   exact Vj (Vm _ hle) (Nat.le_add_right _ _)⟩]
  refine⟨_,rfl,jj o hq ⟨⟨by rw [bL.bK,hll],by rw [bL.bK,hll,←hlen]; exact qg⟩,.inr ⟨h0,rest,?_⟩⟩⟩
  rw [cR,if_pos rfl]
  congr 2
  have Iy:=gX (E.l (l.take s.length)) (E.l s) [] (E.l (l.drop s.length)++rest) (by rw [bL.bK,bL.bK,Vz,VQ hle])
  simp only [U7,UW] at Iy
  rw [←UK,←bL.gW,VF] at Iy
  rw [Iy,bL.gW,UK]
theorem Iz:dU h E.n (E.fz l)=some (E.l l,l.length):=by
 simp only [dU,bL.fz]
 rw [if_pos bL.bK]
end
theorem KQ:∀l:List Int,(af.l l).all AV.bP=true:=fun l=>by
 induction l with
 | nil=>rfl
 | cons a l ih=>rw [bL.eo,List.all_append,ih]; rfl
section
variable {P:Program}{h:AHeap}{K:Mem}{i q n b:Nat}{t:TypeId}{α:Type}{E:bL α}{l:List α}{j:Int}{k:IntKind}
def JN (l:List Int)(j:Int):Option (List Int):=if 0≤j∧j≤l.length then some (l.take j.toNat++UL (l.length - j.toNat) 0) else none
theorem sa {l r:List Int}{j:Int}(h:JN l j=some r):0≤j∧j≤l.length∧r=l.take j.toNat++UL (l.length - j.toNat) 0:=by
 unfold JN at h
 split at h
 ·rename_i g; cases h; exact⟨g.1,g.2,rfl⟩
 ·cases h
theorem IA (T:wK P t E.n b=true)(o:Has h K)(hq:K[q]? = some (i,.sl n E.n (E.l l)))(h0:0≤j)(h1:j≤(l.length:Int)):kM P t (.rs i 0 n E.n) (some (.int k j)) none none=some (.rs i (0+j.toNat*E.n) (n - j.toNat) E.n):=by
 have hn:=cG o hq
 subst hn
 obtain⟨e,inf,g1,g2,g3,g4,g5,g6⟩:=jF T
 simp only [kM,g1,Uu,g6,if_true,jP]
 rw [if_pos ⟨h0,by omega⟩]
 simp only [Uu,Uz,UG]
def Nz (P:Program)(t:TypeId):Bool:=
 match P.underlying t with
 | some (.slice e)=>(match P.info? e with | some inf=>inf.size==1 | none=>false)&&(match ir P e with | some (.int .i64 z)=>z==0 | _=>false)
 | _=>false
theorem IB {l r:List Int}(T:Nz P t=true)(o:Has h K)(hq:K[q]? = some (i,.sl n 1 (af.l l)))(hr:JN l j=some r) :
  ∃h',(kO P h t (.rs i (0+j.toNat*1) (n - j.toNat) 1)).map (fun h=>(AV.tup [],h))=some (AV.tup [],h')∧Has h' (K.set q (i,.sl n 1 (af.l r))):=by
 obtain⟨h0,h1,rfl⟩:=sa hr
 unfold Nz at T
 split at T
 rotate_left
 ·cases T
 rename_i e ht
 simp only [Ux] at T
 obtain⟨T1,T2⟩:=T
 split at T1
 rotate_left
 ·cases T1
 rename_i inf hi
 split at T2
 rotate_left
 ·cases T2
 rename_i z hz
 simp only [beq_iff_eq] at T1 T2
 subst T2
 obtain⟨h',e1,o1⟩:=Ix ht hi T1 hz o hq h0 h1
 exact⟨h',by rw [e1]; rfl,o1⟩
end
section
variable {h:AHeap}{f k k2:Nat}{cs ys:List AV}
theorem sb (g:aO k h cs ys):jM (k+1) h (.fn f cs) (.fn f ys):=fun n hn=>by
 obtain⟨m,rfl⟩:∃m,n=m+1:=⟨n - 1,by simp only [ia] at hn; omega⟩
 simp only [b9]
 rw [g m (by omega)]; rfl
theorem aO.mono {k k':Nat}{x y:List AV}(hk:k≤k')(f:aO k h x y):aO k' h x y:=fun n hn=>f n (by omega)
theorem iJ {xs:List AV}(f:aO k h xs ys)(hk:k≤cw:=by decide):aO cw h xs ys:=aO.mono hk f
theorem DR:∀{us bs cs ys:List AV} {k1 k2:Nat},aO k1 h us bs→aO k2 h cs ys→aO (k1+k2+us.length+1) h (us++cs) (bs++ys)
 | [],bs,cs,ys,k1,k2,f,g=>fun n hn=>by
  have:=f (ia+k1) (Uy _)
  have hb:bs=[]:=by
   cases hm:ia+k1 with
   | zero=>simp [ia] at hm
   | succ m=>rw [hm] at this; simp only [bq,Uw] at this; exact this.symm
  subst hb
  exact g n (by omega)
 | a::us,bs,cs,ys,k1,k2,f,g=>fun n hn=>by
  have h1:=f (ia+k1) (Uy _)
  obtain⟨m,rfl⟩:∃m,n=m+1:=⟨n - 1,by simp only [ia] at hn; omega⟩
  have hb:∃b KR,bs=b::KR:=by
   cases hm:ia+k1 with
   | zero=>simp [ia] at hm
   | succ m=>
    rw [hm] at h1
    simp only [bq,Ut,Uv] at h1
    obtain⟨y,_,zs,_,e⟩:=h1
    exact⟨y,zs,e.symm⟩
  obtain⟨b,KR,rfl⟩:=hb
  have key:∀n',ia+k1≤n'+1→b9 h n' a=some b∧bq h n' us=some KR:=fun n' Kk=>by
   have:=f (n'+1) Kk
   simp only [bq,Ut,Uv] at this
   obtain⟨y,hy,zs,hz,e⟩:=this
   cases e
   exact⟨hy,hz⟩
  have f2:aO k1 h us KR:=fun n' Kk=>(key n' (by omega)).2
  have:=DR f2 g m (by simp only [UI] at hn; omega)
  show bq h (m+1) (a::(us++cs))=some (b::(KR++ys))
  simp only [bq]
  rw [(key m (by omega)).1,this]
  rfl
theorem Hq {us bs:List AV}{k:Nat}(f:aO k h us bs)(g:aO cw h cs ys)(hk:k≤500:=by decide)(hl:us.length≤400:=by simp):aO bO h (us++cs) (bs++ys):=(DR f g).mono (by
 have:k+cw+us.length+1≤cw+1001:=by omega
 exact Vj this (by decide))
end
theorem DS {α:Type}{E:bL α}{l:List α}{h h':AHeap}{K:Mem}{q q2 i j n:Nat}{cs:List AV}{y:AV}(o:Has h K)(hq:K[q]? = some (i,.sl n E.n (E.l l)))(Gq:K[q2]? = some (j,.ob cs))(e:iU 0 h (.rs i 0 n E.n)=some (y,h'))(hp:E.flat=true:=by rfl):h.ver j=h'.ver j:=by
 have hn:=cG o hq
 subst hn
 obtain⟨⟨⟨hlen,qg⟩,ls⟩,hlt⟩:=o.at_ _ _ _ hq
 obtain⟨⟨hj,_⟩,_⟩:=o.at_ _ _ _ Gq
 have hne:j≠i:=by
  intro he
  subst he
  have:=o.nd _ _ _ _ _ hq Gq hj
  subst this
  rw [hq] at Gq
  cases Gq
 simp only [iU] at e
 rcases ls with⟨h0,h1⟩| ⟨h0,rest,h1⟩
 ·rw [if_pos h0,if_pos h1] at e
  cases e; rfl
 ·rw [if_neg h0,h1] at e
  simp only [Uu] at e
  have e1:((E.l l++rest).drop 0).take (l.length*E.n)=E.l l:=by
   rw [Vd,U4 (by rw [hlen]; exact Uy _),Va (by rw [hlen]; exact Uy _)]
  rw [e1,if_pos (by rw [UD,hlen]; omega),pd (bL.nz hp).1] at e
  cases e
  exact wZ hne
end Go.R
namespace Go.R
open Go
def nL (k i:Nat):Nat:=if i=0 then 0 else i+k
theorem zU {k i off n z:Nat}:cM k (.rs i off n z)=some (.rs (nL k i) off n z):=by
 unfold cM nL
 split<;>rfl
theorem qY {k:Nat}:cd k []=some []:=rfl
theorem gC {k:Nat}{x y:AV}{xs ys:List AV}(a:cM k x=some y)(b:cd k xs=some ys):cd k (x::xs)=some (y::ys):=by
 simp only [cd,a,b,Uu,Uz]
theorem DT {k:Nat}{xs ys:List AV}(b:cd k xs=some ys):cM k (.agg xs)=some (.agg ys):=by
 simp only [cM,b,Uz]
theorem IC {k:Nat}{xs ys:List AV}(b:cd k xs=some ys):cM k (.tup xs)=some (.tup ys):=by
 simp only [cM,b,Uz]
theorem mg {k:Nat}:∀{a a' b b':List AV},cd k a=some a'→cd k b=some b'→cd k (a++b)=some (a'++b')
 | [],a',b,b',h1,h2=>by simp only [cd,Uw] at h1; subst h1; exact h2
 | x::a,a',b,b',h1,h2=>by
  simp only [cd,Ut,Uv] at h1
  obtain⟨y,h3,ys,h4,rfl⟩:=h1
  exact gC h3 (mg h4 h2)
theorem nE {k:Nat}:∀{a a':List AV} (r:List AV),cd k a=some a'→fm k (a++r)=a'++fm k r
 | [],a',r,h1=>by simp only [cd,Uw] at h1; subst h1; rfl
 | x::a,a',r,h1=>by
  simp only [cd,Ut,Uv] at h1
  obtain⟨y,h3,ys,h4,rfl⟩:=h1
  have e:fm k (x::(a++r))=y::fm k (a++r):=by rw [fm,h3]
  show fm k (x::(a++r))=(y::ys)++fm k r
  rw [e,nE r h4]; rfl
theorem p7 {k:Nat}:∀{a a':List AV},cd k a=some a'→a'.length=a.length
 | [],a',h1=>by simp only [cd,Uw] at h1; subst h1; rfl
 | x::a,a',h1=>by
  simp only [cd,Ut,Uv] at h1
  obtain⟨y,h3,ys,h4,rfl⟩:=h1
  rw [UI,UI,p7 h4]
def NA (k:Nat):Nat × Ct→Nat × Ct→Prop
 | (i,.sl n z cs),b=>∃eQ,cd k cs=some eQ∧b=(nL k i,.sl n z eQ)
 | (i,.ob cs),b=>∃eQ,cd k cs=some eQ∧b=(nL k i,.ob eQ)
 | _,_=>False
inductive CC (k:Nat)(L:Mem):Mem→Mem→Prop
 | nil:CC k L [] L
 | cons {a b:Nat × Ct} {K K':Mem} (e:NA k a b) (g:CC k L K K'):CC k L (a::K) (b::K')
section
variable {k i n z:Nat}{L K K':Mem}{α:Type}{E:bL α}{l:List α}
theorem KS (hE:∀a,cd k (E.f a)=some (E.f a)):∀l:List α,cd k (E.l l)=some (E.l l)
 | []=>rfl
 | a::l=>by rw [bL.eo]; exact mg (hE a) (KS hE l)
theorem Hr (hE:∀a,cd k (E.f a)=some (E.f a))(g:CC k L K K'):CC k L ((i,.sl n z (E.l l))::K) ((nL k i,.sl n z (E.l l))::K'):=.cons ⟨_,KS hE l,rfl⟩ g
theorem DU:∀(ns:List aq) (ids:List Nat),cd k (gd.l (bC ns ids))=some (gd.l (bC ns (ids.map (nL k))))
 | [],_=>rfl
 | a::ns,ids=>by
  have h1:(ids.map (nL k)).headD 0=nL k (ids.headD 0):=by cases ids<;>rfl
  have h2:(ids.map (nL k)).tail=ids.tail.map (nL k):=by cases ids<;>rfl
  show cd k (gd.f (a,ids.headD 0)++gd.l (bC ns ids.tail))=some (gd.f (a,(ids.map (nL k)).headD 0)++gd.l (bC ns (ids.map (nL k)).tail))
  rw [h1,h2]
  exact mg (gC rfl (gC rfl (gC rfl (gC zU qY)))) (DU ns ids.tail)
theorem Hs {ns:List aq}{ids:List Nat}(g:CC k L K K'):CC k L ((i,.sl n z (gd.l (bC ns ids)))::K) ((nL k i,.sl n z (gd.l (bC ns (ids.map (nL k)))))::K'):=.cons ⟨_,DU ns ids,rfl⟩ g
theorem yH:∀{ns:List aq} {ids:List Nat},CC k L K K'→CC k L (fT ns ids++K) (fT ns (ids.map (nL k))++K')
 | [],_,g=>g
 | a::ns,ids,g=>by
  have h1:(ids.map (nL k)).headD 0=nL k (ids.headD 0):=by cases ids<;>rfl
  have h2:(ids.map (nL k)).tail=ids.tail.map (nL k):=by cases ids<;>rfl
  show CC k L (yE (a,ids.headD 0)::(fT ns ids.tail++K)) (yE (a,(ids.map (nL k)).headD 0)::(fT ns (ids.map (nL k)).tail++K'))
  rw [h1,h2]
  exact Hr (E:=af) (fun _=>rfl) (yH g)
end
theorem ID {k:Nat}{L K K':Mem}(g:CC k L K K'):∃K2,K'=K2++L∧K2.length=K.length∧∀(j:Nat) b,K2[j]? = some b→∃a,K[j]? = some a∧NA k a b:=by
 induction g with
 | nil=>exact⟨[],rfl,rfl,fun j b h=>by simp at h⟩
 | cons e g ih=>
  rename_i a b K K'
  obtain⟨K2,rfl,h2,h3⟩:=ih
  refine⟨b::K2,rfl,by rw [UI,UI,h2],fun j c hj=>?_⟩
  cases j with
  | zero=>simp only [Vc,Uw] at hj; subst hj; exact⟨a,rfl,e⟩
  | succ j=>simp only [VB] at hj ⊢; exact h3 j c hj
theorem vd {k i i':Nat}{c c':Ct}(e:NA k (i,c) (i',c')):i'=nL k i:=by
 cases c with
 | sl n z cs=>obtain⟨_,_,h⟩:=e; cases h; rfl
 | ob cs=>obtain⟨_,_,h⟩:=e; cases h; rfl
 | mp es=>exact e.elim
 | row t cs=>exact e.elim
theorem Has.eu {h h1:AHeap}{K1 K2 L:Mem}(o:Has h L)(o1:Has h1 K1)(g:CC h.next L K1 K2):Has (h.eu h1) K2:=by
 obtain⟨K3,rfl,hlen,Bp⟩:=ID g
 have hnx:(h.eu h1).next=h.next+h1.next:=rfl
 have Fs:∀{i:Nat},i≠0→nL h.next i=i+h.next:=fun hi=>if_neg hi
 have hget:∀{i:Nat} {cs:List AV},i≠0→h1.get i=some (.cells cs)→(h.eu h1).get (nL h.next i)=some (.cells (fm h.next cs)):=fun {i cs} hi hg=>by
  rw [Fs hi,(jE (Nat.le_add_left _ _)).1,Nat.add_sub_cancel,hg]; rfl
 have hidlt:∀{i:Nat},i<h1.next→nL h.next i<(h.eu h1).next:=fun {i} hi=>by
  rw [hnx]
  by_cases h0:i=0
  ·subst h0; show 0<_; have:=o.pos; omega
  ·rw [Fs h0]; omega
 refine⟨fun j i c hj=>?_,fun j j' i c c' hj xP hi=>?_,by rw [hnx]; have:=o.pos; omega⟩
 ·by_cases hl:j<K3.length
  ·rw [UJ hl] at hj
   obtain⟨⟨i1,c1⟩,ha,he⟩:=Bp j _ hj
   obtain⟨w1,w2⟩:=o1.at_ _ _ _ ha
   cases c1 with
   | sl n z cs=>
    obtain⟨eQ,h3,h4⟩:=he
    cases h4
    refine⟨⟨by rw [p7 h3]; exact w1.1,?_⟩,hidlt w2⟩
    rcases w1.2 with⟨h5,h6⟩| ⟨h5,rest,h6⟩
    ·left; subst h5; exact⟨rfl,h6⟩
    ·right
     refine⟨by rw [Fs h5]; omega,fm h.next rest,?_⟩
     rw [hget h5 h6,nE rest h3]
   | ob cs=>
    obtain⟨eQ,h3,h4⟩:=he
    cases h4
    refine⟨⟨by rw [Fs w1.1]; have:=w1.1; omega,?_⟩,hidlt w2⟩
    rw [hget w1.1 w1.2]
    have:=nE [] h3
    rw [VT] at this
    rw [this]; simp [fm]
   | mp es=>exact he.elim
   | row t cs=>exact he.elim
  ·rw [UO (by omega)] at hj
   obtain⟨w1,w2⟩:=o.at_ _ _ _ hj
   exact⟨nA (fun _=>(iZ w2).1) w1,by rw [hnx]; omega⟩
 ·by_cases hl:j<K3.length<;>by_cases nH:j'<K3.length
  ·rw [UJ hl] at hj
   rw [UJ nH] at xP
   obtain⟨⟨i1,c1⟩,ha,he⟩:=Bp j _ hj
   obtain⟨⟨i2,c2⟩,Si,Sj⟩:=Bp j' _ xP
   have e1:=vd he
   have e2:=vd Sj
   have n1:i1≠0:=fun h0=>hi (by rw [e1,h0]; rfl)
   have n2:i2≠0:=fun h0=>hi (by rw [e2,h0]; rfl)
   rw [Fs n1] at e1
   rw [Fs n2] at e2
   have:i2=i1:=by omega
   subst this
   exact o1.nd _ _ _ _ _ ha Si n1
  ·rw [UJ hl] at hj
   rw [UO (by omega)] at xP
   obtain⟨⟨i1,c1⟩,ha,he⟩:=Bp j _ hj
   have e1:=vd he
   have n1:i1≠0:=fun h0=>hi (by rw [e1,h0]; rfl)
   rw [Fs n1] at e1
   have:=(o.at_ _ _ _ xP).2
   omega
  ·rw [UO (by omega)] at hj
   rw [UJ nH] at xP
   obtain⟨⟨i1,c1⟩,ha,he⟩:=Bp j' _ xP
   have e1:=vd he
   have n1:i1≠0:=fun h0=>hi (by rw [e1,h0]; rfl)
   rw [Fs n1] at e1
   have:=(o.at_ _ _ _ hj).2
   omega
  ·rw [UO (by omega)] at hj xP
   have:=o.nd _ _ _ _ _ hj xP hi
   omega
theorem pq (h h1:AHeap):∀j,j<h.next→h.ver j=(h.eu h1).ver j:=fun j hj=>(iZ hj).2.symm
theorem sc {P:Program}{T:mW}{m f deep:Nat}{h h':AHeap}{xs ys:List AV}{r y:AV}(h1:T.intr f=none)(h2:T.pure f=some deep)(h3:T.eu f=true)(hd:ia+bO≤deep)(hx:aO bO h xs ys)(hb:a7 P T.aV (iI P T m) m f ys bu=some (r,h'))(hg:cM h.next r=some y):iI P T m f xs h=some (y,h.eu h'):=by
 refine kA ?_
 simp only [p6,h1,h2,h3,if_true,hx deep hd,Uu,hb,hg,Uz]
theorem Gs {P:Program}{t:TypeId}{a b c d:Int}(h:∀a b c d:Int,lO P .eql t (.agg [.int .i64 a,.int .i64 b]) (.agg [.int .i64 c,.int .i64 d])=some (.bool (fe (.agg [.int .i64 a,.int .i64 b]) (.agg [.int .i64 c,.int .i64 d])==true))) :
  lO P .eql t (.agg [.int .i64 a,.int .i64 b]) (.agg [.int .i64 c,.int .i64 d])=some (.bool (a==c&&b==d)):=by
 rw [h]
 congr 2
 have:=kY [a,b] [c,d]
 have e:fe (.agg [.int .i64 a,.int .i64 b]) (.agg [.int .i64 c,.int .i64 d])=kN (af.l [a,b]) (af.l [c,d]):=rfl
 rw [e,this]
 by_cases h1:a=c<;>by_cases h2:b=d<;>simp [h1,h2]
theorem Has.w0 {h:AHeap}{pre mid N L:Mem}(o:Has h (pre++(mid++(N++L)))):Has h (pre++(N++(mid++L))):=by
 refine o.perm (List.Perm.append_left _ ?_)
 rw [←UK,←UK]
 exact List.Perm.append_right _ List.perm_append_comm
def ve (ns:List aq)(ids:List Nat)(j:Int)(ad:Nat):List Nat:=(va ns ids).set j.toNat ad
theorem tM:∀(ns:List aq) (ids:List Nat),bC ns (va ns ids)=bC ns ids
 | [],_=>rfl
 | a::ns,ids=>by
  have:=tM ns ids.tail
  simp only [va,bC,UX,List.headD_cons,List.tail_cons] at this ⊢
  rw [this]
theorem tN:∀(ns:List aq) (ids:List Nat) (i:Nat) (n:aq) (ad:Nat),ns.length=ids.length→bC (ns.set i n) (ids.set i ad)=(bC ns ids).set i (n,ad)
 | [],_,_,_,_,_=>rfl
 | a::ns,[],_,_,_,h=>by simp at h
 | a::ns,j::ids,0,n,ad,_=>rfl
 | a::ns,j::ids,i+1,n,ad,h=>by
  have:=tN ns ids i n ad (by simpa using h)
  simp only [List.set_cons_succ,bC,List.headD_cons,List.tail_cons,this]
theorem tO (ns:List aq)(ids:List Nat)(j:Int)(n:aq)(ad:Nat):bC (ns.set j.toNat n) (ve ns ids j ad)=(bC ns ids).set j.toNat (n,ad):=by
 unfold ve
 rw [tN ns (va ns ids) j.toNat n ad (by unfold va; rw [UQ,fG]),tM]
section
variable {P:Program}{tf:TypeId}{h:AHeap}{pre L:Mem}{ns:List aq}{ids:List Nat}{i ad k n2 q:Nat}{j:Int}{n:aq}{args:List Int}
theorem Gt (o:Has h ((i,.sl k 4 (gd.l (bC ns ids)))::(ad,.sl n2 1 (af.l args))::(pre++(fT ns ids++L))))(hs:eO P tf=some 1)(hx:ix ns j=some n) :
  ∃h',iO P h tf (.ptr i (0+j.toNat*4+3)) (.rs ad 0 n2 1)=some h'∧
   Has h' ((i,.sl k 4 (gd.l (bC (ns.set j.toNat ⟨n.kind,n.int,n.label,args⟩) (ve ns ids j ad))))::(pre++(fT (ns.set j.toNat ⟨n.kind,n.int,n.label,args⟩) (ve ns ids j ad)++L))):=by
 have hn:n2=args.length:=cG (E:=af) o (q:=1) rfl
 subst hn
 obtain⟨h0,h1,h2⟩:=gL hx
 obtain⟨h',e,o'⟩:=F7 (P:=P) (tf:=tf) (E:=gd) (l:=bC ns ids) (q:=0) (off:=3) (v:=((⟨n.kind,n.int,n.label,args⟩:aq),ad)) (x:=.rs ad 0 args.length 1) o rfl hs (qX hx) rfl rfl (by decide) rfl
 refine⟨h',e,?_⟩
 have e1:(bC ns ids).set j.toNat ((⟨n.kind,n.int,n.label,args⟩:aq),ad)=bC (ns.set j.toNat ⟨n.kind,n.int,n.label,args⟩) (ve ns ids j ad):=(tO ns ids j _ ad).symm
 have e2:fT (ns.set j.toNat ⟨n.kind,n.int,n.label,args⟩) (ve ns ids j ad)=(fT ns ids).set j.toNat (yE (⟨n.kind,n.int,n.label,args⟩,ad)):=by
  unfold fT; rw [tO,List.map_set]
 rw [←e1,e2]
 have o2:Has h' ((i,.sl k 4 (gd.l ((bC ns ids).set j.toNat ((⟨n.kind,n.int,n.label,args⟩:aq),ad))))::yE (⟨n.kind,n.int,n.label,args⟩,ad)::(pre++(fT ns ids++L))):=o'
 have hl:j.toNat<(fT ns ids).length:=by unfold fT; rw [UQ,fG]; omega
 have e3:(fT ns ids).set j.toNat (yE (⟨n.kind,n.int,n.label,args⟩,ad))=(fT ns ids).take j.toNat++yE (⟨n.kind,n.int,n.label,args⟩,ad)::(fT ns ids).drop (j.toNat+1):=by
  rw [List.set_eq_take_append_cons_drop,if_pos hl]
 have e4:fT ns ids=(fT ns ids).take j.toNat++(fT ns ids)[j.toNat]::(fT ns ids).drop (j.toNat+1):=by
  conv=>lhs; rw [←VF j.toNat (fT ns ids),UH hl]
 rw [e3]
 generalize hA:(fT ns ids).take j.toNat=A at *
 generalize hB:(fT ns ids).drop (j.toNat+1)=B at *
 rw [e4] at o2
 have o3:=(o2.del (pre.length+A.length+2))
 have e5:((i,Ct.sl k 4 (gd.l ((bC ns ids).set j.toNat ((⟨n.kind,n.int,n.label,args⟩:aq),ad))))::yE (⟨n.kind,n.int,n.label,args⟩,ad)::(pre++((A++(fT ns ids)[j.toNat]::B)++L))).eraseIdx (pre.length+A.length+2)=(i,Ct.sl k 4 (gd.l ((bC ns ids).set j.toNat ((⟨n.kind,n.int,n.label,args⟩:aq),ad))))::yE (⟨n.kind,n.int,n.label,args⟩,ad)::(pre++((A++B)++L)):=by
  show _::_::(pre++((A++(fT ns ids)[j.toNat]::B)++L)).eraseIdx (pre.length+A.length)=_
  congr 2
  rw [List.eraseIdx_append_of_length_le (by omega),VJ,UK,List.eraseIdx_append_of_length_le (by omega),V3]
  simp
 rw [e5] at o3
 refine o3.perm (List.Perm.cons _ ?_)
 have k1:pre++((A++yE ((⟨n.kind,n.int,n.label,args⟩:aq),ad)::B)++L)=(pre++A)++yE (⟨n.kind,n.int,n.label,args⟩,ad)::(B++L):=by simp
 have k2:pre++((A++B)++L)=(pre++A)++(B++L):=by simp
 rw [k1,k2]
 exact List.perm_middle
theorem mP:∀(ns:List aq) (ids:List Nat) (k:Nat),bC (ns.drop k) (ids.drop k)=(bC ns ids).drop k
 | ns,ids,0=>rfl
 | [],_,k+1=>by simp [bC]
 | a::ns,[],k+1=>by
  have:=mP ns [] k
  simpa [bC] using this
 | a::ns,j::ids,k+1=>by
  have:=mP ns ids k
  simpa [bC] using this
theorem DV (o:Has h (pre++(fT (ns.drop j.toNat) (ids.drop j.toNat)++L)))(hq:pre[q]? = some (i,.sl k 4 (gd.l (bC ns ids))))(hx:ix ns j=some n) :
  Has h ((JM ids j,.sl n.args.length 1 (af.l n.args))::(pre++(fT (ns.drop (IntKind.i64.wrap (j+(1:Int))).toNat) (ids.drop (IntKind.i64.wrap (j+(1:Int))).toNat)++L))):=by
 obtain⟨h0,h1,h2⟩:=gL hx
 have Sk:q<pre.length:=(UA.1 hq).1
 have uB:(pre++(fT (ns.drop j.toNat) (ids.drop j.toNat)++L))[q]? = some (i,.sl k 4 (gd.l (bC ns ids))):=by rw [UJ Sk]; exact hq
 obtain⟨⟨⟨_,qg⟩,_⟩,_⟩:=o.at_ _ _ _ uB
 have qg:(gd.l (bC ns ids)).length≤1125899906842624:=qg
 rw [bL.bK,fG] at qg
 have qg:ns.length*4≤1125899906842624:=qg
 have hw:(IntKind.i64.wrap (j+(1:Int))).toNat=j.toNat+1:=by
  have hm:(j+1) % 18446744073709551616=j+1:=Int.emod_eq_of_lt (by omega) (by omega)
  have:IntKind.i64.wrap (j+(1:Int))=j+1:=by
   show (if true&&decide ((j+1) % 18446744073709551616≥9223372036854775808) then (j+1) % 18446744073709551616 - 18446744073709551616 else (j+1) % 18446744073709551616)=j+1
   rw [hm]
   have:decide (j+1≥9223372036854775808)=false:=by rw [decide_eq_false_iff_not]; omega
   rw [this]; rfl
  rw [this]; omega
 rw [hw]
 have e:fT (ns.drop j.toNat) (ids.drop j.toNat)=(JM ids j,.sl n.args.length 1 (af.l n.args))::fT (ns.drop (j.toNat+1)) (ids.drop (j.toNat+1)):=by
  unfold fT
  rw [mP,mP]
  have hz:=r7 ns ids _ _ h2
  have hl:j.toNat<(bC ns ids).length:=by rw [fG]; omega
  rw [UH hl]
  have:(bC ns ids)[j.toNat]=(n,ids.getD j.toNat 0):=(UA.1 hz).2
  rw [this]
  rfl
 rw [e] at o
 refine o.perm ?_
 exact List.perm_middle.symm
end
end Go.R
namespace Go.Proofs.Ytifafejidnjckaa
open Go Go.R
open Go.IntKind (i64 u64 u8 u32)
structure aN where
 eF:Int
 tP:Int
 CD:Int
 eJ:ByteArray
 fO:List Int
 w5:br
structure ab where
 aj:Bool
 aa:List aq
 ae:List Int
structure a6 where
 jN:Int
 kL:Int
def aU:bL aN:={n:=7,f:=fun x=>[.int .i64 x.eF,.int .i64 x.tP,.int .i64 x.CD,.str x.eJ,af.fz x.fO,ai.fz x.w5.nodes,.int .i64 x.w5.root],len:=fun _=>rfl,pos:=by decide,pure:=fun x _=>pure_cons fZ (pure_cons fZ (pure_cons fZ (pure_cons mb (pure_cons bL.bD (pure_cons bL.bD (pure_cons fZ (pure_nil))))))),canon:=fun _=>rfl}
def dC:bL a6:={n:=2,f:=fun x=>[.int .i64 x.jN,.int .i64 x.kL],len:=fun _=>rfl,pos:=by decide,pure:=fun x _=>pure_cons fZ (pure_cons fZ (pure_nil)),canon:=fun _=>rfl}
theorem L4:wK Try.prog 22 7 96=true:=by kernel_rfl
theorem fU:wK Try.prog 33 1 8=true:=by kernel_rfl
theorem xS:wK Try.prog 40 4 56=true:=by kernel_rfl
theorem NB:wK Try.prog 93 2 16=true:=by kernel_rfl
theorem A3:fJ Try.prog 3=some false:=by kernel_rfl
theorem Sl:fJ Try.prog 33=some false:=by kernel_rfl
theorem PV:fJ Try.prog 40=some false:=by kernel_rfl
theorem Sm:fJ Try.prog 44=some true:=by kernel_rfl
theorem Fz:fJ Try.prog 51=some true:=by kernel_rfl
theorem Z3:eO Try.prog 3=some 1:=by kernel_rfl
theorem Sn:eO Try.prog 33=some 1:=by kernel_rfl
theorem Sp:eO Try.prog 44=some 7:=by kernel_rfl
theorem FA:eO Try.prog 51=some 4:=by kernel_rfl
theorem U9:Try.prog.underlying 9=some .string:=by kernel_rfl
theorem KT:wQ Try.prog 82=true:=by kernel_rfl
theorem zV:wR Try.prog 113 9=true:=by kernel_rfl
theorem DW:Try.prog.underlying 113=some (.map 115 3):=by kernel_rfl
theorem tQ:BR Try.prog 115 9=true:=by kernel_rfl
theorem NC:Nz Try.prog 33=true:=by kernel_rfl
theorem ND:∀a b c d:Int,lO Try.prog .eql 92 (.agg [.int .i64 a,.int .i64 b]) (.agg [.int .i64 c,.int .i64 d])=some (.bool (fe (.agg [.int .i64 a,.int .i64 b]) (.agg [.int .i64 c,.int .i64 d])==true)):=by
 intro a b c d
 kernel_rfl
def cU.f (m:Nat):Option Bool:=some true
def PW (cf:CallF)(m:Nat):Prop:=∀r:Bool,cU.f m=some r→∀h xs,aO bO h xs []→cf 11 xs h=some (.bool r,h)
def PX (cf:CallF)(m:Nat):Prop:=DK cf 39 1
def PY (cf:CallF)(m:Nat):Prop:=Hp cf 60
end Go.Proofs.Ytifafejidnjckaa
namespace Go.Proofs.Ytifafejidnjckaa
open Go Go.R
open Go.IntKind (i64 u64 u8 u32)
def w6:bX:=gQ [0,2,3,7,26] [] [30,26,18,26,10,29,29] [] []
def bw.l0 (m:Nat)(l0:List aN):Nat→Int→Option (Sum Bool (Int))
 | 0,_=>none
 | k+1,i0=>if (decide (i0<(l0.length:Int)))=true then ((ix l0 i0).bind fun v0=>if (decide ((v0.w5.nodes.length:Int) > (40:Int)))=true then (some (.inl true)) else ((ix l0 i0).bind fun v1=>if (decide ((v1.fO.length:Int) > (40:Int)))=true then (some (.inl true)) else (bw.l0 m l0 k (i64.wrap (i0+(1:Int)))))) else (some (.inr i0))
def bw.f (m:Nat)(l0:List aN):Option (Bool):=(bw.l0 m l0 m (0:Int)).bind fun bZ=>match bZ with | .inl r0=>some r0 | .inr i1=>some (decide ((l0.length:Int) > (60:Int)))
def bw.fin (L:Mem)(r:Bool)(s:St):Prop:=∃av,aM Try.prog (s.open w6) Try.f10.results.toList=some av∧ff s.h av (.bool r)
def PZ (cf:CallF)(m:Nat):Prop:=∀(l0:List aN) (r:Bool),bw.f m l0=some r→∀h xs,aO bO h xs [aU.fz l0]→cf 10 xs h=some (.bool r,h)
section
variable {cf:CallF}{m:Nat}
theorem bw.dm (L:Mem)(l0:List aN)   : dS Try.prog cf w6 m (sub [1,0,1,0,0] (b8 Try.f10)) (fun k (σ:Int)=>bw.l0 m l0 k σ) (fun σ s=>match σ with | i0=>∃h0,s=⟨[aU.fz l0,.any,.int .i64 i0,.any,.any],[],h0⟩∧Has h0 (L)) (fun out e s=>(e = .exit 0∧∃i0,.inr i0=out∧∃DX Gu h0,s=⟨[aU.fz l0,.any,DX,Gu,.any],[],h0⟩∧Has h0 (L))∨(e = .ret∧∃r,.inl r=out∧bw.fin L r s)):=by
 refine me (fun _=>rfl) ?_
 rintro k i0 s out ⟨h0,rfl,o0⟩ H
 have H:bw.l0 m l0 (k+1) i0=some out:=H
 refine qq <| qq <| q0 <| qc H (fun c0 H=>?_) (fun c0 H=>?_)
 ·refine qk <| qq <| qb 1 <| qq ?_
  obtain⟨v0,e0,H⟩:=bj H
  rcases iG H with⟨c1,H⟩| ⟨c1,H⟩
  ·exact qr [.v 2 (eA (k:=.i64) (E:=aU) (l:=l0) L4 e0),.v 5 (rR  (E:=aU) (l:=l0) (off:=5) h0 PV e0 rfl),.b 8 c1] <| L3 <| qq <| q0 <| qt <| Or.inr (⟨rfl,_,oi H,dy (.bool true) h0 (dw (aD))⟩)
  ·obtain⟨v1,e1,H⟩:=bj H
   refine qr [.v 2 (eA (k:=.i64) (E:=aU) (l:=l0) L4 e0),.v 5 (rR  (E:=aU) (l:=l0) (off:=5) h0 PV e0 rfl),.b 8 c1,.v 11 (eA (k:=.i64) (E:=aU) (l:=l0) L4 e1),.v 13 (rR  (E:=aU) (l:=l0) (off:=4) h0 Sl e1 rfl)] <| qc H (fun c3 H=>?_) (fun c3 H=>?_)
   ·exact q1 <| qt <| Or.inr (⟨rfl,_,oi H,dy (.bool true) h0 (dw (aD))⟩)
   ·exact qk <| q0 <| ⟨i64.wrap (i0+(1:Int)),⟨h0,by kernel_rfl,o0⟩,H⟩
 ·exact qx 0 <| Or.inl (⟨rfl,i0,oi H,.int .i64 i0,.bool (decide (i0<(l0.length:Int))),h0,by kernel_rfl,o0⟩)
theorem pt {aV:FuncId→bX}(ha:aV 10=w6)  (l0:List aN)(h:AHeap)(L:Mem)  (o:Has h (L)){out:Bool}(H:bw.f m l0=some out) :
  ∃r h',a7 Try.prog aV cf m 10 [aU.fz l0] h=some (r,h')∧ff h' r (.bool out):=by
 refine au (fn:=Try.f10) ha Try.func10 (by kernel_rfl) (by kernel_rfl) ?_
 refine aH (Q:=fun s=>bw.fin L out s) (fun _ _ h=>h) ?_
 have H:_=some out:=H
 unfold bw.f at H
 show dj _ cf w6 m _ ⟨aU.fz l0::nh [],[],h⟩ _
 refine q1 <| qq <| qq <| q0 <| qb 0 ?_
 obtain⟨bZ,e2,H⟩:=bj H
 refine ql (bw.dm L l0   (0:Int) _ _ ⟨h,by kernel_rfl,o⟩ e2) ?_
 rintro e s (⟨rfl,i1,rfl,g0,g1,h1,rfl,o1⟩| ⟨rfl,r0,rfl,w7⟩)
 ·try dsimp only at H
  obtain rfl:=oi H
  exact q1 <| qt <| ⟨.inl rfl,dy (.bool (decide ((l0.length:Int) > (60:Int)))) h1 (dw (aD))⟩
 ·try dsimp only at H
  obtain rfl:=oi H
  exact⟨.inl rfl,w7⟩
end
end Go.Proofs.Ytifafejidnjckaa
namespace Go.Proofs.Ytifafejidnjckaa
open Go Go.R
open Go.IntKind (i64 u64 u8 u32)
def w8:bX:=gQ [0,1,4,5,10,14,25] [] [124,108,123,116,84,116,52,123,123] [] []
def bT.l0 (m:Nat)(a0:List Int)(b0:List Int):Nat→Int→Option (Sum Bool (Int))
 | 0,_=>none
 | k+1,i0=>if (decide (i0<(a0.length:Int)))=true then ((ix a0 i0).bind fun v0=>(ix b0 i0).bind fun v1=>if (!(v0==v1))=true then (some (.inl false)) else (bT.l0 m a0 b0 k (i64.wrap (i0+(1:Int))))) else (some (.inr i0))
def bT.f (m:Nat)(a0:List Int)(b0:List Int):Option (Bool):=if (!((a0.length:Int)==(b0.length:Int)))=true then (some false) else ((bT.l0 m a0 b0 m (0:Int)).bind fun bZ=>match bZ with | .inl r0=>some r0 | .inr i1=>some true)
def bT.fin (L:Mem)(r:Bool)(s:St):Prop:=∃av,aM Try.prog (s.open w8) Try.f14.results.toList=some av∧ff s.h av (.bool r)
def P3 (cf:CallF)(m:Nat):Prop:=∀(a0:List Int) (b0:List Int) (r:Bool),bT.f m a0 b0=some r→∀h xs,aO bO h xs [af.fz a0,af.fz b0]→cf 14 xs h=some (.bool r,h)
section
variable {cf:CallF}{m:Nat}
theorem bT.dm (L:Mem)(a0:List Int)(b0:List Int)   : dS Try.prog cf w8 m (sub [1,1,0,1,0,0] (b8 Try.f14)) (fun k (σ:Int)=>bT.l0 m a0 b0 k σ) (fun σ s=>match σ with | i0=>∃h0,s=⟨af.fz a0::af.fz b0 :: .any :: .int .i64 i0::sJ [],[],h0⟩∧Has h0 (L)) (fun out e s=>(e = .exit 0∧∃i0,.inr i0=out∧∃oz yI KU DY h0,s=⟨[oz,yI,.any,KU,.any,DY,.any],[],h0⟩∧Has h0 (L))∨(e = .ret∧∃r,.inl r=out∧bT.fin L r s)):=by
 refine me (fun _=>rfl) ?_
 rintro k i0 s out ⟨h0,rfl,o0⟩ H
 have H:bT.l0 m a0 b0 (k+1) i0=some out:=H
 refine qq <| qq <| q0 <| qc H (fun c1 H=>?_) (fun c1 H=>?_)
 ·refine qk <| qq <| qb 1 <| qq ?_
  obtain⟨v0,e0,H⟩:=bj H
  obtain⟨v1,e1,H⟩:=bj H
  refine qr [.v 2 (eA (k:=.i64) (E:=af) (l:=a0) fU e0),.v 3 (fu  (E:=af) (l:=a0) h0 A3 e0 rfl),.v 6 (eA (k:=.i64) (E:=af) (l:=b0) fU e1),.v 7 (fu  (E:=af) (l:=b0) h0 A3 e1 rfl)] <| qc H (fun c2 H=>?_) (fun c2 H=>?_)
  ·exact q1 <| qt <| Or.inr (⟨rfl,_,oi H,dy (.bool false) h0 (dw (aD))⟩)
  ·exact qk <| q0 <| ⟨i64.wrap (i0+(1:Int)),⟨h0,by kernel_rfl,o0⟩,H⟩
 ·exact qx 0 <| Or.inl (⟨rfl,i0,oi H,af.fz a0,af.fz b0,.int .i64 i0,.bool (decide (i0<(a0.length:Int))),h0,by kernel_rfl,o0⟩)
theorem qp {aV:FuncId→bX}(ha:aV 14=w8)  (a0:List Int)(b0:List Int)(h:AHeap)(L:Mem)  (o:Has h (L)){out:Bool}(H:bT.f m a0 b0=some out) :
  ∃r h',a7 Try.prog aV cf m 14 [af.fz a0,af.fz b0] h=some (r,h')∧ff h' r (.bool out):=by
 refine au (fn:=Try.f14) ha Try.func14 (by kernel_rfl) (by kernel_rfl) ?_
 refine aH (Q:=fun s=>bT.fin L out s) (fun _ _ h=>h) ?_
 have H:_=some out:=H
 unfold bT.f at H
 show dj _ cf w8 m _ ⟨af.fz a0::af.fz b0::Fy [],[],h⟩ _
 refine q1 <| qq <| qq <| q0 <| qc H (fun c0 H=>?_) (fun c0 H=>?_)
 ·obtain rfl:=oi H
  exact q1 <| qt <| ⟨.inl rfl,dy (.bool false) h (dw (aD))⟩
 ·refine qk <| qq <| qq <| q0 <| qb 0 ?_
  obtain⟨bZ,e2,H⟩:=bj H
  refine ql (bT.dm L a0 b0   (0:Int) _ _ ⟨h,by kernel_rfl,o⟩ e2) ?_
  rintro e s (⟨rfl,i1,rfl,g0,g1,g2,g3,h1,rfl,o1⟩| ⟨rfl,r0,rfl,w7⟩)
  ·try dsimp only at H
   obtain rfl:=oi H
   exact q1 <| qt <| ⟨.inl rfl,dy (.bool true) h1 (dw (aD))⟩
  ·try dsimp only at H
   obtain rfl:=oi H
   exact⟨.inl rfl,w7⟩
end
end Go.Proofs.Ytifafejidnjckaa
namespace Go.Proofs.Ytifafejidnjckaa
open Go Go.R
open Go.IntKind (i64 u64 u8 u32)
end Go.Proofs.Ytifafejidnjckaa
namespace Go.Proofs.Ytifafejidnjckaa
open Go Go.R
open Go.IntKind (i64 u64 u8 u32)
def zW:bX:=gQ [0] [14000000001] [1] [] []
def iR.f (m:Nat)  : Option (ab):=some (ab.mk true ([]:List aq) ([]:List Int))
def iR.fin (L:Mem)  (r:ab)(s:St):Prop:=∃eR gg gh:Nat,aM Try.prog (s.open zW) Try.f26.results.toList=some (.ptr eR 0)∧Has s.h ((eR,.ob [.bool r.aj,.rs gg 0 r.aa.length 4,.rs gh 0 r.ae.length 1])::(gg,.sl r.aa.length 4 (ai.l r.aa))::(gh,.sl r.ae.length 1 (af.l r.ae))::L)
def P4 (cf:CallF)(m:Nat):Prop:=∀ (r:ab),iR.f m  = some r→∀h L,Has h (L)→∀xs,xs.map aK=[]→∃eR gg gh h',cf 26 xs h=some (.ptr eR 0,h')∧Has h' ((eR,.ob [.bool r.aj,.rs gg 0 r.aa.length 4,.rs gh 0 r.ae.length 1])::(gg,.sl r.aa.length 4 (ai.l r.aa))::(gh,.sl r.ae.length 1 (af.l r.ae))::L)
section
variable {cf:CallF}{m:Nat}
theorem sd {aV:FuncId→bX}(ha:aV 26=zW)   (h:AHeap)(L:Mem)  (o:Has h (L)){out:ab}(H:iR.f m  = some out) :
  ∃r h',a7 Try.prog aV cf m 26 [] h=some (r,h')∧∃eR gg gh:Nat,r = .ptr eR 0∧Has h' ((eR,.ob [.bool out.aj,.rs gg 0 out.aa.length 4,.rs gh 0 out.ae.length 1])::(gg,.sl out.aa.length 4 (ai.l out.aa))::(gh,.sl out.ae.length 1 (af.l out.ae))::L):=by
 refine au (fn:=Try.f26) ha Try.func26 (by kernel_rfl) (by kernel_rfl) ?_
 refine aH (Q:=fun s=>iR.fin L out s) (fun _ _ ⟨h1,eR,gg,gh,h2,h3⟩=>⟨h1,_,h2,eR,gg,gh,rfl,h3⟩) ?_
 have H:_=some out:=H
 unfold iR.f at H
 show dj _ cf zW m _ ⟨[.any],[none],h⟩ _
 refine q1 <| qq ?_
 have o0:Has h (((0),.sl (([]:List aq).length) 4 (ai.l ([]:List aq)))::L):=Has.nil o 4
 have o1:Has h ((((0)),.sl (([]:List Int).length) 1 (af.l ([]:List Int)))::((0),.sl (([]:List aq).length) 4 (ai.l ([]:List aq)))::L):=Has.nil o0 1
 obtain⟨aJ,h0,e0,o2⟩:=gk (cs:=[.bool true,.rs (0) 0 (([]:List aq).length) 4,.rs ((0)) 0 (([]:List Int).length) 1]) o1 (by kernel_rfl)
 obtain rfl:=oi H
 exact qr [.a 1 e0] <| qt <| ⟨.inl rfl,⟨aJ,(0),((0)),by kernel_rfl,he (Has.front (Has.front (Has.front o2 1 rfl) 2 rfl) 2 rfl)⟩⟩
end
end Go.Proofs.Ytifafejidnjckaa
namespace Go.Proofs.Ytifafejidnjckaa
open Go Go.R
open Go.IntKind (i64 u64 u8 u32)
def w9:bX:=gQ [0,1,5,6,7,8,9] [] [70,6,66,70,70] [] []
def bb.l0 (m:Nat)(aF:List Int):Nat→Int→ab→Option (Int × ab)
 | 0,_,_=>none
 | k+1,x0,s1=>if (decide (x0<(aF.length:Int)))=true then ((ix aF x0).bind fun v0=>(ix s1.ae v0).bind fun v1=>bb.l0 m aF k (i64.wrap (x0+(1:Int))) (ab.mk s1.aj s1.aa (s1.ae.set v0.toNat v0))) else (some ((x0,s1)))
def bb.f (m:Nat)(s0:ab)(aF:List Int):Option (ab):=(bb.l0 m aF m (0:Int) s0).bind fun bZ=>match bZ with | (x1,s2)=>some s2
def bb.fin (L:Mem)(ao:Nat)(ak:Nat)(an:Nat)(s0:ab)(aF:List Int)(r:ab)(s:St):Prop:=∃aB aC:Nat,aM Try.prog (s.open w9) Try.f32.results.toList=some (.tup [])∧Has s.h ((ao,.ob [.bool r.aj,.rs aB 0 r.aa.length 4,.rs aC 0 r.ae.length 1])::(aB,.sl r.aa.length 4 (ai.l r.aa))::(aC,.sl r.ae.length 1 (af.l r.ae))::L)
def NF (cf:CallF)(m:Nat):Prop:=∀(s0:ab) (aF:List Int) (r:ab),bb.f m s0 aF=some r→∀h L (ao:Nat) (ak:Nat) (an:Nat),Has h ((ao,.ob [.bool s0.aj,.rs ak 0 s0.aa.length 4,.rs an 0 s0.ae.length 1])::(ak,.sl s0.aa.length 4 (ai.l s0.aa))::(an,.sl s0.ae.length 1 (af.l s0.ae))::L)→∀xs,xs.map aK=[.ptr ao 0,af.fz aF]→∃aB aC h',cf 32 xs h=some (.tup [],h')∧Has h' ((ao,.ob [.bool r.aj,.rs aB 0 r.aa.length 4,.rs aC 0 r.ae.length 1])::(aB,.sl r.aa.length 4 (ai.l r.aa))::(aC,.sl r.ae.length 1 (af.l r.ae))::L)
section
variable {cf:CallF}{m:Nat}
theorem bb.dm (L:Mem)(ao:Nat)(ak:Nat)(an:Nat)(s0:ab)(aF:List Int)   : dS Try.prog cf w9 m (sub [1,0,0] (b8 Try.f32)) (fun k (σ:Int × ab)=>bb.l0 m aF k σ.1 σ.2) (fun σ s=>match σ with | (x0,s1)=>∃aJ dV h0,s=⟨[.ptr ao 0,.any,.any,af.fz aF,.int .i64 (aF.length:Int),.int .i64 x0,.any],[],h0⟩∧Has h0 ((ao,.ob [.bool s1.aj,.rs aJ 0 s1.aa.length 4,.rs dV 0 s1.ae.length 1])::(aJ,.sl s1.aa.length 4 (ai.l s1.aa))::(dV,.sl s1.ae.length 1 (af.l s1.ae))::L)) (fun out e s=>(e = .exit 0∧∃x0 s1,(x0,s1)=out∧∃oz Gv Gu BZ B0 aJ dV h0,s=⟨[oz,.any,.any,Gv,Gu,BZ,B0],[],h0⟩∧Has h0 ((ao,.ob [.bool s1.aj,.rs aJ 0 s1.aa.length 4,.rs dV 0 s1.ae.length 1])::(aJ,.sl s1.aa.length 4 (ai.l s1.aa))::(dV,.sl s1.ae.length 1 (af.l s1.ae))::L))):=by
 refine me (fun _=>rfl) ?_
 rintro k ⟨x0,s1⟩ s out ⟨aJ,dV,h0,rfl,o0⟩ H
 have H:bb.l0 m aF (k+1) x0 s1=some out:=H
 refine q1 <| qq <| qc H (fun c0 H=>?_) (fun c0 H=>?_)
 ·refine qk <| qq <| qb 1 <| qq ?_
  obtain⟨v0,e0,H⟩:=bj H
  refine qr [.v 0 (eA (k:=.i64) (E:=af) (l:=aF) fU e0),.v 1 (fu  (E:=af) (l:=aF) h0 A3 e0 rfl)] ?_
  obtain⟨v1,e1,H⟩:=bj H
  obtain⟨h1,e2,o1⟩:=fw (P:=Try.prog) (tf:=3) (E:=af) (l:=s1.ae) (q:=2) (v:=v0) (x:=.int .i64 v0) o0 rfl Z3 e1 rfl rfl
  exact qr [.v 3 (show bm Try.prog h0 33 (.ptr ao 2)=some (.rs dV 0 s1.ae.length 1) from bW (q:=0) (cs:=[.bool s1.aj,.rs aJ 0 s1.aa.length 4,.rs dV 0 s1.ae.length 1]) o0 rfl (by kernel_rfl)),.v 6 (bo (k:=.i64) (E:=af) (l:=s1.ae) (q:=2) fU o0 rfl e1),.w 7 e2] <| q0 <| ⟨(i64.wrap (x0+(1:Int)),(ab.mk s1.aj s1.aa (s1.ae.set v0.toNat v0))),⟨aJ,dV,h1,(V4 (b:=⟨[.ptr ao 0,.any,.any,af.fz aF,.int .i64 (aF.length:Int),.int .i64 (i64.wrap (x0+(1:Int))),.any],[],h1⟩) (by kernel_rfl) (by simp only [UF])),(by have o:Has h1 ((ao,.ob [.bool s1.aj,.rs aJ 0 s1.aa.length 4,.rs dV 0 s1.ae.length 1])::(aJ,.sl s1.aa.length 4 (ai.l s1.aa))::(dV,.sl s1.ae.length 1 (af.l (s1.ae.set v0.toNat v0)))::L):=o1; simpa only [UF] using o)⟩,H⟩
 ·exact qx 0 <| ⟨rfl,x0,s1,oi H,.ptr ao 0,af.fz aF,.int .i64 (aF.length:Int),.int .i64 x0,.bool (decide (x0<(aF.length:Int))),aJ,dV,h0,by kernel_rfl,o0⟩
theorem lD {aV:FuncId→bX}(ha:aV 32=w9)  (s0:ab)(aF:List Int)(h:AHeap)(L:Mem)(ao:Nat)(ak:Nat)(an:Nat)  (o:Has h ((ao,.ob [.bool s0.aj,.rs ak 0 s0.aa.length 4,.rs an 0 s0.ae.length 1])::(ak,.sl s0.aa.length 4 (ai.l s0.aa))::(an,.sl s0.ae.length 1 (af.l s0.ae))::L)){out:ab}(H:bb.f m s0 aF=some out) :
  ∃r h',a7 Try.prog aV cf m 32 [.ptr ao 0,af.fz aF] h=some (r,h')∧∃aB aC:Nat,r = .tup []∧Has h' ((ao,.ob [.bool out.aj,.rs aB 0 out.aa.length 4,.rs aC 0 out.ae.length 1])::(aB,.sl out.aa.length 4 (ai.l out.aa))::(aC,.sl out.ae.length 1 (af.l out.ae))::L):=by
 refine au (fn:=Try.f32) ha Try.func32 (by kernel_rfl) (by kernel_rfl) ?_
 refine aH (Q:=fun s=>bb.fin L ao ak an s0 aF out s) (fun _ _ ⟨h1,aB,aC,h2,h3⟩=>⟨h1,_,h2,aB,aC,rfl,h3⟩) ?_
 have H:_=some out:=H
 unfold bb.f at H
 show dj _ cf w9 m _ ⟨.ptr ao 0::af.fz aF::Fy [],[],h⟩ _
 refine q1 <| qb 0 ?_
 obtain⟨bZ,e3,H⟩:=bj H
 refine ql (bb.dm L ao ak an s0 aF   ((0:Int),s0) _ _ ⟨ak,an,h,by kernel_rfl,o⟩ e3) ?_
 rintro e s ⟨rfl,x1,s2,rfl,g0,g1,g2,g3,g4,eM,cZ,h2,rfl,o2⟩
 try dsimp only at H
 obtain rfl:=oi H
 exact⟨.inr rfl,⟨eM,cZ,by kernel_rfl,he o2⟩⟩
end
end Go.Proofs.Ytifafejidnjckaa
namespace Go.Proofs.Ytifafejidnjckaa
open Go Go.R
open Go.IntKind (i64 u64 u8 u32)
def zX:bX:=gQ [0,2] [] [2,1] [] []
def bF.f (m:Nat)(s0:ab):Option (Bool):=some s0.aj
def bF.fin (L:Mem)(r:Bool)(s:St):Prop:=∃av,aM Try.prog (s.open zX) Try.f37.results.toList=some av∧ff s.h av (.bool r)
def KV (cf:CallF)(m:Nat):Prop:=∀(s0:ab) (r:Bool),bF.f m s0=some r→∀h xs,aO bO h xs [.fp [.bool s0.aj,ai.fz s0.aa,af.fz s0.ae] 0]→cf 37 xs h=some (.bool r,h)
section
variable {cf:CallF}{m:Nat}
theorem lE {aV:FuncId→bX}(ha:aV 37=zX)  (s0:ab)(h:AHeap)(L:Mem)  (o:Has h (L)){out:Bool}(H:bF.f m s0=some out) :
  ∃r h',a7 Try.prog aV cf m 37 [.fp [.bool s0.aj,ai.fz s0.aa,af.fz s0.ae] 0] h=some (r,h')∧ff h' r (.bool out):=by
 refine au (fn:=Try.f37) ha Try.func37 (by kernel_rfl) (by kernel_rfl) ?_
 refine aH (Q:=fun s=>bF.fin L out s) (fun _ _ h=>h) ?_
 have H:_=some out:=H
 unfold bF.f at H
 show dj _ cf zX m _ ⟨[.fp [.bool s0.aj,ai.fz s0.aa,af.fz s0.ae] 0,.any],[],h⟩ _
 obtain rfl:=oi H
 exact q1 <| qq <| q0 <| qt <| ⟨.inl rfl,dy (.bool s0.aj) h (dw (aD))⟩
end
end Go.Proofs.Ytifafejidnjckaa
