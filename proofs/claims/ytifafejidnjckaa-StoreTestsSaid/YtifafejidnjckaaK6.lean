/- Part of the proof: RBuf1, RBuf2, RBuf3, RBuf4, RBuf5, RG9, RFix, RGN, RGL, RSrt, RGS, RGC, RPT, RDV, RMB, RGR, QW, Q10, Q14, Q25, Q26. -/
import Derived.Test.YtifafejidnjckaaK5
import Derived.Shelf.LaysM
import Derived.Shelf.Bytes.GrowAt
import Derived.Lib.ByteType
import Derived.Lib.BufferAt
import Derived.Lib.BufferKept
import Derived.Lib.Walk
import Derived.Lib.BufferWrite
import Derived.Lib.Hide
import Derived.WalkKit
import Derived.BigCall
import Derived.BigGuard
import Derived.KernelRfl
import Derived.Shelf.Sort.Plain
import Derived.Shelf.Slices.In.SortNone
import Derived.Shelf.Slices.CompactI
import Derived.Test.YtifafejidnjckaaProg
set_option linter.unusedVariables false
set_option linter.unusedSimpArgs false
set_option maxRecDepth 100000
open Array renaming getElem?_eq_some_iff → aac, getElem?_modify → aaI
open Bool renaming and_eq_true → ZF, false_eq_true → ZN, not_true → aaC, not_eq_true' → aaF, true_and → aba
open Int renaming toNat_natCast → ZQ
open List renaming getElem?_eq_getElem → ZG, getElem?_eq_some_iff → ZH, mem_of_getElem? → ZK, length_append → ZM, drop_eq_getElem_cons → ZP, length_map → ZR, getElem?_append_left → ZS, getElem?_append_right → ZT, length_cons → ZU, append_assoc → ZV, all_eq_true → ZX, replicate → ZY, mem_cons → ZZ, map_cons → Z0, mem_singleton → Z1, eq_nil_of_length_eq_zero → Z6, map_append → Z7, length_nil → Z8, take_append_of_le_length → Z9, mem_append → aaa, take_of_length_le → aae, getElem?_cons_zero → aag, cons_append → aak, nil_append → aal, drop_zero → aam, mem_append_left → aat, getElem?_map → aau, getElem?_of_mem → aav, length_take → aaw, getElem?_cons_succ → aaK, take_append_drop → aaP, append_nil → aa2
open Nat renaming le_refl → ZI, zero_add → Z2, beq → aaj, le_trans → aap, lt_succ_self → aas, mul_le_mul_right → aay, add_sub_cancel_left → aaE, sub_self → aaJ, le_succ → aaM, lt_succ_of_lt → aaS, ble → aaZ, min_eq_left → aa0, zero_lt_one → aa1
open Option renaming bind_some → ZB, bind_eq_some_iff → ZC, map_eq_some_iff → ZD, map_some → ZJ, getD_some → aaA
open Option.some renaming injEq → ZE, inj → aaf
open Prod.mk renaming injEq → ZL
namespace Go.R
open Go Go.Proofs Go.Shelf Go.RowKit
variable {P:Program}{ρ:Ren}
end Go.R
namespace Go.R
open Go Go.Proofs Go.Shelf Go.RowKit
variable {P:Program}{ρ:Ren}
end Go.R
namespace Go.R
open Go Go.Proofs Go.Shelf Go.RowKit
variable {P:Program}{ρ:Ren}
end Go.R
namespace Go.R
open Go Go.Proofs Go.Shelf Go.RowKit
theorem Fr.none {c:Cx}{L0:Nat→Prop}(hrel:HRel c L0):Fr L0 c none0 (fun _=>0) [] ⟨fun _=>.any,fun _=>none,c.h⟩ ⟨#[],[]⟩:=
 ⟨rfl,by rw [show un L0 none0=L0 from by funext b; simp [un,none0]]; exact hrel,fun t=>by simp [SR,VR],fun k cs h=>(by cases h),fun k k' h=>(by cases h),fun t k off _ h=>(by cases h),rfl,fun b h=>h.elim⟩
end Go.R
namespace Go.R
open Go Go.Proofs Go.Shelf Go.RowKit
theorem intr_cons {P:Program}{f0:FuncId}{g0:List AV→AHeap→Option (AV × AHeap)}{intr:FuncId→Option (List AV→AHeap→Option (AV × AHeap))}(h0:CallOK P fun f' args h=>if f'=f0 then g0 args h else none)
  (hs:∀args h r h',g0 args h=some (r,h')→Steady h h') (h:IntrOK P intr):IntrOK P fun f=>if f=f0 then some g0 else intr f:=by
 intro f g hg
 dsimp only at hg
 split at hg
 ·rename_i hf
  subst hf
  cases hg
  exact⟨h0,hs⟩
 ·exact h f g hg
end Go.R
namespace Go.R
open Go
section
variable {h:AHeap}{L:Mem}{e:TypeId}{id i:Nat}{bs news r:List Int}{c:Int}{s:ByteArray}
variable {cf:CallF}{f:FuncId}
end
def jn {α β:Type}(b:α→Option β)(a:(α→Option β)→Option β):Option β:=a b
theorem oa {α β:Type}{b:α→Option β}{a:(α→Option β)→Option β}{out:β}(H:jn b a=some out):∃j:α→Option β,(∀x,j x=b x)∧a j=some out:=⟨b,fun _=>rfl,H⟩
theorem bj {α β:Type}{o:Option α}{f:α→Option β}{b:β}(h:o.bind f=some b):∃a,o=some a∧f a=some b:=ZC.1 h
theorem Wk {α:Type}{c:Bool}{a b z:α}(h:c=true)(H:(if c=true then a else b)=z):a=z:=(if_pos h).symm.trans H
theorem Wl {α:Type}{c:Bool}{a b z:α}(h:c=false)(H:(if c=true then a else b)=z):b=z:=(if_neg (II h)).symm.trans H
abbrev ov (l:List AV):List AV:=.any :: .any :: .any::l
abbrev oZ (l:List AV):List AV:=.any :: .any :: .any :: .any::l
abbrev Ai (l:List AV):List AV:=.any :: .any :: .any :: .any :: .any::l
abbrev yZ (l:List AV):List AV:=.any :: .any :: .any :: .any :: .any :: .any::l
abbrev En (l:List AV):List AV:=.any :: .any :: .any :: .any :: .any :: .any :: .any::l
abbrev xf (l:List AV):List AV:=.any :: .any :: .any :: .any :: .any :: .any :: .any :: .any::l
abbrev O8 (l:List AV):List AV:=.any :: .any :: .any :: .any :: .any :: .any :: .any :: .any :: .any::l
abbrev Ge (l:List AV):List AV:=.any :: .any :: .any :: .any :: .any :: .any :: .any :: .any :: .any :: .any::l
abbrev uS (l:List AV):List AV:=.any :: .any :: .any :: .any :: .any :: .any :: .any :: .any :: .any :: .any :: .any::l
abbrev uT (l:List AV):List AV:=.any :: .any :: .any :: .any :: .any :: .any :: .any :: .any :: .any :: .any :: .any :: .any::l
abbrev rV (l:List AV):List AV:=.any :: .any :: .any :: .any :: .any :: .any :: .any :: .any :: .any :: .any :: .any :: .any :: .any::l
abbrev y4 (l:List AV):List AV:=.any :: .any :: .any :: .any :: .any :: .any :: .any :: .any :: .any :: .any :: .any :: .any :: .any :: .any::l
abbrev NF (l:List AV):List AV:=.any :: .any :: .any :: .any :: .any :: .any :: .any :: .any :: .any :: .any :: .any :: .any :: .any :: .any :: .any::l
abbrev IN (l:List AV):List AV:=.any :: .any :: .any :: .any :: .any :: .any :: .any :: .any :: .any :: .any :: .any :: .any :: .any :: .any :: .any :: .any::l
abbrev Ql (l:List AV):List AV:=.any :: .any :: .any :: .any :: .any :: .any :: .any :: .any :: .any :: .any :: .any :: .any :: .any :: .any :: .any :: .any :: .any::l
abbrev Qm (l:List AV):List AV:=.any :: .any :: .any :: .any :: .any :: .any :: .any :: .any :: .any :: .any :: .any :: .any :: .any :: .any :: .any :: .any :: .any :: .any :: .any :: .any::l
abbrev Qn (l:List AV):List AV:=.any :: .any :: .any :: .any :: .any :: .any :: .any :: .any :: .any :: .any :: .any :: .any :: .any :: .any :: .any :: .any :: .any :: .any :: .any :: .any :: .any::l
abbrev Qo (l:List AV):List AV:=.any :: .any :: .any :: .any :: .any :: .any :: .any :: .any :: .any :: .any :: .any :: .any :: .any :: .any :: .any :: .any :: .any :: .any :: .any :: .any :: .any :: .any::l
abbrev Qp (l:List AV):List AV:=.any :: .any :: .any :: .any :: .any :: .any :: .any :: .any :: .any :: .any :: .any :: .any :: .any :: .any :: .any :: .any :: .any :: .any :: .any :: .any :: .any :: .any :: .any::l
abbrev NG (l:List AV):List AV:=.any :: .any :: .any :: .any :: .any :: .any :: .any :: .any :: .any :: .any :: .any :: .any :: .any :: .any :: .any :: .any :: .any :: .any :: .any :: .any :: .any :: .any :: .any :: .any :: .any::l
abbrev Qq (l:List AV):List AV:=.any :: .any :: .any :: .any :: .any :: .any :: .any :: .any :: .any :: .any :: .any :: .any :: .any :: .any :: .any :: .any :: .any :: .any :: .any :: .any :: .any :: .any :: .any :: .any :: .any :: .any :: .any::l
abbrev Qr (l:List AV):List AV:=.any :: .any :: .any :: .any :: .any :: .any :: .any :: .any :: .any :: .any :: .any :: .any :: .any :: .any :: .any :: .any :: .any :: .any :: .any :: .any :: .any :: .any :: .any :: .any :: .any :: .any :: .any :: .any :: .any::l
abbrev Qs (l:List AV):List AV:=.any :: .any :: .any :: .any :: .any :: .any :: .any :: .any :: .any :: .any :: .any :: .any :: .any :: .any :: .any :: .any :: .any :: .any :: .any :: .any :: .any :: .any :: .any :: .any :: .any :: .any :: .any :: .any :: .any :: .any :: .any :: .any :: .any :: .any::l
end Go.R
namespace Go.R
open Go
def uU {X:Type}(F:CallF→Option X):Prop:=∀cf x,F cf=some x→∃l:List (FuncId × List AV × AHeap × (AV × AHeap)),(∀e∈l,cf e.1 e.2.1 e.2.2.1=some e.2.2.2)∧∀Cg:CallF,(∀e∈l,Cg e.1 e.2.1 e.2.2.1=some e.2.2.2)→F Cg=some x
theorem bI {X:Type}(x:Option X):uU fun _=>x:=by
 intro cf y h
 refine⟨[],?_,fun _ _=>h⟩
 intro e he; cases he
theorem Gf (f:FuncId)(args:List AV)(h:AHeap):uU fun cf=>cf f args h:=by
 intro cf x hx
 refine⟨[(f,args,h,x)],?_,fun Cg h'=>h' (f,args,h,x) (Z1.2 rfl)⟩
 intro e he; cases (Z1.1 he); exact hx
theorem eS {X Y:Type}{F:CallF→Option X}{G:X→CallF→Option Y}(hF:uU F)(hG:∀y,uU (G y)):uU fun cf=>(F cf).bind fun y=>G y cf:=fun cf z hz=>by
 obtain⟨y,h1,h2⟩:=ZC.1 hz
 obtain⟨l1,a1,b1⟩:=hF cf y h1
 obtain⟨l2,a2,b2⟩:=hG y cf z h2
 refine⟨l1++l2,fun e he=>(aaa.1 he).elim (a1 e) (a2 e),fun Cg h'=>?_⟩
 have e1:=b1 Cg fun e he=>h' e (aat _ he)
 have e2:=b2 Cg fun e he=>h' e (List.mem_append_right _ he)
 show (F Cg).bind _=_
 rw [e1,ZB,e2]
theorem xg {X Y:Type}{F:CallF→Option X}{g:X→Y}(hF:uU F):uU fun cf=>(F cf).map g:=by
 intro cf x hx
 obtain⟨y,h1,h2⟩:=ZD.1 hx
 obtain⟨l,a,b⟩:=hF cf y h1
 refine⟨l,a,fun Cg h'=>?_⟩
 show (F Cg).map g=some x
 rw [b Cg h',ZJ,h2]
theorem j5 {X:Type}{c:Prop}[Decidable c]{F G:CallF→Option X}(hF:uU F)(hG:uU G):uU fun cf=>if c then F cf else G cf:=by
 by_cases h:c
 ·simp only [h,if_true]; exact hF
 ·simp only [h,if_false]; exact hG
section
variable {P:Program}{aI ds:List Nat}
theorem pV {X:Type}{F:CallF→Option X}(h:∀cf Cg,F cf=F Cg):uU F:=by
 intro cf x hx
 refine⟨[],?_,fun Cg _=>(h Cg cf).trans hx⟩
 intro e he; cases he
theorem Ch (e:Operand→AV)(s:RS)(o:Oper):uU fun cf=>Aw P cf aI ds e s o:=by
 obtain⟨dst,op,type,pos,after,guard⟩:=o
 cases op with
 | call c=>
  obtain⟨callee,args,at_⟩:=c
  cases callee with
  | value f=>
   simp only [Aw]
   cases e f with
   | fn f cap=>exact j5 (xg (eS (Gf _ _ _) fun y=>bI _)) (bI _)
   | _=>exact bI _
  | _=>exact pV fun _ _=>rfl
 | makeFunc fn first cap=>cases fn<;>exact pV fun _ _=>rfl
 | makeMap t r=>cases r<;>exact pV fun _ _=>rfl
 | _=>exact pV fun _ _=>rfl
theorem Eo (ops:List Oper)(s:RS)(o:Oper):uU fun cf=>nj P cf aI ops s o:=by
 refine eS (bI (ik ops s.ρ o)) fun w=>?_
 exact j5 (Ch _ _ _) (bI _)
theorem y5 (ops:List Oper):∀(os:List Oper) (s:RS),uU fun cf=>rO P cf aI ops s os
 | [],s=>bI _
 | o::os,s=>eS (Eo ops s o) fun s'=>y5 ops os s'
theorem y6 (ops:List Oper):∀(os:List Oper) (s:RS),uU fun cf=>py P cf aI ops s os
 | [],s=>bI _
 | o::os,s=>eS (bI (ik ops s.ρ o)) fun w=>eS (j5 (Ch _ _ _) (bI _)) fun s1=>xg (y6 ops os s1)
theorem AY (ops:Array Oper)(s:RS):uU fun cf=>ki P cf aI ops s:=by
 unfold ki
 exact j5 (eS (y6 _ _ _) fun x=>bI _) (bI _)
theorem vF {f:CallF→St→Option (Ex × St)}(hf:∀s,uU fun cf=>f cf s):∀(n:Nat) (s:St),uU fun cf=>lz (f cf) n s
 | 0,s=>bI _
 | n+1,s=>eS (hf s) fun x=>by
  obtain⟨x,s'⟩:=x
  cases x with
  | norm=>exact vF hf n s'
  | _=>exact bI _
theorem js (A:b9)(n:Nat):∀(c:Code) (s:St),uU fun cf=>bV P cf A n c s
 | .skip,s=>by simp only [bV]; exact bI _
 | .label _,s=>by simp only [bV]; exact bI _
 | .ret,s=>by simp only [bV]; exact bI _
 | .exit _,s=>by simp only [bV]; exact bI _
 | .seq a b,s=>by
  simp only [bV]
  exact eS (js A n a s) fun x=>by
   obtain⟨x,s'⟩:=x
   cases x with
   | norm=>exact js A n b s'
   | _=>exact bI _
 | .cond k x y,s=>by
  simp only [bV]
  exact eS (bI _) fun t=>j5 (js A n x s) (js A n y s)
 | .block id b,s=>by simp only [bV]; exact xg (js A n b s)
 | .loop b,s=>by simp only [bV]; exact vF (fun s=>js A n b s) n s
 | .region r ops draw,s=>by
  simp only [bV]
  exact eS (bI _) fun s=>eS (j5 (AY _ _) (y5 _ _ _)) fun s'=>bI _
 | .rangeFunc ..,s=>by simp only [bV]; exact bI _
 | .scope _,s=>by simp only [bV]; exact bI _
 | .goto _,s=>by simp only [bV]; exact bI _
 | .refuse _,s=>by simp only [bV]; exact bI _
theorem kb (aY:FuncId→b9)(m:Nat)(f:FuncId)(args:List AV)(h:AHeap):uU fun cf=>bf P aY cf m f args h:=by
 unfold bf
 refine eS (bI _) fun fn=>eS (bI _) fun c=>j5 (eS (js _ _ _ _) fun x=>bI _) (bI _)
end
def rH (P:Program)(T:oz)(m:Nat)(cf:CallF):CallF:=fun f args h=>
 match T.intr f with
 | some g=>g args h
 | none=>
  match T.pure f with
  | some deep=>if T.fe f then (bC h deep args).bind fun us=>(bf P T.aY cf m f us bD).bind fun x=>(dF h.next x.1).map fun r=>(r,h.fe x.2) else
    if dq args then (bf P T.aY cf m f (dX args) bD).bind fun x=>(cp x.2 deep x.1).map fun r=>(r,h) else
    match bC h deep args with
    | some zs=>(bf P T.aY cf m f zs bD).bind fun x=>(gH x.2 deep x.1).map fun r=>(r,h)
    | none=>bf P T.aY cf m f (args.map aS) h
  | none=>bf P T.aY cf m f (args.map aS) h
section
variable {P:Program}{T:oz}{m:Nat}
theorem vG (f:FuncId)(args:List AV)(h:AHeap):uU fun cf=>rH P T m cf f args h:=by
 unfold rH
 cases T.intr f with
 | some g=>exact bI _
 | none=>
  cases T.pure f with
  | none=>exact kb _ _ _ _ _
  | some deep=>
   refine j5 (eS (bI _) fun us=>eS (kb _ _ _ _ _) fun x=>bI _) ?_
   refine j5 (eS (kb _ _ _ _ _) fun x=>bI _) ?_
   cases bC h deep args with
   | none=>exact kb _ _ _ _ _
   | some zs=>exact eS (kb _ _ _ _ _) fun x=>bI _
theorem tG:∀(n:Nat) (f:FuncId) (args:List AV) (h:AHeap) (x:AV × AHeap),fD P T m n f args h=some x→fD P T m (n+1) f args h=some x
 | 0,f,args,h,x,hc=>by simp [fD] at hc
 | n+1,f,args,h,x,hc=>by
  obtain⟨l,h1,h2⟩:=vG (P:=P) (T:=T) (m:=m) f args h _ _ hc
  exact h2 (fD P T m (n+1)) fun e he=>tG n _ _ _ _ (h1 e he)
theorem pW {n k:Nat}(hk:n≤k){f:FuncId}{args:List AV}{h:AHeap}{x:AV × AHeap}(hc:fD P T m n f args h=some x):fD P T m k f args h=some x:=by
 induction hk with
 | refl=>exact hc
 | step _ ih=>exact tG _ _ _ _ _ ih
open Classical in
noncomputable def jj (P:Program)(T:oz)(m:Nat):CallF:=fun f args h=>if H:∃x n,fD P T m n f args h=some x then some (Classical.choose H) else none
theorem lH {f:FuncId}{args:List AV}{h:AHeap}{x:AV × AHeap}:jj P T m f args h=some x↔∃n,fD P T m n f args h=some x:=by
 have key:∀(H:∃x n,fD P T m n f args h=some x) (n:Nat),fD P T m n f args h=some x→Classical.choose H=x:=fun H n hn=>by
  obtain⟨k,hk⟩:=Classical.choose_spec H
  have h1:=pW (Nat.le_max_left n k) hn
  have h2:=pW (Nat.le_max_right n k) hk
  rw [h1] at h2
  exact (aaf h2).symm
 unfold jj
 constructor
 ·intro hc
  split at hc
  ·rename_i H
   obtain⟨n,hn⟩:=Classical.choose_spec H
   cases hc
   exact⟨n,hn⟩
  ·cases hc
 ·rintro⟨n,hn⟩
  have H:∃x n,fD P T m n f args h=some x:=⟨x,n,hn⟩
  rw [dif_pos H,key H n hn]
theorem Ep (l:List (FuncId × List AV × AHeap × (AV × AHeap)))(hl:∀e∈l,jj P T m e.1 e.2.1 e.2.2.1=some e.2.2.2):∃n,∀e∈l,fD P T m n e.1 e.2.1 e.2.2.1=some e.2.2.2:=by
 induction l with
 | nil=>exact⟨0,fun e he=>by cases he⟩
 | cons a l ih=>
  obtain⟨n,hn⟩:=ih fun e he=>hl e (List.mem_cons_of_mem _ he)
  obtain⟨k,hk⟩:=lH.1 (hl a List.mem_cons_self)
  refine⟨max n k,fun e he=>?_⟩
  rcases ZZ.1 he with rfl | he
  ·exact pW (Nat.le_max_right n k) hk
  ·exact pW (Nat.le_max_left n k) (hn e he)
theorem lI {f:FuncId}{args:List AV}{h:AHeap}{x:AV × AHeap}(hc:rH P T m (jj P T m) f args h=some x):jj P T m f args h=some x:=by
 obtain⟨l,h1,h2⟩:=vG (P:=P) (T:=T) (m:=m) f args h _ _ hc
 obtain⟨n,hn⟩:=Ep l h1
 exact lH.2 ⟨n+1,h2 (fD P T m n) hn⟩
theorem Gg (hP:Fit P)(rE:IntrOK P T.intr):CallOK P (jj P T m):=fun f args h r h' hc=>by
 obtain⟨n,hn⟩:=lH.1 hc
 exact pQ hP rE m n f args h r h' hn
theorem aV:Has bD []:=⟨fun j i c h=>by simp at h,fun j j' i c c' h=>by simp at h,aa1⟩
end
section
variable {P:Program}{T:oz}{m f deep:Nat}{h:AHeap}{xs ys:List AV}{y:AV}{x:AV × AHeap}
theorem IP (h1:T.intr f=none)(h2:T.pure f=some deep)(h3:T.fe f=false)(hd:hH+bR≤deep)(hx:yW xs ys)(hb:∃r h',bf P T.aY (jj P T m) m f ys bD=some (r,h')∧Qj h' r y):jj P T m f xs h=some (y,h):=by
 obtain⟨r,h',hb,hf⟩:=hb
 refine lI ?_
 have hd:hH+4503599627370496≤deep:=aap (Nat.add_le_add_left (by decide) _) hd
 simp only [rH,h1,h2,h3,ZN,if_false,hx.1,if_true,hx.2,hb,ZB,hf deep hd,ZJ]
theorem br (h1:T.intr f=none)(h2:T.pure f=some deep)(h3:T.fe f=false)(hd:hH+bR≤deep)(hx:aU bR h xs ys)(hb:∃r h',bf P T.aY (jj P T m) m f ys bD=some (r,h')∧fG h' r y):jj P T m f xs h=some (y,h):=by
 have h4:=hx deep hd
 have H2:hH+4503599627370496≤deep:=aap (Nat.add_le_add_left (by decide) _) hd
 by_cases hn:dq xs=true
 ·have:=hY deep xs ys hn h4
  obtain⟨r,h',hb,hf⟩:=hb
  exact IP h1 h2 h3 hd ⟨hn,this.symm⟩ ⟨r,h',hb,hf.If⟩
 ·obtain⟨r,h',hb,hf⟩:=hb
  refine lI ?_
  simp only [rH,h1,h2,h3,ZN,if_false,hn,h4,hb,ZB,hf deep H2,ZJ]
theorem gY (h1:T.intr f=none)(h2:T.pure f=none)(hx:xs.map aS=ys)(hb:bf P T.aY (jj P T m) m f ys h=some x):jj P T m f xs h=some x:=by
 refine lI ?_
 simp only [rH,h1,h2,hx,hb]
theorem IQ {g:List AV→AHeap→Option (AV × AHeap)}(h1:T.intr f=some g)(hx:g xs h=some x):jj P T m f xs h=some x:=by
 refine lI ?_
 simp only [rH,h1,hx]
theorem pa {g:List AV→AHeap→Option (AV × AHeap)}(h1:T.intr f=some g):jj P T m f xs h=g xs h:=by
 cases hg:g xs h with
 | some x=>exact IQ h1 hg
 | none=>
  cases hc:jj P T m f xs h with
  | none=>rfl
  | some x=>
   obtain⟨n,hn⟩:=lH.1 hc
   cases n with
   | zero=>simp [fD] at hn
   | succ n=>simp only [fD,h1,hg] at hn; cases hn
end
end Go.R
namespace Go.R
open Go
def aK:List ak→List Nat→List (ak × Nat)
 | [],_=>[]
 | n::ns,ids=>(n,ids.headD 0)::aK ns ids.tail
def Mx (ids:List Nat)(i:Int):Nat:=ids.getD i.toNat 0
def xh (ns:List ak)(ids:List Nat):List Nat:=(aK ns ids).map fun p=>p.2
def b4:bQ (ak × Nat):={n:=4,f:=fun x=>[.int .i64 x.1.kind,.int .i64 x.1.int,.str x.1.label,.rs x.2 0 x.1.args.length 1],len:=fun _=>rfl,pos:=by decide,flat:=false,pure:=fun _ h=>(by cases h),canon:=fun _=>rfl}
def AZ (p:ak × Nat):Nat × Ct:=(p.2,.sl p.1.args.length 1 (af.l p.1.args))
def cz (ns:List ak)(ids:List Nat):Mem:=(aK ns ids).map AZ
theorem fE:∀(ns:List ak) (ids:List Nat),(aK ns ids).length=ns.length
 | [],_=>rfl
 | n::ns,ids=>by simp [aK,fE ns]
theorem A0 (ids:List Nat):ids.headD 0=ids.getD 0 0:=by cases ids<;>rfl
theorem Er (ids:List Nat)(i:Nat):ids.tail.getD i 0=ids.getD (i+1) 0:=by cases ids<;>simp
theorem tH:∀(ns:List ak) (ids:List Nat) (i:Nat) (n:ak),ns[i]? = some n→(aK ns ids)[i]? = some (n,ids.getD i 0)
 | [],_,i,n,h=>by simp at h
 | a::ns,ids,0,n,h=>by
  simp only [aag,ZE] at h
  subst h
  show (some (a,ids.headD 0):Option (ak × Nat))=some (a,ids.getD 0 0)
  rw [A0]
 | a::ns,ids,i+1,n,h=>by
  simp only [aaK] at h
  have:=tH ns ids.tail i n h
  simp only [aK,aaK,this,Er]
theorem sy {ns:List ak}{ids:List Nat}{i:Int}{n:ak}(h:ix ns i=some n):ix (aK ns ids) i=some (n,Mx ids i):=by
 obtain⟨h0,h1,h2⟩:=iq h
 unfold ix Mx
 rw [if_pos h0,tH ns ids _ _ h2]
theorem tI:∀(ns:List ak) (ids:List Nat) (n:ak) (ad:Nat),aK (ns++[n]) (xh ns ids++[ad])=aK ns ids++[(n,ad)]
 | [],ids,n,ad=>rfl
 | a::ns,ids,n,ad=>by
  have:=tI ns ids.tail n ad
  simp only [xh,aK,Z0,aak,List.headD_cons,List.tail_cons] at this ⊢
  rw [this]
theorem IS (ns:List ak)(ids:List Nat)(n:ak)(ad:Nat):cz (ns++[n]) (xh ns ids++[ad])=cz ns ids++[AZ (n,ad)]:=by
 unfold cz; rw [tI,Z7]; rfl
theorem Has.perm {h:AHeap}{K K':Mem}(o:Has h K)(p:K'.Perm K):Has h K':=by
 have hP:K.Pairwise fun a b=>a.1≠0→a.1≠b.1:=by
  rw [List.pairwise_iff_getElem]
  intro i j hi hj Ah h0 he
  have:=o.nd i j K[i].1 K[i].2 K[j].2 (by rw [ZG hi]) (by rw [ZG hj,he]) h0
  omega
 have Qt:K'.Pairwise fun a b=>a.1≠0→a.1≠b.1:=(p.pairwise_iff (fun {a b} h h0 he=>h (by rw [←he]; exact h0) he.symm)).2 hP
 rw [List.pairwise_iff_getElem] at Qt
 refine⟨fun j i c hj=>?_,fun j j' i c c' hj Ag h0=>?_,o.pos⟩
 ·obtain⟨j',Ag⟩:=aav (p.mem_iff.1 (ZK hj))
  exact o.at_ j' i c Ag
 ·obtain⟨a1,a2⟩:=ZH.1 hj
  obtain⟨b1,b2⟩:=ZH.1 Ag
  rcases Nat.lt_trichotomy j j' with hl | hl | hl
  ·have:=Qt j j' a1 b1 hl
   rw [a2,b2] at this
   exact absurd rfl (this h0)
  ·exact hl
  ·have:=Qt j' j b1 a1 hl
   rw [a2,b2] at this
   exact absurd rfl (this h0)
section
variable {P:Program}{t t2 tf:TypeId}{h:AHeap}{pre L:Mem}{ns r:List ak}{ids:List Nat}{i ad k n2:Nat}{j a v:Int}{n:ak}
theorem Has.gone (o:Has h (pre++(cz ns ids++L))):Has h (pre++L):=by
 refine o.sub (fun q=>if q<pre.length then q else q+(cz ns ids).length) (fun q p hq=>?_) (fun q q' he=>?_)
 ·by_cases hl:q<pre.length
  ·rw [ZS hl] at hq
   rw [if_pos hl,ZS hl]; exact hq
  ·rw [ZT (by omega)] at hq
   rw [if_neg hl,ZT (by omega),ZT (by omega),←hq]
   congr 1; omega
 ·split at he<;>split at he<;>omega
theorem KT {b:Nat}{kind int:Int}{label:ByteArray}{args:List Int}{x:AV}(T:yS P t 4 b=true)(o:Has h ((i,.sl k 4 (b4.l (aK ns ids)))::(ad,.sl n2 1 (af.l args))::(pre++(cz ns ids++L))))
  (hx:gm h 4 x=some ([.int .i64 kind,.int .i64 int,.str label,.rs ad 0 n2 1],1)) (gZ:ja P t2 x=true) (hr:app b ns [⟨kind,int,label,args⟩]=some r) :
  ∃i' NH h',ei P h t t2 (.rs i 0 k 4) x=some (.rs i' 0 r.length 4,h')∧Has h' ((i',.sl r.length 4 (b4.l (aK r NH)))::(pre++(cz r NH++L))):=by
 have hn:n2=args.length:=dh (E:=af) o (q:=1) rfl
 subst hn
 obtain⟨_,_,rfl⟩:=yT hr
 have AQ:app b (aK ns ids) [((⟨kind,int,label,args⟩:ak),ad)]=some (aK ns ids++[((⟨kind,int,label,args⟩:ak),ad)]):=by
  unfold app at hr ⊢
  rw [fE]
  split at hr
  ·rename_i hh
   simp only [ZU,Z8] at hh ⊢
   rw [if_pos hh]
  ·cases hr
 have Ir:gm h b4.n x=some (b4.l [((⟨kind,int,label,args⟩:ak),ad)],[((⟨kind,int,label,args⟩:ak),ad)].length):=hx
 obtain⟨i',h',e,o'⟩:=iA (E:=b4) (l:=aK ns ids) (q:=0) T o rfl Ir gZ AQ
 have e:ei P h t t2 (.rs i 0 k 4) x=some (.rs i' 0 (aK ns ids++[((⟨kind,int,label,args⟩:ak),ad)]).length 4,h'):=e
 refine⟨i',xh ns ids++[ad],h',?_,?_⟩
 ·rw [e,ZM,ZM,fE]; rfl
 ·rw [IS,tI]
  have o':Has h' ((i',.sl (aK ns ids++[((⟨kind,int,label,args⟩:ak),ad)]).length 4 (b4.l (aK ns ids++[((⟨kind,int,label,args⟩:ak),ad)])))::AZ (⟨kind,int,label,args⟩,ad)::(pre++(cz ns ids++L))):=o'
  have el:(ns++[(⟨kind,int,label,args⟩:ak)]).length=(aK ns ids++[((⟨kind,int,label,args⟩:ak),ad)]).length:=by
   rw [ZM,ZM,fE]; rfl
  rw [el]
  refine o'.perm (List.Perm.cons _ ?_)
  have k1:pre++((cz ns ids++[AZ ((⟨kind,int,label,args⟩:ak),ad)])++L)=(pre++cz ns ids)++AZ (⟨kind,int,label,args⟩,ad)::L:=by simp
  have k2:pre++(cz ns ids++L)=(pre++cz ns ids)++L:=by simp
  rw [k1,k2]
  exact List.perm_middle
def cM:Nat:=2251799813685248
theorem y7:∀(ns:List ak) (ids:List Nat),(aK ns ids).map (fun p=>p.1)=ns
 | [],_=>rfl
 | n::ns,ids=>by simp [aK,y7 ns]
theorem Ci:∀(zs:List (ak × Nat)),(∀p∈zs,∀n,hH≤n→cp h n (.rs p.2 0 p.1.args.length 1)=some (af.fz p.1.args))→∀n,hH+4*zs.length+1≤n→bC h n (b4.l zs)=some (ai.l (zs.map fun p=>p.1))
 | [],_,n,hn=>by
  obtain⟨m,rfl⟩:∃m,n=m+1:=⟨n - 1,by omega⟩
  rfl
 | p::zs,hz,n,hn=>by
  obtain⟨m,rfl⟩:∃m,n=m+4+1:=⟨n - 5,by simp only [ZU] at hn; simp only [hH] at hn; omega⟩
  simp only [ZU] at hn
  have h1:=Ci zs (fun q hq=>hz q (by simp [hq])) (m+1) (by omega)
  have h2:=hz p (by simp) (m+1) (by omega)
  show bC h (m+4+1) (.int .i64 p.1.kind :: .int .i64 p.1.int :: .str p.1.label :: .rs p.2 0 p.1.args.length 1::b4.l zs)=some (.int .i64 p.1.kind :: .int .i64 p.1.int :: .str p.1.label::af.fz p.1.args::ai.l (zs.map fun p=>p.1))
  have a1:∀(n:Nat) (k:IntKind) (z:Int),cp h (n+1) (.int k z)=some (.int k z):=fun _ _ _=>rfl
  have a2:∀(n:Nat) (s:ByteArray),cp h (n+1) (.str s)=some (.str s):=fun _ _=>rfl
  rw [show m+4+1=(m+1+1+1+1)+1 by omega]
  simp only [bC,a1,a2,ZB,h1,h2,ZJ]
theorem xi {q:Nat}(o:Has h (pre++(cz ns ids++L)))(hq:(pre++(cz ns ids++L))[q]? = some (i,.sl k 4 (b4.l (aK ns ids)))):kJ cM h (.rs i 0 k 4) (ai.fz ns):=by
 intro m hm
 have hk:k=(aK ns ids).length:=dh (E:=b4) o hq
 rw [fE] at hk
 subst hk
 obtain⟨⟨⟨hlen,rq⟩,lU⟩,hlt⟩:=o.at_ _ _ _ hq
 have hlen:(b4.l (aK ns ids)).length=ns.length*4:=hlen
 obtain⟨k,rfl,hk⟩:=mh (show hH≤m by omega)
 simp only [cp]
 rcases lU with⟨h0,h1⟩| ⟨h0,rest,h1⟩
 ·have:ns=[]:=by simpa using h1
  subst this
  simp [h0,bQ.fz,bQ.l]
 ·rw [if_neg h0,h1]
  simp only [ZB]
  have e1:((b4.l (aK ns ids)++rest).drop 0).take (ns.length*4)=b4.l (aK ns ids):=by
   rw [aam,Z9 (by omega),aae (by omega)]
  rw [if_pos (by rw [ZM,hlen]; omega),e1,Ci (aK ns ids) (fun p hp n hn=>?_) k (by rw [fE]; simp only [hH,cM] at hm ⊢; omega),y7]
  ·rfl
  ·obtain⟨j,hj,e⟩:=List.getElem_of_mem hp
   have Np:(pre++(cz ns ids++L))[pre.length+j]? = some (p.2,.sl p.1.args.length 1 (af.l p.1.args)):=by
    have hl:j<(cz ns ids).length:=by unfold cz; rw [ZR]; exact hj
    rw [ZT (by omega),aaE,ZS hl]
    unfold cz
    rw [aau,ZG hj,e]; rfl
   exact cZ (E:=af) (l:=p.1.args) o Np (fun _=>rfl) rfl n hn
end
end Go.R
namespace Go.R
open Go
inductive yd
 | b (i:Nat) {x y:Bool} (h:x=y)
 | v (i:Nat) {e:Option AV} {z:AV} (h:e=some z)
 | w (i:Nat) {e:Option AHeap} {g:AHeap} (h:e=some g)
 | a (i:Nat) {e:Option (AV × AHeap)} {z:AV} {g:AHeap} (h:e=some (z,g))
 | m (i:Nat) {e:AV × AHeap} {z:AV} {g:AHeap} (h:e=(z,g))
def yd.Wm:yd→Nat × AV × Option AHeap
 | @b i x y h=>(i,.bool y,none)
 | @v i e z h=>(i,z,none)
 | @w i e g h=>(i,.any,some g)
 | @a i e z g h=>(i,z,some g)
 | @m i e z g h=>(i,z,some g)
def yd.fr:yd→AV × AHeap
 | @a i e z g h=>(z,g)
 | _=>(.any,bD)
def yd.p:yd→Prop
 | @b i x y h=>AV.bool x=AV.bool y
 | @v i e z h=>e=some z
 | @w i e g h=>e=some g
 | @a i e z g h=>e=some (z,g)
 | @m i e z g h=>e=(z,g)
theorem yd.ok:∀g:yd,g.p
 | @b i x y h=>congrArg AV.bool h
 | @v i e z h=>h
 | @w i e g h=>h
 | @a i e z g h=>h
 | @m i e z g h=>h
def y8:List yd→IC
 | []=>[]
 | g::gs=>g.Wm::y8 gs
def Es:List yd→List (AV × AHeap)
 | []=>[]
 | g::gs=>g.fr::Es gs
def ps:List yd→Prop
 | []=>True
 | g::gs=>g.p∧ps gs
theorem y9:∀gs,ps gs
 | []=>trivial
 | g::gs=>⟨g.ok,y9 gs⟩
def cA:Code→Code
 | .seq a _=>a
 | .cond _ a _=>a
 | .block _ a=>a
 | .loop a=>a
 | _=>.skip
def cB:Code→Code
 | .seq _ b=>b
 | .cond _ _ b=>b
 | _=>.skip
def kd:Code→Nat
 | .skip=>0
 | .ret=>1
 | .seq _ _=>2
 | .loop _=>3
 | _=>9
def Qu:Code→Option Nat
 | .exit i=>some i
 | _=>none
def Qv:Code→Option Nat
 | .block i _=>some i
 | _=>none
def Qw (A:b9)(c:Code)(s:St):Option AV:=
 match c with
 | .cond k _ _=>some (bX (s.open A).ρ k)
 | _=>none
def nx (P:Program)(cf:CallF)(A:b9)(c:Code)(fs gs:List yd)(s:St):St:=((oF P cf A c (Es fs) (y8 gs) s).map (·.2)).getD s
section
variable {P:Program}{cf:CallF}{A:b9}{m:Nat}{c:Code}{s:St}{Q R:Ex→St→Prop}
theorem My (fs gs:List yd)(hQ:Q .norm (nx P cf A c fs gs s))(h:(oF P cf A c (Es fs) (y8 gs) s).map (·.1)=some (ps fs∧ps gs):=by kernel_rfl):dK P cf A m c s Q:=by
 unfold nx at hQ
 obtain⟨⟨p,s'⟩,h1,rfl⟩:=ZD.1 h
 rw [h1] at hQ
 exact FW h1 ⟨y9 fs,y9 gs⟩ hQ
theorem qr (gs:List yd)(hQ:Q .norm (nx P cf A c [] gs s))(h:(oF P cf A c [] (y8 gs) s).map (·.1)=some (True∧ps gs):=by kernel_rfl):dK P cf A m c s Q:=My [] gs hQ h
theorem q0 (hQ:Q .norm (nx P cf A c [] [] s))(h:(oF P cf A c [] [] s).map (·.1)=some (True∧True):=by kernel_rfl):dK P cf A m c s Q:=My [] [] hQ h
theorem TY (h:kd c=2):c = .seq (cA c) (cB c):=by cases c<;>first | rfl | cases h
theorem qq (hQ:dK P cf A m (cA c) s (KK (fun s'=>dK P cf A m (cB c) s' Q) Q))(h:kd c=2:=by kernel_rfl):dK P cf A m c s Q:=by rw [TY h]; exact yP hQ
theorem TZ (fs gs:List yd)(hQ:dK P cf A m (cB c) (nx P cf A (cA c) fs gs s) Q)(h:kd c=2:=by kernel_rfl)(h2:(oF P cf A (cA c) (Es fs) (y8 gs) s).map (·.1)=some (ps fs∧ps gs):=by kernel_rfl):dK P cf A m c s Q:=qq (My fs gs hQ h2) h
theorem qs (gs:List yd)(hQ:dK P cf A m (cB c) (nx P cf A (cA c) [] gs s) Q)(h:kd c=2:=by kernel_rfl)(h2:(oF P cf A (cA c) [] (y8 gs) s).map (·.1)=some (True∧ps gs):=by kernel_rfl):dK P cf A m c s Q:=TZ [] gs hQ h h2
theorem q1 (hQ:dK P cf A m (cB c) (nx P cf A (cA c) [] [] s) Q)(h:kd c=2:=by kernel_rfl)(h2:(oF P cf A (cA c) [] [] s).map (·.1)=some (True∧True):=by kernel_rfl):dK P cf A m c s Q:=TZ [] [] hQ h h2
theorem qk (hQ:Q .norm s)(h:kd c=0:=by kernel_rfl):dK P cf A m c s Q:=by
 have:c = .skip:=by cases c<;>first | rfl | cases h
 rw [this]; exact Ef hQ
theorem qt (hQ:Q .ret s)(h:kd c=1:=by kernel_rfl):dK P cf A m c s Q:=by
 have:c = .ret:=by cases c<;>first | rfl | cases h
 rw [this]; exact FX hQ
theorem qx (i:Nat)(hQ:Q (.exit i) s)(h:Qu c=some i:=by kernel_rfl):dK P cf A m c s Q:=by
 have:c = .exit i:=by cases c<;>first | (cases h; rfl) | cases h
 rw [this]; exact Eg hQ
theorem qb (i:Nat)(hQ:dK P cf A m (cA c) s (Qh i Q))(h:Qv c=some i:=by kernel_rfl):dK P cf A m c s Q:=by
 have:c = .block i (cA c):=by cases c<;>first | (cases h; rfl) | cases h
 rw [this]; exact AT hQ
theorem qc {α:Type}{b:Bool}{x y z:Option α}(H:(if b=true then x else y)=z)(ht:b=true→x=z→dK P cf A m (cA c) s Q)(hf:b=false→y=z→dK P cf A m (cB c) s Q)(h:Qw A c s=some (.bool b):=by kernel_rfl):dK P cf A m c s Q:=by
 cases c<;>first | cases h | skip
 rename_i k a e
 exact qI b (aaf h) (fun hb=>ht hb (Wk hb H)) (fun hb=>hf hb (Wl hb H))
theorem za (hQ:dK P cf A m (cA c) s Q)(h:Qw A c s=some (.bool true):=by kernel_rfl):dK P cf A m c s Q:=by
 cases c<;>first | cases h | skip
 exact qI true (aaf h) (fun _=>hQ) (fun hb=>by cases hb)
theorem Gh (hQ:dK P cf A m (cB c) s Q)(h:Qw A c s=some (.bool false):=by kernel_rfl):dK P cf A m c s Q:=by
 cases c<;>first | cases h | skip
 exact qI false (aaf h) (fun hb=>by cases hb) (fun _=>hQ)
theorem ql {c':Code}(h:dK P cf A m c' s Q)(k:∀e s',Q e s'→R e s')(hc:c=c':=by kernel_rfl):dK P cf A m c s R:=by rw [hc]; exact vC h k
theorem qj {α β:Type}{S:α→St→Prop}(f:α→Option β){out:β}{z:Option β}(h0:z=some out)(hB:∀σ s,S σ s→f σ=some out→dK P cf A m (cB c) s Q)
  (hA:(∀σ s,S σ s→f σ=some out→dK P cf A m (cB c) s Q)→dK P cf A m (cA c) s (KK (fun s'=>dK P cf A m (cB c) s' Q) Q)) (h:kd c=2:=by kernel_rfl):dK P cf A m c s Q:=by
 rw [TY h]; exact yP (hA hB)
end
def dL {S O:Type}(P:Program)(cf:CallF)(A:b9)(m:Nat)(c:Code)(l:Nat→S→Option O)(R:S→St→Prop)(Q:O→Ex→St→Prop):Prop:=∀σ s out,R σ s→l m σ=some out→dK P cf A m (.loop c) s (Q out)
theorem lg {S O:Type}{P:Program}{cf:CallF}{A:b9}{m:Nat}{c:Code}{l:Nat→S→Option O}{R:S→St→Prop}{Q:O→Ex→St→Prop}(h0:∀σ,l 0 σ=none)
  (step:∀k σ s out,R σ s→l (k+1) σ=some out→dK P cf A m c s (FY l R Q k out)):dL P cf A m c l R Q:=fun _ _ _ hr H=>Eh l R Q h0 step hr H (fun _ _ _ h=>h)
def KU:Nat→List Nat→List Nat
 | _,[]=>[]
 | k,x::xs=>bif aaj (k % 2) 1 then x::KU (k / 2) xs else KU (k / 2) xs
def NI (keep:List Nat):Nat→List Nat→List (Nat × List Nat)
 | _,[]=>[]
 | r,k::ks=>(r,KU k keep)::NI keep (r+1) ks
def gW (keep aI ms:List Nat)(If Ax:List (Nat × List (Nat × Option Nat × Nat))):b9:={keep:=keep,aI:=aI,dead:=NI keep 0 ms,If:=If,Ax:=Ax}
theorem gS {α:Type}{b:Bool}{x y z:α}(H:(if b=true then x else y)=z):(b=true∧x=z)∨(b=false∧y=z):=by
 cases b with
 | true=>exact .inl ⟨rfl,H⟩
 | false=>exact .inr ⟨rfl,H⟩
theorem oi {α:Type}{a b:α}(h:some a=some b):a=b:=aaf h
theorem cV {P:Program}{A:b9}{s:St}{rs:List ResultVar}{y:AV}(av:AV)(g:AHeap)(h:fG g av y)(h1:aO P (s.open A) rs=some av:=by kernel_rfl)(h2:s.h=g:=by kernel_rfl):∃av,aO P (s.open A) rs=some av∧fG s.h av y:=⟨av,h1,h2 ▸ h⟩
theorem he {g g':AHeap}{K:Mem}(o:Has g K)(h:g'=g:=by kernel_rfl):Has g' K:=h ▸ o
end Go.R
namespace Go.R
open Go Go.Proofs Go.Shelf Go.RowKit Go.Sort
def pb:List AV→Option (List Int)
 | []=>some []
 | .int .i64 z::xs=>(pb xs).map fun l=>z::l
 | _=>none
theorem nF:∀{xs:List AV} {l:List Int},pb xs=some l→xs=l.map fun z=>.int .i64 z
 | [],l,h=>by cases h; rfl
 | x::xs,l,h=>by
  unfold pb at h
  split at h
  ·rename_i e; cases e
  ·rename_i z ys e
   obtain⟨rfl,rfl⟩:=List.cons.inj e
   obtain⟨l',h1,rfl⟩:=ZD.1 h
   rw [nF h1]; rfl
  ·cases h
theorem tJ:∀l:List Int,pb (l.map fun z=>.int .i64 z)=some l
 | []=>rfl
 | z::l=>by simp only [Z0,pb,tJ l,ZJ]
def lJ (l:List Int):List Int:=l.mergeSort fun x y=>decide (x≤y)
noncomputable def KV (args:List AV)(h:AHeap):Option (AV × AHeap):=
 match args with
 | [.rs id 0 n 1]=>if n=0 then some (.tup [],h) else (h.get id).bind fun
  | .cells cs=>if n≤cs.length∧n<4611686018427387904 then (pb (cs.take n)).map fun l=>(.tup [],h.put id (.cells ((lJ l).map (fun z=>.int .i64 z)++cs.drop n))) else none
  | _=>none
 | _=>none
theorem Et:∀args h r h',KV args h=some (r,h')→Steady h h':=by
 intro args h r h' hs
 unfold KV at hs
 split at hs
 ·split at hs
  ·cases hs; exact Steady.refl _
  ·rw [ZC] at hs
   obtain⟨o,_,hs⟩:=hs
   split at hs
   ·split at hs
    ·obtain⟨l,_,hs⟩:=ZD.1 hs
     cases hs; exact Steady.put _ _ _
    ·cases hs
   ·cases hs
 ·cases hs
section
variable {c:Cx}{L0:Nat→Prop}
theorem Eu (hrel:HRel c L0){id n:Nat}{cs:List AV}{l:List Int}(hid:c.h.get id=some (.cells cs))(hl:pb (cs.take n)=some l):Holds (Value.int .i64) c.w (c.β id).1 (c.β id).2 l.toArray:=by
 obtain⟨m,⟨C,T,hC,hn⟩,hle,hcl⟩:=hrel.obj _ _ hid
 intro j hj
 have hj:j<l.length:=by simpa using hj
 have hx:cs[j]? = some (.int .i64 l[j]):=by
  have h1:(cs.take n)[j]? = some (.int .i64 l[j]):=by rw [nF hl,aau,ZG hj]; rfl
  rw [List.getElem?_take] at h1
  split at h1
  ·exact h1
  ·cases h1
 obtain⟨v,h1,_,h3⟩:=hcl.get' j _ hx
 simp only [VR] at h3
 subst h3
 refine⟨by rw [h1]; simp [hj],by simp [World.frozen?,hC]⟩
theorem IT (hrel:HRel c L0)(hbs:c.base≤c.w.heap.size){id n:Nat}{cs:List AV}{new:List Int}(hid:c.h.get id=some (.cells cs))(hn:n≤cs.length)(hnew:new.length=n)(q:Nat)(os:Array Obj) :
  let w':=grow (putRow (Value.int .i64) (Sort.ahead c.w q) (c.β id).1 (c.β id).2 new.toArray) os
  let c':Cx:=⟨c.β,c.h.put id (.cells (new.map (fun z=>.int .i64 z)++cs.drop n)),w',c.base⟩
  HRel c' L0∧Ext c none0 c' none0∧c'.len (c.β id).1=c.len (c.β id).1:=by
 intro w' c'
 have hun:un L0 none0=L0:=by funext b; simp [un,none0]
 have f:=Fr.none hrel
 obtain⟨m,⟨C,T,hC,hm⟩,hle,hcl⟩:=hrel.obj _ _ hid
 have hlive:Live c.h id:=⟨hrel.lt _ _ hid,by rw [hid]; rfl⟩
 have hblt:(c.β id).1<c.w.heap.size:=(aac.1 hC).1
 have rR:∀k,k<c.w.heap.size→w'.heap[k]? = if k=(c.β id).1 then some (.cells (putCells (Value.int .i64) (c.β id).2 new.toArray C) T (0,0)) else c.w.heap[k]?:=fun k hk=>by
  show (grow _ os).heap[k]? = _
  rw [heap_grow_old _ _ (by simp [putRow,mapBlock,Sort.ahead]; exact hk)]
  by_cases h:k=(c.β id).1
  ·subst h; simp [putRow,mapBlock,Sort.ahead,aaI,hC,onCells]
  ·have h2:(c.β id).1≠k:=fun e=>h e.symm
   simp [putRow,mapBlock,Sort.ahead,aaI,h,h2]
 have uG:w'.heap[(c.β id).1]? = some (.cells (putCells (Value.int .i64) (c.β id).2 new.toArray C) T (0,0)):=by rw [rR _ hblt,if_pos rfl]
 have hsz:(putCells (Value.int .i64) (c.β id).2 new.toArray C).size=C.size:=by simp [putCells]
 have hlen:((w'.shape? (c.β id).1).map (·.2)).getD 0=c.len (c.β id).1:=by
  simp only [Cx.len,World.shape?,uG,hC,ZJ,aaA,hsz]
 have NJ:c.w.heap.size≤w'.heap.size:=by
  show _≤(grow _ os).heap.size
  simp [grow,putRow,mapBlock,Sort.ahead]
 obtain⟨e2,f2⟩:=f.upd (w':=w') (β':=c.β) (h':=c.h.put id (.cells (new.map (fun z=>.int .i64 z)++cs.drop n))) id (.cells (new.map (fun z=>.int .i64 z)++cs.drop n)) (Steady.put _ _ _) (aaS hlive.1) (by simp [AHeap.put,beq_nat])
  (fun j hj=>.inr ⟨by simp [AHeap.put,beq_nat,hj],rfl⟩) (fun _=>⟨hlive,rfl⟩) (.inr ⟨id,hlive,rfl,.inl rfl⟩)
  (fun _=>hlen) (fun k hk hne=>by rw [rR k hk,if_neg hne]) (fun k hk hne=>by rw [rR k (by omega),if_neg hne]) NJ hbs rfl rfl rfl
  (fun ee=>by
   refine⟨C.size,⟨_,T,uG,hsz⟩,by rw [ZM,ZR,List.length_drop,hnew]; omega,?_⟩
   rw [Cells.iff]
   intro i x hx
   show ∃v,w'.cell? _=some v∧_
   rw [cell_of_block uG]
   have hi:i<cs.length:=by
    have:=(ZH.1 hx).1
    rw [ZM,ZR,List.length_drop,hnew] at this; omega
   have Wn:(putCells (Value.int .i64) (c.β id).2 new.toArray C)[(c.β id).2+i]? = C[(c.β id).2+i]?.map fun x=>if (c.β id).2≤(c.β id).2+i∧(c.β id).2+i<(c.β id).2+new.toArray.size then Value.int .i64 new.toArray[(c.β id).2+i - (c.β id).2]! else x:=by
    unfold putCells; rw [Array.getElem?_mapIdx]
   rw [Wn]
   by_cases h:i<n
   ·rw [ZS (by rw [ZR,hnew]; exact h),aau,ZG (by omega)] at hx
    simp only [ZJ,ZE] at hx
    subst hx
    have Wo:(c.β id).2+i<C.size:=by omega
    rw [Array.getElem?_eq_getElem Wo]
    refine⟨.int .i64 new[i],?_,rfl,by simp [VR]⟩
    simp only [ZJ,ZE]
    rw [if_pos ⟨by omega,by simp [hnew]; exact h⟩,aaE]
    simp [show i<new.length by omega]
   ·rw [ZT (by rw [ZR,hnew]; omega),ZR,hnew,List.getElem?_drop,show n+(i - n)=i by omega] at hx
    obtain⟨v,v1,v2,v3⟩:=hcl.get' i x hx
    rw [cell_of_block hC] at v1
    refine⟨v,?_,v2,?_⟩
    ·rw [v1]
     simp only [ZJ,ZE]
     rw [if_neg (by simp [hnew]; omega)]
    ·have:=VR.ext ee (L0:=L0) x v (by rw [hun]; exact v3)
     exact this)
 exact⟨by have:=f2.rel; rwa [hun] at this,e2,hlen⟩
end
section
variable {P:Program}{ρ:Ren}
theorem NK (L:Lays.n189 P ρ)(henter:∀(vs:Array Value) (w:World),(callFunc (ρ.f 189) vs).run P w = .ok (.enter (ρ.f 189) vs) w) :
  CallOK P fun f' args h=>if f'=ρ.f 189 then KV args h else none:=by
 intro f args h r h' hc
 dsimp only at hc
 split at hc
 rotate_left
 ·cases hc
 rename_i hf
 subst hf
 refine⟨henter,fun L0 c vs hh hb0 hrel hargs=>?_⟩
 subst hh
 unfold KV at hc
 split at hc
 rotate_left
 ·cases hc
 rename_i id n
 match vs,hargs with
 | [v1],⟨q1,_⟩=>
 split at hc
 ·rename_i hn
  subst hn
  cases hc
  have hs:∃a cap,v1 = .slice a 0 cap:=by
   simp only [VR] at q1
   rcases q1 with⟨_,_,_,a,rfl⟩| ⟨_,_,a,cap,rfl,_⟩
   ·exact⟨a,0,rfl⟩
   ·exact⟨a,cap,rfl⟩
  obtain⟨a,cap,rfl⟩:=hs
  refine (Any.slices_Sort_int_none L a cap c.w).mono ?_
  rintro e w' ⟨rfl,rfl⟩
  exact⟨c,_,rfl,rfl,rfl,by simp only [VR]; exact⟨#[],rfl,trivial⟩,hrel,Ext.refl _ _⟩
 ·rename_i hn
  rw [ZC] at hc
  obtain⟨o,hid,hc⟩:=hc
  split at hc
  rotate_left
  ·cases hc
  rename_i cs
  split at hc
  rotate_left
  ·cases hc
  rename_i hle
  obtain⟨l,hl,he⟩:=ZD.1 hc
  simp only [ZL] at he
  obtain⟨rfl,rfl⟩:=he
  have hlive:Live c.h id:=⟨hrel.lt _ _ hid,by rw [hid]; rfl⟩
  have hll:l.length=n:=by
   have:=congrArg List.length (nF hl)
   rw [ZR,aaw] at this; omega
  simp only [VR] at q1
  rcases q1 with⟨_,_,h0,_⟩| ⟨_,_,a,cap,rfl,h1,h2,h3⟩
  ·exact absurd h0 hn
  rcases h3 hlive with⟨rfl,h4⟩| h4
  rotate_left
  ·omega
  have hc:=Any.slices_Sort_int L (c.β id).1 (c.β id).2 cap l c.w (Eu hrel hid hl) (hrel.block hlive) (by omega)
  rw [hll] at hc
  refine hc.mono ?_
  rintro e w' ⟨rfl,q,os,rfl⟩
  have hsl:(lJ l).length=n:=by unfold lJ; rw [List.length_mergeSort,hll]
  obtain⟨g1,g2,_⟩:=IT hrel hb0 hid hle.1 hsl q os
  exact⟨_,_,rfl,rfl,rfl,by simp only [VR]; exact⟨#[],rfl,trivial⟩,g1,g2⟩
end
end Go.R
namespace Go.R
open Go
def J2 (cf:CallF)(f:FuncId):Prop:=∀args h,cf f args h=KV args h
theorem qN (l:List Int):af.l l=l.map fun z=>.int .i64 z:=by
 induction l with
 | nil=>rfl
 | cons a l ih=>rw [bQ.fB,ih]; rfl
theorem kc (l:List Int):(lJ l).length=l.length:=by unfold lJ; rw [List.length_mergeSort]
section
variable {h:AHeap}{L:Mem}{i n:Nat}{l:List Int}{cf:CallF}{f:FuncId}
theorem IU (o:Has h ((i,.sl n 1 (af.l l))::L))(hn:n≠0):n=l.length∧i≠0∧l.length<4611686018427387904∧∃rest,h.get i=some (.cells (l.map (fun z=>.int .i64 z)++rest)):=by
 obtain⟨⟨⟨h1,h2⟩,h3⟩,_⟩:=o.at_ 0 _ _ rfl
 have hl:(af.l l).length=l.length:=by rw [qN,ZR]
 rw [hl] at h1 h2
 rcases h3 with⟨_,h⟩| ⟨h,rest,h4⟩
 ·exact absurd h hn
 ·rw [qN] at h4
  exact⟨by omega,h,by omega,rest,h4⟩
theorem KW (o:Has h ((i,.sl 0 1 (af.l l))::L)):l=[]:=by
 obtain⟨⟨⟨h1,_⟩,_⟩,_⟩:=o.at_ 0 _ _ rfl
 rw [qN,ZR] at h1
 exact Z6 (by omega)
theorem KX (S:J2 cf f)(o:Has h ((i,.sl n 1 (af.l l))::L)):∃h',cf f [.rs i 0 n 1] h=some (.tup [],h')∧Has h' ((i,.sl n 1 (af.l (lJ l)))::L):=by
 rw [S]
 by_cases hn:n=0
 ·subst hn
  have:=KW o
  subst this
  have e:lJ []=[]:=by simp [lJ]
  exact⟨h,rfl,by rw [e]; exact o⟩
 ·obtain⟨h1,h2,h3,rest,h4⟩:=IU o hn
  subst h1
  have et:(l.map (fun z=>AV.int .i64 z)++rest).take l.length=l.map fun z=>AV.int .i64 z:=by
   rw [Z9 (by simp),aae (by simp)]
  have ed:(l.map (fun z=>AV.int .i64 z)++rest).drop l.length=rest:=by
   have:=List.drop_left (l₁:=l.map fun z=>AV.int .i64 z) (l₂:=rest)
   rwa [ZR] at this
  refine⟨h.put i (.cells ((lJ l).map (fun z=>.int .i64 z)++rest)),?_,?_⟩
  ·unfold KV
   simp only
   rw [if_neg hn,h4,ZB]
   simp only
   rw [if_pos ⟨by simp,h3⟩,et,tJ,ZJ,ed]
  ·refine jA (q:=0) o rfl (ob:=.cells ((lJ l).map (fun z=>.int .i64 z)++rest)) (c':=.sl l.length 1 (af.l (lJ l))) ⟨⟨?_,?_⟩,.inr ⟨h2,rest,by rw [dB,if_pos rfl,qN]⟩⟩
   ·rw [qN,ZR,kc]; omega
   ·have:=(o.at_ 0 _ _ rfl).1.1.2
    rw [qN,ZR] at this ⊢
    rw [kc]; exact this
end
end Go.R
namespace Go.R
open Go
def zb (z:Nat)(args:List AV)(h:AHeap):Option (AV × AHeap):=
 match args with
 | [.nils]=>some (.rs 0 0 0 z,h)
 | [.fz cs n _]=>if n=0 then some (.rs 0 0 0 z,h) else if cs.length=n*z∧n*1024≤1099511627776 then some (.rs h.next 0 n z,h.alloc (.cells (cs.map kg))) else none
 | [.rs id 0 n z']=>if n=0 then some (.rs 0 0 0 z,h) else (h.get id).bind fun
  | .cells cs=>if z'=z∧n*z≤cs.length∧n*1024≤1099511627776 then some (.rs h.next 0 n z,h.alloc (.cells ((cs.take (n*z)).map kg))) else none
  | _=>none
 | _=>none
def zc (cf:CallF)(f:FuncId)(z:Nat):Prop:=∀args h,cf f args h=zb z args h
def Aj (z:Nat){α:Type}(l:List α):Option (List α):=if l.length*1024≤1099511627776 then some l else none
theorem zd {z:Nat}{α:Type}{l r:List α}(h:Aj z l=some r):l.length*1024≤1099511627776∧r=l:=by
 unfold Aj at h
 split at h
 ·rename_i g; cases h; exact⟨g,rfl⟩
 ·cases h
section
variable {h:AHeap}{K:Mem}{i n q:Nat}{α:Type}{E:bQ α}{l r:List α}{cf:CallF}{f:FuncId}
theorem Gi (o:Has h K)(hl:l≠[])(hb:l.length*1024≤1099511627776):Has (h.alloc (.cells (E.l l))) ((h.next,.sl l.length E.n (E.l l))::K):=
 o.new (fun k hk=>by rw [AHeap.alloc,dB,if_neg (by omega)]) (aaM _) (.inr (ZI _)) (aas _) ⟨⟨bQ.bW,bQ.n9 (by omega)⟩,.inr ⟨by have:=o.pos; omega,[],by rw [AHeap.alloc,dB,if_pos rfl]; simp⟩⟩
theorem Cj (o:Has h K):Has h ((0,.sl ([]:List α).length E.n (E.l []))::K):=Has.nil o E.n
theorem J3 (S:zc cf f E.n)(o:Has h K)(hr:Aj E.n l=some r):∃i h',cf f [E.fz l] h=some (.rs i 0 r.length E.n,h')∧Has h' ((i,.sl r.length E.n (E.l r))::K):=by
 obtain⟨hb,rfl⟩:=zd hr
 rw [S]
 by_cases hl:r=[]
 ·subst hl
  exact⟨0,h,rfl,Cj o⟩
 ·have hn:r.length≠0:=fun e=>hl (Z6 e)
  refine⟨h.next,_,?_,Gi o hl hb⟩
  show zb E.n [.fz (E.l r) r.length false] h=_
  unfold zb
  simp only
  rw [if_neg hn,if_pos ⟨bQ.bW,hb⟩,bQ.w8]
theorem J4 (S:zc cf f E.n)(o:Has h K)(hq:K[q]? = some (i,.sl n E.n (E.l l)))(hr:Aj E.n l=some r):∃i' h',cf f [.rs i 0 n E.n] h=some (.rs i' 0 r.length E.n,h')∧Has h' ((i',.sl r.length E.n (E.l r))::K):=by
 obtain⟨hb,rfl⟩:=zd hr
 have hn:=dh o hq
 subst hn
 rw [S]
 by_cases hl:r=[]
 ·subst hl
  exact⟨0,h,rfl,Cj o⟩
 ·have hn:r.length≠0:=fun e=>hl (Z6 e)
  obtain⟨⟨⟨h1,_⟩,h3⟩,_⟩:=o.at_ _ _ _ hq
  rcases h3 with⟨_,h4⟩| ⟨h0,rest,h4⟩
  ·exact absurd h4 hn
  ·refine⟨h.next,_,?_,Gi o hl hb⟩
   unfold zb
   simp only
   rw [if_neg hn,h4,ZB]
   simp only
   have h1:(E.l r).length=r.length*E.n:=bQ.bW
   rw [if_pos ⟨trivial,by rw [ZM,h1]; omega,hb⟩,Z9 (by omega),aae (by omega),bQ.w8]
end
end Go.R
namespace Go.R
open Go
section
variable {h:AHeap}{K:Mem}{i q off k:Nat}{cs ys:List AV}
theorem ez (o:Has h K)(hq:K[q]? = some (i,.ob cs))(f:aU k h cs ys):kJ (k+1) h (.ptr i off) (.fp ys off):=fun n hn=>by
 obtain⟨m,rfl⟩:∃m,n=m+1:=⟨n - 1,by simp only [hH] at hn; omega⟩
 obtain⟨⟨_,h2⟩,_⟩:=o.at_ _ _ _ hq
 simp only [cp,h2,ZB]
 rw [f m (by omega)]; rfl
theorem ml (hp:dq cs=true∧dX cs=cs):(AV.fp cs off).eT=true∧(AV.fp cs off).jM = .fp cs off:=⟨by simpa [AV.eT] using hp.1,by show AV.fp (dX cs) off=_; rw [hp.2]⟩
theorem fK (hp:dq cs=true∧dX cs=cs):kJ 0 h (.fp cs off) (.fp cs off):=mi (ml hp).1 (fun _=>rfl) (ml hp).2
end
def KY {α:Type}(o:Option α)(i:Nat):AV:=
 match o with
 | none=>.ou
 | some _=>.ptr i 0
def KZ {α:Type}(o:Option α)(f:α→Mem):Mem:=
 match o with
 | none=>[]
 | some y=>f y
def Ev {α β:Type}(o:Option α)(n:Option β)(s:α→Option β):Option β:=
 match o with
 | none=>n
 | some y=>s y
theorem Ew {α β:Type}{o:Option α}{n:Option β}{s:α→Option β}{z:Option β}(h:Ev o n s=z):(o=none∧n=z)∨∃y,o=some y∧s y=z:=by
 cases o with
 | none=>exact .inl ⟨rfl,h⟩
 | some y=>exact .inr ⟨y,rfl,h⟩
end Go.R
namespace Go.R
open Go
def rW:List (AHeap × AHeap × Nat)→Prop
 | []=>True
 | (h,h',i)::l=>h.ver i=h'.ver i∧rW l
theorem pX:∀{a b:List (AHeap × AHeap × Nat)},rW (a++b)→rW a∧rW b
 | [],b,h=>⟨trivial,h⟩
 | (_,_,_)::a,b,h=>by
  have:=pX (a:=a) h.2
  exact⟨⟨h.1,this.1⟩,this.2⟩
theorem ze:∀{l:List Nat} {h h':AHeap},rW (l.map fun id=>(h,h',id))→∀id∈l,h.ver id=h'.ver id
 | i::l,h,h',hp,id,hm=>by
  rcases ZZ.1 hm with rfl | hm
  ·exact hp.1
  ·exact ze hp.2 id hm
def La (x y:mO):Bool:=
 match x.f.wb with
 | some k=>!y.f.rb.contains k&&y.f.wb != some k
 | none=>true
def xj (x y:mO):Option (List (AHeap × AHeap × Nat)):=
 bif La x y then (bif x.f.wh then (bif y.f.wh then none else some (y.f.rh.map fun id=>(x.s.h,x.s'.h,id))) else some []) else none
theorem vH {x y:mO}{l:List (AHeap × AHeap × Nat)}(h:xj x y=some l)(hp:rW l):x.jN y=true:=by
 have he:x.jN y=(La x y&&(!x.f.wh||(!y.f.wh&&y.f.rh.all fun id=>aaj (x.s.h.ver id) (x.s'.h.ver id)))):=rfl
 rw [he]
 unfold xj at h
 cases h1:La x y with
 | false=>rw [h1] at h; cases h
 | true=>
  rw [h1,cond_true] at h
  cases hw:x.f.wh with
  | false=>rfl
  | true=>
   rw [hw,cond_true] at h
   cases hy:y.f.wh with
   | true=>rw [hy] at h; cases h
   | false=>
    rw [hy,cond_false] at h
    cases h
    simp only [aaC,Bool.false_or,Bool.not_false,aba,ZX]
    intro id hid
    rw [ze hp id hid,Nat.beq_refl]
def zf (ms:List Nat)(x:mO)(i:Nat):List (mO × Nat)→Option (List (AHeap × AHeap × Nat))
 | []=>some []
 | y::l=>bif aaZ y.2 i||(ms.getD y.2 0).testBit i then zf ms x i l else (xj x y.1).bind fun a=>(xj y.1 x).bind fun b=>(zf ms x i l).map fun c=>a++(b++c)
theorem Gj {ms:List Nat}{x:mO}{i:Nat}(l:List (mO × Nat)):∀{v:List (AHeap × AHeap × Nat)},zf ms x i l=some v→rW v→∀p∈l,(aaZ p.2 i||(ms.getD p.2 0).testBit i||(x.jN p.1&&p.1.jN x))=true:=by
 induction l with
 | nil=>intro v _ _ p hm; cases hm
 | cons y l ih=>
  intro v h hp p hm
  simp only [zf] at h
  cases hc:(aaZ y.2 i||(ms.getD y.2 0).testBit i) with
  | true=>
   rw [hc,cond_true] at h
   rcases ZZ.1 hm with rfl | hm
   ·rw [hc,Bool.true_or]
   ·exact ih h hp p hm
  | false=>
   rw [hc,cond_false] at h
   simp only [ZC,ZD] at h
   obtain⟨a,ha,b,hb,c,hc,rfl⟩:=h
   obtain⟨p1,p2⟩:=pX hp
   obtain⟨p2,p3⟩:=pX p2
   rcases ZZ.1 hm with rfl | hm
   ·rw [vH ha p1,vH hb p2,Bool.and_self,Bool.or_true]
   ·exact ih hc p3 p hm
def Ck (ms:List Nat)(all:List (mO × Nat)):List (mO × Nat)→Option (List (AHeap × AHeap × Nat))
 | []=>some []
 | x::l=>(zf ms x.1 x.2 all).bind fun a=>(Ck ms all l).map fun b=>a++b
theorem Gk {ms:List Nat}{all:List (mO × Nat)}(l:List (mO × Nat)):∀{v:List (AHeap × AHeap × Nat)},Ck ms all l=some v→rW v→∀x∈l,∀p∈all,(aaZ p.2 x.2||(ms.getD p.2 0).testBit x.2||(x.1.jN p.1&&p.1.jN x.1))=true:=by
 induction l with
 | nil=>intro v _ _ x hm; cases hm
 | cons y l ih=>
  intro v h hp x hm
  simp only [Ck,ZC,ZD] at h
  obtain⟨a,ha,b,hb,rfl⟩:=h
  obtain⟨p1,p2⟩:=pX hp
  rcases ZZ.1 hm with rfl | hm
  ·exact Gj all ha p1
  ·exact ih hb p2 x hm
def Lb (ops:List Oper)(arr:Array Oper)(s:RS)(es:List mO):Option (List (AHeap × AHeap × Nat)):=
 let ms:=jO [] ops
 let is:=es.zipIdx
 let wB:=is.filter fun (x,_)=>!x.f.quiet
 if nX arr ms&&wB.all (fun (x,i)=>sm ms (ops.filterMap (·.dst)) s is x i) then Ck ms wB wB else none
theorem IV {P:Program}{cf:CallF}{aI:List Nat}{ops:Array Oper}{s r:RS}{es:List mO}{l:List (AHeap × AHeap × Nat)}(h:Lb ops.toList ops s es=some l)(hp:rW l)(hr:py P cf aI ops.toList s ops.toList=some (es,r)):ki P cf aI ops s=some r:=by
 unfold Lb at h
 simp only at h
 split at h
 rotate_left
 ·cases h
 rename_i hc
 simp only [ZF] at hc
 obtain⟨h1,h2⟩:=hc
 unfold ki
 simp only [h1,if_true,hr,ZB]
 rw [if_pos]
 rw [ZX] at h2 ⊢
 intro x hx
 have a:=h2 x hx
 simp only [ZF] at a ⊢
 refine⟨a,?_⟩
 rw [ZX]
 intro y hy
 exact Gk _ h hp x hx y hy
def Co (P:Program)(cf:CallF)(A:b9)(c:Code)(fs:List (AV × AHeap))(zs:IC)(st:St):Option ((Prop × Prop) × St):=
 match c with
 | .region id ops draw=>(rU (st.open A) (gG id A.If) fs).bind fun (s0,p0)=>(rT P cf A.aI ops.toList s0 0 ops.toList zs).bind fun (es,r,p)=>
   bif draw then (Lb ops.toList ops s0 es).bind fun l=>(ly r (gG id A.Ax)).map fun r2=>((p0∧p,rW l),r2.nk A id) else none
 | _=>none
theorem Gl {P:Program}{cf:CallF}{A:b9}{m:Nat}{c:Code}{fs:List (AV × AHeap)}{zs:IC}{st jV:St}{p q:Prop}(h:Co P cf A c fs zs st=some ((p,q),jV))(hp:p)(hq:q):bV P cf A m c st=some (.norm,jV):=by
 unfold Co at h
 split at h
 rotate_left
 ·cases h
 rename_i id ops draw
 simp only [ZC] at h
 obtain⟨⟨s0,p0⟩,h0,⟨es,r,p1⟩,h1,h⟩:=h
 cases draw with
 | false=>cases h
 | true=>
  simp only [cond_true,ZC,ZD,ZL] at h
  obtain⟨l,hl,r2,h2,⟨rfl,rfl⟩,rfl⟩:=h
  obtain⟨g1,g2⟩:=w5 h1 hp.2
  have g0:=ss h0 hp.1
  simp only [bV,g0,ZB,if_true,IV hl hq g1,h2,ZJ]
inductive Vg
 | mk {h h':AHeap} {i:Nat} (e:h.ver i=h'.ver i)
def Vg.t:Vg→AHeap × AHeap × Nat
 | @mk h h' i e=>(h,h',i)
theorem Gm:∀vs:List Vg,rW (vs.map Vg.t)
 | []=>trivial
 | @Vg.mk h h' i e::vs=>⟨e,Gm vs⟩
def T0 (P:Program)(cf:CallF)(A:b9)(c:Code)(fs gs:List yd)(s:St):St:=((Co P cf A c (Es fs) (y8 gs) s).map (·.2)).getD s
section
variable {P:Program}{cf:CallF}{A:b9}{m:Nat}{c:Code}{s:St}{Q R:Ex→St→Prop}
theorem Mz (fs gs:List yd)(vs:List Vg)(hQ:Q .norm (T0 P cf A c fs gs s))(h:(Co P cf A c (Es fs) (y8 gs) s).map (·.1)=some (ps fs∧ps gs,rW (vs.map Vg.t)):=by kernel_rfl):dK P cf A m c s Q:=by
 unfold T0 at hQ
 obtain⟨⟨p,s'⟩,h1,rfl⟩:=ZD.1 h
 rw [h1] at hQ
 exact⟨.norm,s',Gl h1 ⟨y9 fs,y9 gs⟩ (Gm vs),hQ⟩
end
section
variable {P:Program}{h h':AHeap}{K:Mem}{i j n z q q2:Nat}{c:Ct}{cs:List AV}{x y:AV}{t t2:TypeId}
theorem xk {o:AObj}(hj:j≠i):h.ver j=(h.put i o).ver j:=by
 simp only [AHeap.put,beq_nat]
 simp [hj]
theorem zg (hj:j≠i):h.ver j=(h.kill i).ver j:=by
 simp only [AHeap.kill,beq_nat]
 simp [hj]
theorem IW {s:AV}(e:ei P h t t2 s x=some (y,h'))(hs:∀i off n z,s = .rs i off n z→j≠i)(hj:j≠h.next):h.ver j=h'.ver j:=by
 have ha:∀o:AObj,h.ver j=(h.alloc o).ver j:=fun o=>xk hj
 unfold ei at e
 simp only [ZC] at e
 obtain⟨u,hu,e⟩:=e
 split at e
 rotate_left
 ·cases e
 simp only [ZC] at e
 obtain⟨inf,hi,⟨new,m⟩,hc,e⟩:=e
 split at e
 ·cases e
 split at e
 ·split at e
  ·cases e
  ·split at e
   ·cases e; rfl
   ·cases e; exact ha _
 ·split at e
  ·cases e
  ·split at e
   ·split at e<;>(cases e; rfl)
   ·cases e; exact ha _
 ·rename_i id off len iR
  have hne:=hs _ _ _ _ rfl
  split at e
  ·split at e
   ·cases e
   ·split at e
    ·cases e; rfl
    ·cases e; exact ha _
  ·simp only [ZC] at e
   obtain⟨ob,ho,e⟩:=e
   split at e
   rotate_left
   ·cases e
   split at e
   ·cases e
   ·split at e
    ·cases e; rfl
    ·cases e
     exact (zg hne).trans (xk hj)
 ·cases e
theorem A4 (o:Has h K)(hq:K[q]? = some (i,c))(IX:K[q2]? = some (j,.ob cs))(hne:q≠q2)(e:ei P h t t2 (.rs i 0 n z) x=some (y,h')):h.ver j=h'.ver j:=by
 obtain⟨⟨h1,_⟩,h2⟩:=o.at_ _ _ _ IX
 refine IW e (fun i' _ _ _ he=>?_) (by omega)
 cases he
 intro hji
 subst hji
 exact hne (o.nd _ _ _ _ _ hq IX h1)
end
theorem A5 {cf:CallF}{f:FuncId}{z:Nat}{h h':AHeap}{K:Mem}{q2 j:Nat}{cs:List AV}{x y:AV}(S:zc cf f z)(o:Has h K)(IX:K[q2]? = some (j,.ob cs))(e:cf f [x] h=some (y,h')):h.ver j=h'.ver j:=by
 obtain⟨⟨h1,_⟩,h2⟩:=o.at_ _ _ _ IX
 have ha:∀o:AObj,h.ver j=(h.alloc o).ver j:=fun o=>xk (Nat.ne_of_lt h2)
 rw [S] at e
 unfold zb at e
 split at e
 ·cases e; rfl
 ·split at e
  ·cases e; rfl
  ·split at e
   ·cases e; exact ha _
   ·cases e
 ·split at e
  ·cases e; rfl
  ·rw [ZC] at e
   obtain⟨ob,ho,e⟩:=e
   split at e
   ·split at e
    ·cases e; exact ha _
    ·cases e
   ·cases e
 ·cases e
theorem NL {x:Option (AV × AHeap)}{a:AV}{h:AHeap}{z:AV × AHeap}(h1:x=some (a,h))(h2:jC 0 h a=some z):x.bind (fun x=>jC 0 x.2 x.1)=some z:=by rw [h1]; exact h2
theorem Lc {P:Program}{h:AHeap}{K:Mem}{q i t e n:Nat}{inf:TypeInfo}{l:List Int}{j:Int}(ht:P.underlying t=some (.slice e))(hi:P.info? e=some inf)(hs:inf.size=1)(hz:iS P e=some (.int .i64 0))(o:Has h K)(hq:K[q]? = some (i,.sl n 1 (af.l l)))(h0:0≤j)(h1:j≤(l.length:Int)) :
  ∃h',l8 P h t (.rs i (0+j.toNat*1) (n - j.toNat) 1)=some h'∧Has h' (K.set q (i,.sl n 1 (af.l (l.take j.toNat++ZY (l.length - j.toNat) 0)))):=by
 have hn:n=l.length:=dh (E:=af) o hq
 subst hn
 have hll:(l.take j.toNat++ZY (l.length - j.toNat) 0).length=l.length:=by simp; omega
 unfold l8
 rw [ht,ZB]
 simp only
 by_cases hl:l.length - j.toNat=0
 ·refine⟨h,by rw [if_pos hl],?_⟩
  have:l.take j.toNat++ZY (l.length - j.toNat) 0=l:=by rw [hl,List.replicate_zero,aa2,aae (by omega)]
  rw [this]
  have hK:K.set q (i,.sl l.length 1 (af.l l))=K:=by
   obtain⟨g1,g2⟩:=ZH.1 hq
   rw [←g2,List.set_getElem_self]
  rw [hK]; exact o
 ·rw [if_neg hl]
  obtain⟨⟨⟨hlen,rq⟩,lU⟩,hlt⟩:=o.at_ _ _ _ hq
  rcases lU with⟨_,h5⟩| ⟨h5,rest,h6⟩
  ·omega
  rw [if_neg h5]
  simp only [hi,hz,h6,ZB,hs]
  have Wp:iT [AV.int .i64 0] (l.length - j.toNat)=af.l (ZY (l.length - j.toNat) 0):=by
   generalize l.length - j.toNat=k
   induction k with
   | zero=>rfl
   | succ k ih=>show [AV.int .i64 0]++iT [AV.int .i64 0] k=_; rw [ih]; rfl
  rw [if_pos ⟨trivial,rfl,by decide,rfl,by rw [ZM,hlen]; omega⟩]
  refine⟨_,rfl,?_⟩
  refine jA o hq ?_
  have Ki:(af.l (l.take j.toNat++ZY (l.length - j.toNat) 0)).length=l.length*1:=(bQ.bW (E:=af)).trans (by rw [hll]; rfl)
  refine⟨⟨Ki,by rw [Ki]; rw [hlen] at rq; exact rq⟩,.inr ⟨h5,rest,?_⟩⟩
  rw [dB,if_pos rfl]
  congr 2
  show dQ (af.l l++rest) (0+j.toNat*1) (iT [AV.int .i64 0] (l.length - j.toNat))=_
  rw [Wp,bQ.iG]
  have Ld:=iH (af.l (l.drop j.toNat)) (af.l (ZY (l.length - j.toNat) 0)) (af.l (l.take j.toNat)) rest (by
   rw [bQ.bW,bQ.bW]; simp)
  rw [←bQ.iG,aaP] at Ld
  have hp:(af.l (l.take j.toNat)).length=0+j.toNat*1:=by
   rw [bQ.bW]; show _*1=_; simp; omega
  rw [hp] at Ld
  exact Ld
end Go.R
namespace Go.R
open Go
def uV (l:List (Int × Bool))(k:Int):Bool × Bool:=
 match l with
 | []=>(false,false)
 | (a,b)::l=>if k=a then (b,true) else uV l k
def Ak (l:List (Int × Bool))(k:Int)(v:Bool):List (Int × Bool):=
 match l with
 | []=>[(k,v)]
 | (a,b)::l=>if k=a then (k,v)::l else (a,b)::Ak l k v
def A6 (l:List (Int × Bool)):List (AV × AV):=l.map fun p=>(.int .i64 p.1,.bool p.2)
theorem Cp (k:Int):∀l:List (Int × Bool),iB (.int .i64 k) (A6 l)=some (if (uV l k).2=true then some (.bool (uV l k).1) else none)
 | []=>rfl
 | (a,b)::l=>by
  simp only [A6,Z0,iB,sameShape,fQ,iN,uV]
  have ih:=Cp k l
  simp only [A6] at ih
  by_cases h:k=a
  ·subst h; simp
  ·simp [h,ih]
theorem Gn (k:Int)(v:Bool):∀l:List (Int × Bool),sK (.int .i64 k) (.bool v) (A6 l)=some (A6 (Ak l k v))
 | []=>rfl
 | (a,b)::l=>by
  have ih:=Gn k v l
  simp only [A6,Z0,sK,sameShape,fQ,iN,Ak] at ih ⊢
  by_cases h:k=a
  ·subst h; simp
  ·simp [h,ih]
def zh (P:Program)(t:TypeId):Bool:=
 match P.underlying t with
 | some (.map kt et)=>(P.underlying kt matches some (.int .i64))&&(match iS P et with | some (.bool b)=>!b | _=>false)
 | _=>false
section
variable {P:Program}{h:AHeap}{K:Mem}{i q:Nat}{t:TypeId}{n:Nat}
theorem tK (T:zh P t=true):∃kt et,P.underlying t=some (.map kt et)∧(∀k,gp P kt (.int .i64 k)=true)∧iS P et=some (.bool false):=by
 unfold zh at T
 split at T
 ·rename_i kt et ht
  simp only [ZF] at T
  obtain⟨h1,h2⟩:=T
  refine⟨kt,et,ht,fun k=>?_,?_⟩
  ·revert h1
   split
   ·rename_i hk; intro _; simp [gp,hk]
   ·intro h; cases h
  ·split at h2
   ·rename_i z hz; simp only [aaF] at h2; subst h2; exact hz
   ·cases h2
 ·cases T
theorem Qx {l:List (Int × Bool)}{k:Int}(T:zh P t=true)(o:Has h K)(hq:K[q]? = some (i,.mp (A6 l))):fh P h t (.mp i) (.int .i64 k) true=some (.tup [.bool (uV l k).1,.bool (uV l k).2])∧fh P h t (.mp i) (.int .i64 k) false=some (.bool (uV l k).1):=by
 obtain⟨kt,et,h1,h2,h3⟩:=tK T
 obtain⟨⟨_,h4⟩,_⟩:=o.at_ _ _ _ hq
 have hz:(uV l k).2=false→(uV l k).1=false:=by
  clear hq h4
  induction l with
  | nil=>intro _; rfl
  | cons p l ih=>
   obtain⟨a,b⟩:=p
   simp only [uV]
   split
   ·intro h; cases h
   ·exact ih
 simp only [fh,h1,ZB,h2,Bool.true_eq_false,if_false,h4,Cp]
 cases hc:(uV l k).2 with
 | true=>simp
 | false=>simp [h3,hz hc]
theorem NM {l:List (Int × Bool)}{k:Int}{v:Bool}(T:zh P t=true)(o:Has h K)(hq:K[q]? = some (i,.mp (A6 l))):∃h',ij P h t (.mp i) (.int .i64 k) (.bool v)=some h'∧Has h' (K.set q (i,.mp (A6 (Ak l k v)))):=by
 obtain⟨kt,et,h1,h2,h3⟩:=tK T
 obtain⟨⟨h5,h4⟩,_⟩:=o.at_ _ _ _ hq
 refine⟨h.put i (.map (A6 (Ak l k v))),?_,jA o hq ⟨h5,by rw [dB,if_pos rfl]⟩⟩
 simp only [ij,h1,ZB,h2]
 rw [if_neg (by simp [AV.kM])]
 simp only [h4,ZB,Gn,ZJ]
end
section
variable {P:Program}{h:AHeap}{K:Mem}{i q n b:Nat}{t t2:TypeId}{α:Type}{E:bQ α}{l r s:List α}{x:AV}
def NN {α:Type}(l s:List α):Option (List α):=if s.length≤l.length then some (s++l.drop s.length) else none
theorem IY (T:yS P t E.n b=true)(o:Has h K)(hq:K[q]? = some (i,.sl n E.n (E.l l)))(hc:fc h E.n x=some (E.l s,s.length))(gZ:ja P t2 x=true)(pq:(E.l s).all AV.cg=true)(hr:NN l s=some r) :
  ∃h',re P h t t2 (.rs i 0 n E.n) x=some (.int .i64 s.length,h')∧Has h' (K.set q (i,.sl n E.n (E.l r))):=by
 have hn:=dh o hq
 subst hn
 unfold NN at hr
 split at hr
 rotate_left
 ·cases hr
 rename_i hle
 cases hr
 obtain⟨e,inf,g1,g2,g3,g4,g5,g6⟩:=ky T
 obtain⟨⟨⟨hlen,rq⟩,lU⟩,hlt⟩:=o.at_ _ _ _ hq
 have hll:(s++l.drop s.length).length=l.length:=by simp; omega
 simp only [re,g1,ZB,g2,g3,hc,gZ,Bool.true_eq_false,if_false]
 rcases lU with⟨h0,h1⟩| ⟨h0,rest,h1⟩
 ·have hl0:l=[]:=by simpa using h1
  subst hl0
  have hs0:s=[]:=by cases s with | nil=>rfl | cons _ _=>simp at hle
  subst hs0
  refine⟨h,by simp [h0],?_⟩
  have hK:K.set q (i,.sl ([]:List α).length E.n (E.l ([]++([]:List α).drop ([]:List α).length)))=K:=by
   obtain⟨g1,g2⟩:=ZH.1 hq
   show K.set q (i,.sl ([]:List α).length E.n (E.l []))=K
   rw [←g2,List.set_getElem_self]
  rw [hK]; exact o
 ·rw [if_neg h0,h1]
  simp only [ZB]
  rw [if_pos ⟨trivial,hle,by
   rw [ZM,hlen,Z2]
   exact aap (aay _ hle) (Nat.le_add_right _ _)⟩]
  refine⟨_,rfl,jA o hq ⟨⟨by rw [bQ.bW,hll],by rw [bQ.bW,hll,←hlen]; exact rq⟩,.inr ⟨h0,rest,?_⟩⟩⟩
  rw [dB,if_pos rfl]
  congr 2
  have Ld:=iH (E.l (l.take s.length)) (E.l s) [] (E.l (l.drop s.length)++rest) (by rw [bQ.bW,bQ.bW,aaw,aa0 hle])
  simp only [aal,Z8] at Ld
  rw [←ZV,←bQ.iG,aaP] at Ld
  rw [Ld,bQ.iG,ZV]
theorem Le:fc h E.n (E.fz l)=some (E.l l,l.length):=by
 simp only [fc,bQ.fz]
 rw [if_pos bQ.bW]
end
theorem NO:∀l:List Int,(af.l l).all AV.cg=true:=fun l=>by
 induction l with
 | nil=>rfl
 | cons a l ih=>rw [bQ.fB,List.all_append,ih]; rfl
section
variable {P:Program}{h:AHeap}{K:Mem}{i q n b:Nat}{t:TypeId}{α:Type}{E:bQ α}{l:List α}{j:Int}{k:IntKind}
def MA (l:List Int)(j:Int):Option (List Int):=if 0≤j∧j≤l.length then some (l.take j.toNat++ZY (l.length - j.toNat) 0) else none
theorem tL {l r:List Int}{j:Int}(h:MA l j=some r):0≤j∧j≤l.length∧r=l.take j.toNat++ZY (l.length - j.toNat) 0:=by
 unfold MA at h
 split at h
 ·rename_i g; cases h; exact⟨g.1,g.2,rfl⟩
 ·cases h
theorem Lf (T:yS P t E.n b=true)(o:Has h K)(hq:K[q]? = some (i,.sl n E.n (E.l l)))(h0:0≤j)(h1:j≤(l.length:Int)):lZ P t (.rs i 0 n E.n) (some (.int k j)) none none=some (.rs i (0+j.toNat*E.n) (n - j.toNat) E.n):=by
 have hn:=dh o hq
 subst hn
 obtain⟨e,inf,g1,g2,g3,g4,g5,g6⟩:=ky T
 simp only [lZ,g1,ZB,g6,if_true,kN]
 rw [if_pos ⟨h0,by omega⟩]
 simp only [ZB,ZJ,ZQ]
def Qy (P:Program)(t:TypeId):Bool:=
 match P.underlying t with
 | some (.slice e)=>(match P.info? e with | some inf=>inf.size==1 | none=>false)&&(match iS P e with | some (.int .i64 z)=>z==0 | _=>false)
 | _=>false
theorem Lg {l r:List Int}(T:Qy P t=true)(o:Has h K)(hq:K[q]? = some (i,.sl n 1 (af.l l)))(hr:MA l j=some r) :
  ∃h',(l8 P h t (.rs i (0+j.toNat*1) (n - j.toNat) 1)).map (fun h=>(AV.tup [],h))=some (AV.tup [],h')∧Has h' (K.set q (i,.sl n 1 (af.l r))):=by
 obtain⟨h0,h1,rfl⟩:=tL hr
 unfold Qy at T
 split at T
 rotate_left
 ·cases T
 rename_i e ht
 simp only [ZF] at T
 obtain⟨T1,T2⟩:=T
 split at T1
 rotate_left
 ·cases T1
 rename_i inf hi
 split at T2
 rotate_left
 ·cases T2
 rename_i z hz
 simp only [beq_iff_eq] at T1 T2
 subst T2
 obtain⟨h',e1,o1⟩:=Lc ht hi T1 hz o hq h0 h1
 exact⟨h',by rw [e1]; rfl,o1⟩
end
section
variable {h:AHeap}{f k k2:Nat}{cs ys:List AV}
theorem rI (g:aU k h cs ys):kJ (k+1) h (.fn f cs) (.fn f ys):=fun n hn=>by
 obtain⟨m,rfl⟩:∃m,n=m+1:=⟨n - 1,by simp only [hH] at hn; omega⟩
 simp only [cp]
 rw [g m (by omega)]; rfl
theorem aU.mono {k k':Nat}{x y:List AV}(hk:k≤k')(f:aU k h x y):aU k' h x y:=fun n hn=>f n (by omega)
theorem jf {xs:List AV}(f:aU k h xs ys)(hk:k≤cM:=by decide):aU cM h xs ys:=aU.mono hk f
theorem Gp:∀{us bs cs ys:List AV} {k1 k2:Nat},aU k1 h us bs→aU k2 h cs ys→aU (k1+k2+us.length+1) h (us++cs) (bs++ys)
 | [],bs,cs,ys,k1,k2,f,g=>fun n hn=>by
  have:=f (hH+k1) (ZI _)
  have hb:bs=[]:=by
   cases hm:hH+k1 with
   | zero=>simp [hH] at hm
   | succ m=>rw [hm] at this; simp only [bC,ZE] at this; exact this.symm
  subst hb
  exact g n (by omega)
 | a::us,bs,cs,ys,k1,k2,f,g=>fun n hn=>by
  have h1:=f (hH+k1) (ZI _)
  obtain⟨m,rfl⟩:∃m,n=m+1:=⟨n - 1,by simp only [hH] at hn; omega⟩
  have hb:∃b NP,bs=b::NP:=by
   cases hm:hH+k1 with
   | zero=>simp [hH] at hm
   | succ m=>
    rw [hm] at h1
    simp only [bC,ZC,ZD] at h1
    obtain⟨y,_,zs,_,e⟩:=h1
    exact⟨y,zs,e.symm⟩
  obtain⟨b,NP,rfl⟩:=hb
  have key:∀n',hH+k1≤n'+1→cp h n' a=some b∧bC h n' us=some NP:=fun n' Mq=>by
   have:=f (n'+1) Mq
   simp only [bC,ZC,ZD] at this
   obtain⟨y,hy,zs,hz,e⟩:=this
   cases e
   exact⟨hy,hz⟩
  have f2:aU k1 h us NP:=fun n' Mq=>(key n' (by omega)).2
  have:=Gp f2 g m (by simp only [ZU] at hn; omega)
  show bC h (m+1) (a::(us++cs))=some (b::(NP++ys))
  simp only [bC]
  rw [(key m (by omega)).1,this]
  rfl
theorem IZ {us bs:List AV}{k:Nat}(f:aU k h us bs)(g:aU cM h cs ys)(hk:k≤500:=by decide)(hl:us.length≤400:=by simp):aU bR h (us++cs) (bs++ys):=(Gp f g).mono (by
 have:k+cM+us.length+1≤cM+1001:=by omega
 exact aap this (by decide))
end
theorem Gq {α:Type}{E:bQ α}{l:List α}{h h':AHeap}{K:Mem}{q q2 i j n:Nat}{cs:List AV}{y:AV}(o:Has h K)(hq:K[q]? = some (i,.sl n E.n (E.l l)))(IX:K[q2]? = some (j,.ob cs))(e:jC 0 h (.rs i 0 n E.n)=some (y,h'))(hp:E.flat=true:=by rfl):h.ver j=h'.ver j:=by
 have hn:=dh o hq
 subst hn
 obtain⟨⟨⟨hlen,rq⟩,lU⟩,hlt⟩:=o.at_ _ _ _ hq
 obtain⟨⟨hj,_⟩,_⟩:=o.at_ _ _ _ IX
 have hne:j≠i:=by
  intro he
  subst he
  have:=o.nd _ _ _ _ _ hq IX hj
  subst this
  rw [hq] at IX
  cases IX
 simp only [jC] at e
 rcases lU with⟨h0,h1⟩| ⟨h0,rest,h1⟩
 ·rw [if_pos h0,if_pos h1] at e
  cases e; rfl
 ·rw [if_neg h0,h1] at e
  simp only [ZB] at e
  have e1:((E.l l++rest).drop 0).take (l.length*E.n)=E.l l:=by
   rw [aam,Z9 (by rw [hlen]; exact ZI _),aae (by rw [hlen]; exact ZI _)]
  rw [e1,if_pos (by rw [ZM,hlen]; omega),qC (bQ.oX hp).1] at e
  cases e
  exact zg hne
end Go.R
namespace Go.R
open Go
def oc (k i:Nat):Nat:=if i=0 then 0 else i+k
theorem tM {k i off n z:Nat}:dF k (.rs i off n z)=some (.rs (oc k i) off n z):=by
 unfold dF oc
 split<;>rfl
theorem mn {k:Nat}:cU k []=some []:=rfl
theorem eA {k:Nat}{x y:AV}{xs ys:List AV}(a:dF k x=some y)(b:cU k xs=some ys):cU k (x::xs)=some (y::ys):=by
 simp only [cU,a,b,ZB,ZJ]
theorem xl {k:Nat}{xs ys:List AV}(b:cU k xs=some ys):dF k (.agg xs)=some (.agg ys):=by
 simp only [dF,b,ZJ]
theorem Gr {k:Nat}{xs ys:List AV}(b:cU k xs=some ys):dF k (.tup xs)=some (.tup ys):=by
 simp only [dF,b,ZJ]
theorem nG {k:Nat}:∀{a a' b b':List AV},cU k a=some a'→cU k b=some b'→cU k (a++b)=some (a'++b')
 | [],a',b,b',h1,h2=>by simp only [cU,ZE] at h1; subst h1; exact h2
 | x::a,a',b,b',h1,h2=>by
  simp only [cU,ZC,ZD] at h1
  obtain⟨y,h3,ys,h4,rfl⟩:=h1
  exact eA h3 (nG h4 h2)
theorem pc {k:Nat}:∀{a a':List AV} (r:List AV),cU k a=some a'→gk k (a++r)=a'++gk k r
 | [],a',r,h1=>by simp only [cU,ZE] at h1; subst h1; rfl
 | x::a,a',r,h1=>by
  simp only [cU,ZC,ZD] at h1
  obtain⟨y,h3,ys,h4,rfl⟩:=h1
  have e:gk k (x::(a++r))=y::gk k (a++r):=by rw [gk,h3]
  show gk k (x::(a++r))=(y::ys)++gk k r
  rw [e,pc r h4]; rfl
theorem rJ {k:Nat}:∀{a a':List AV},cU k a=some a'→a'.length=a.length
 | [],a',h1=>by simp only [cU,ZE] at h1; subst h1; rfl
 | x::a,a',h1=>by
  simp only [cU,ZC,ZD] at h1
  obtain⟨y,h3,ys,h4,rfl⟩:=h1
  rw [ZU,ZU,rJ h4]
def Qz (k:Nat):Nat × Ct→Nat × Ct→Prop
 | (i,.sl n z cs),b=>∃fU,cU k cs=some fU∧b=(oc k i,.sl n z fU)
 | (i,.ob cs),b=>∃fU,cU k cs=some fU∧b=(oc k i,.ob fU)
 | _,_=>False
inductive E8 (k:Nat)(L:Mem):Mem→Mem→Prop
 | nil:E8 k L [] L
 | cons {a b:Nat × Ct} {K K':Mem} (e:Qz k a b) (g:E8 k L K K'):E8 k L (a::K) (b::K')
section
variable {k i n z:Nat}{L K K':Mem}{α:Type}{E:bQ α}{l:List α}
theorem NQ (hE:∀a,cU k (E.f a)=some (E.f a)):∀l:List α,cU k (E.l l)=some (E.l l)
 | []=>rfl
 | a::l=>by rw [bQ.fB]; exact nG (hE a) (NQ hE l)
theorem Cq (hE:∀a,cU k (E.f a)=some (E.f a))(g:E8 k L K K'):E8 k L ((i,.sl n z (E.l l))::K) ((oc k i,.sl n z (E.l l))::K'):=.cons ⟨_,NQ hE l,rfl⟩ g
theorem Gs:∀(ns:List ak) (ids:List Nat),cU k (b4.l (aK ns ids))=some (b4.l (aK ns (ids.map (oc k))))
 | [],_=>rfl
 | a::ns,ids=>by
  have h1:(ids.map (oc k)).headD 0=oc k (ids.headD 0):=by cases ids<;>rfl
  have h2:(ids.map (oc k)).tail=ids.tail.map (oc k):=by cases ids<;>rfl
  show cU k (b4.f (a,ids.headD 0)++b4.l (aK ns ids.tail))=some (b4.f (a,(ids.map (oc k)).headD 0)++b4.l (aK ns (ids.map (oc k)).tail))
  rw [h1,h2]
  exact nG (eA rfl (eA rfl (eA rfl (eA tM mn)))) (Gs ns ids.tail)
theorem Gt {ns:List ak}{ids:List Nat}(g:E8 k L K K'):E8 k L ((i,.sl n z (b4.l (aK ns ids)))::K) ((oc k i,.sl n z (b4.l (aK ns (ids.map (oc k)))))::K'):=.cons ⟨_,Gs ns ids,rfl⟩ g
theorem xm:∀{ns:List ak} {ids:List Nat},E8 k L K K'→E8 k L (cz ns ids++K) (cz ns (ids.map (oc k))++K')
 | [],_,g=>g
 | a::ns,ids,g=>by
  have h1:(ids.map (oc k)).headD 0=oc k (ids.headD 0):=by cases ids<;>rfl
  have h2:(ids.map (oc k)).tail=ids.tail.map (oc k):=by cases ids<;>rfl
  show E8 k L (AZ (a,ids.headD 0)::(cz ns ids.tail++K)) (AZ (a,(ids.map (oc k)).headD 0)::(cz ns (ids.map (oc k)).tail++K'))
  rw [h1,h2]
  exact Cq (E:=af) (fun _=>rfl) (xm g)
end
theorem Lh {k:Nat}{L K K':Mem}(g:E8 k L K K'):∃K2,K'=K2++L∧K2.length=K.length∧∀(j:Nat) b,K2[j]? = some b→∃a,K[j]? = some a∧Qz k a b:=by
 induction g with
 | nil=>exact⟨[],rfl,rfl,fun j b h=>by simp at h⟩
 | cons e g ih=>
  rename_i a b K K'
  obtain⟨K2,rfl,h2,h3⟩:=ih
  refine⟨b::K2,rfl,by rw [ZU,ZU,h2],fun j c hj=>?_⟩
  cases j with
  | zero=>simp only [aag,ZE] at hj; subst hj; exact⟨a,rfl,e⟩
  | succ j=>simp only [aaK] at hj ⊢; exact h3 j c hj
theorem xn {k i i':Nat}{c c':Ct}(e:Qz k (i,c) (i',c')):i'=oc k i:=by
 cases c with
 | sl n z cs=>obtain⟨_,_,h⟩:=e; cases h; rfl
 | ob cs=>obtain⟨_,_,h⟩:=e; cases h; rfl
 | mp es=>exact e.elim
 | row t cs=>exact e.elim
theorem Has.fe {h h1:AHeap}{K1 K2 L:Mem}(o:Has h L)(o1:Has h1 K1)(g:E8 h.next L K1 K2):Has (h.fe h1) K2:=by
 obtain⟨K3,rfl,hlen,AF⟩:=Lh g
 have hnx:(h.fe h1).next=h.next+h1.next:=rfl
 have HZ:∀{i:Nat},i≠0→oc h.next i=i+h.next:=fun hi=>if_neg hi
 have hget:∀{i:Nat} {cs:List AV},i≠0→h1.get i=some (.cells cs)→(h.fe h1).get (oc h.next i)=some (.cells (gk h.next cs)):=fun {i cs} hi hg=>by
  rw [HZ hi,(kx (Nat.le_add_left _ _)).1,Nat.add_sub_cancel,hg]; rfl
 have hidlt:∀{i:Nat},i<h1.next→oc h.next i<(h.fe h1).next:=fun {i} hi=>by
  rw [hnx]
  by_cases h0:i=0
  ·subst h0; show 0<_; have:=o.pos; omega
  ·rw [HZ h0]; omega
 refine⟨fun j i c hj=>?_,fun j j' i c c' hj Ag hi=>?_,by rw [hnx]; have:=o.pos; omega⟩
 ·by_cases hl:j<K3.length
  ·rw [ZS hl] at hj
   obtain⟨⟨i1,c1⟩,ha,he⟩:=AF j _ hj
   obtain⟨w1,w2⟩:=o1.at_ _ _ _ ha
   cases c1 with
   | sl n z cs=>
    obtain⟨fU,h3,h4⟩:=he
    cases h4
    refine⟨⟨by rw [rJ h3]; exact w1.1,?_⟩,hidlt w2⟩
    rcases w1.2 with⟨h5,h6⟩| ⟨h5,rest,h6⟩
    ·left; subst h5; exact⟨rfl,h6⟩
    ·right
     refine⟨by rw [HZ h5]; omega,gk h.next rest,?_⟩
     rw [hget h5 h6,pc rest h3]
   | ob cs=>
    obtain⟨fU,h3,h4⟩:=he
    cases h4
    refine⟨⟨by rw [HZ w1.1]; have:=w1.1; omega,?_⟩,hidlt w2⟩
    rw [hget w1.1 w1.2]
    have:=pc [] h3
    rw [aa2] at this
    rw [this]; simp [gk]
   | mp es=>exact he.elim
   | row t cs=>exact he.elim
  ·rw [ZT (by omega)] at hj
   obtain⟨w1,w2⟩:=o.at_ _ _ _ hj
   exact⟨oY (fun _=>(jG w2).1) w1,by rw [hnx]; omega⟩
 ·by_cases hl:j<K3.length<;>by_cases pn:j'<K3.length
  ·rw [ZS hl] at hj
   rw [ZS pn] at Ag
   obtain⟨⟨i1,c1⟩,ha,he⟩:=AF j _ hj
   obtain⟨⟨i2,c2⟩,Wq,Wr⟩:=AF j' _ Ag
   have e1:=xn he
   have e2:=xn Wr
   have n1:i1≠0:=fun h0=>hi (by rw [e1,h0]; rfl)
   have n2:i2≠0:=fun h0=>hi (by rw [e2,h0]; rfl)
   rw [HZ n1] at e1
   rw [HZ n2] at e2
   have:i2=i1:=by omega
   subst this
   exact o1.nd _ _ _ _ _ ha Wq n1
  ·rw [ZS hl] at hj
   rw [ZT (by omega)] at Ag
   obtain⟨⟨i1,c1⟩,ha,he⟩:=AF j _ hj
   have e1:=xn he
   have n1:i1≠0:=fun h0=>hi (by rw [e1,h0]; rfl)
   rw [HZ n1] at e1
   have:=(o.at_ _ _ _ Ag).2
   omega
  ·rw [ZT (by omega)] at hj
   rw [ZS pn] at Ag
   obtain⟨⟨i1,c1⟩,ha,he⟩:=AF j' _ Ag
   have e1:=xn he
   have n1:i1≠0:=fun h0=>hi (by rw [e1,h0]; rfl)
   rw [HZ n1] at e1
   have:=(o.at_ _ _ _ hj).2
   omega
  ·rw [ZT (by omega)] at hj Ag
   have:=o.nd _ _ _ _ _ hj Ag hi
   omega
theorem ke (h h1:AHeap):∀j,j<h.next→h.ver j=(h.fe h1).ver j:=fun j hj=>(jG hj).2.symm
theorem lK {P:Program}{T:oz}{m f deep:Nat}{h h':AHeap}{xs ys:List AV}{r y:AV}(h1:T.intr f=none)(h2:T.pure f=some deep)(h3:T.fe f=true)(hd:hH+bR≤deep)(hx:aU bR h xs ys)(hb:bf P T.aY (jj P T m) m f ys bD=some (r,h'))(hg:dF h.next r=some y):jj P T m f xs h=some (y,h.fe h'):=by
 refine lI ?_
 simp only [rH,h1,h2,h3,if_true,hx deep hd,ZB,hb,hg,ZJ]
theorem I0 {P:Program}{t:TypeId}{a b c d:Int}(h:∀a b c d:Int,ni P .eql t (.agg [.int .i64 a,.int .i64 b]) (.agg [.int .i64 c,.int .i64 d])=some (.bool (fQ (.agg [.int .i64 a,.int .i64 b]) (.agg [.int .i64 c,.int .i64 d])==true))) :
  ni P .eql t (.agg [.int .i64 a,.int .i64 b]) (.agg [.int .i64 c,.int .i64 d])=some (.bool (a==c&&b==d)):=by
 rw [h]
 congr 2
 have:=mj [a,b] [c,d]
 have e:fQ (.agg [.int .i64 a,.int .i64 b]) (.agg [.int .i64 c,.int .i64 d])=l7 (af.l [a,b]) (af.l [c,d]):=rfl
 rw [e,this]
 by_cases h1:a=c<;>by_cases h2:b=d<;>simp [h1,h2]
theorem Has.jg {h:AHeap}{pre mid N L:Mem}(o:Has h (pre++(mid++(N++L)))):Has h (pre++(N++(mid++L))):=by
 refine o.perm (List.Perm.append_left _ ?_)
 rw [←ZV,←ZV]
 exact List.Perm.append_right _ List.perm_append_comm
def xo (ns:List ak)(ids:List Nat)(j:Int)(ad:Nat):List Nat:=(xh ns ids).set j.toNat ad
theorem vI:∀(ns:List ak) (ids:List Nat),aK ns (xh ns ids)=aK ns ids
 | [],_=>rfl
 | a::ns,ids=>by
  have:=vI ns ids.tail
  simp only [xh,aK,Z0,List.headD_cons,List.tail_cons] at this ⊢
  rw [this]
theorem vJ:∀(ns:List ak) (ids:List Nat) (i:Nat) (n:ak) (ad:Nat),ns.length=ids.length→aK (ns.set i n) (ids.set i ad)=(aK ns ids).set i (n,ad)
 | [],_,_,_,_,_=>rfl
 | a::ns,[],_,_,_,h=>by simp at h
 | a::ns,j::ids,0,n,ad,_=>rfl
 | a::ns,j::ids,i+1,n,ad,h=>by
  have:=vJ ns ids i n ad (by simpa using h)
  simp only [List.set_cons_succ,aK,List.headD_cons,List.tail_cons,this]
theorem vK (ns:List ak)(ids:List Nat)(j:Int)(n:ak)(ad:Nat):aK (ns.set j.toNat n) (xo ns ids j ad)=(aK ns ids).set j.toNat (n,ad):=by
 unfold xo
 rw [vJ ns (xh ns ids) j.toNat n ad (by unfold xh; rw [ZR,fE]),vI]
section
variable {P:Program}{tf:TypeId}{h:AHeap}{pre L:Mem}{ns:List ak}{ids:List Nat}{i ad k n2 q:Nat}{j:Int}{n:ak}{args:List Int}
theorem I1 (o:Has h ((i,.sl k 4 (b4.l (aK ns ids)))::(ad,.sl n2 1 (af.l args))::(pre++(cz ns ids++L))))(hs:fR P tf=some 1)(hx:ix ns j=some n) :
  ∃h',jo P h tf (.ptr i (0+j.toNat*4+3)) (.rs ad 0 n2 1)=some h'∧
   Has h' ((i,.sl k 4 (b4.l (aK (ns.set j.toNat ⟨n.kind,n.int,n.label,args⟩) (xo ns ids j ad))))::(pre++(cz (ns.set j.toNat ⟨n.kind,n.int,n.label,args⟩) (xo ns ids j ad)++L))):=by
 have hn:n2=args.length:=dh (E:=af) o (q:=1) rfl
 subst hn
 obtain⟨h0,h1,h2⟩:=iq hx
 obtain⟨h',e,o'⟩:=IG (P:=P) (tf:=tf) (E:=b4) (l:=aK ns ids) (q:=0) (off:=3) (v:=((⟨n.kind,n.int,n.label,args⟩:ak),ad)) (x:=.rs ad 0 args.length 1) o rfl hs (sy hx) rfl rfl (by decide) rfl
 refine⟨h',e,?_⟩
 have e1:(aK ns ids).set j.toNat ((⟨n.kind,n.int,n.label,args⟩:ak),ad)=aK (ns.set j.toNat ⟨n.kind,n.int,n.label,args⟩) (xo ns ids j ad):=(vK ns ids j _ ad).symm
 have e2:cz (ns.set j.toNat ⟨n.kind,n.int,n.label,args⟩) (xo ns ids j ad)=(cz ns ids).set j.toNat (AZ (⟨n.kind,n.int,n.label,args⟩,ad)):=by
  unfold cz; rw [vK,List.map_set]
 rw [←e1,e2]
 have o2:Has h' ((i,.sl k 4 (b4.l ((aK ns ids).set j.toNat ((⟨n.kind,n.int,n.label,args⟩:ak),ad))))::AZ (⟨n.kind,n.int,n.label,args⟩,ad)::(pre++(cz ns ids++L))):=o'
 have hl:j.toNat<(cz ns ids).length:=by unfold cz; rw [ZR,fE]; omega
 have e3:(cz ns ids).set j.toNat (AZ (⟨n.kind,n.int,n.label,args⟩,ad))=(cz ns ids).take j.toNat++AZ (⟨n.kind,n.int,n.label,args⟩,ad)::(cz ns ids).drop (j.toNat+1):=by
  rw [List.set_eq_take_append_cons_drop,if_pos hl]
 have e4:cz ns ids=(cz ns ids).take j.toNat++(cz ns ids)[j.toNat]::(cz ns ids).drop (j.toNat+1):=by
  conv=>lhs; rw [←aaP j.toNat (cz ns ids),ZP hl]
 rw [e3]
 generalize hA:(cz ns ids).take j.toNat=A at *
 generalize hB:(cz ns ids).drop (j.toNat+1)=B at *
 rw [e4] at o2
 have o3:=(o2.del (pre.length+A.length+2))
 have e5:((i,Ct.sl k 4 (b4.l ((aK ns ids).set j.toNat ((⟨n.kind,n.int,n.label,args⟩:ak),ad))))::AZ (⟨n.kind,n.int,n.label,args⟩,ad)::(pre++((A++(cz ns ids)[j.toNat]::B)++L))).eraseIdx (pre.length+A.length+2)=(i,Ct.sl k 4 (b4.l ((aK ns ids).set j.toNat ((⟨n.kind,n.int,n.label,args⟩:ak),ad))))::AZ (⟨n.kind,n.int,n.label,args⟩,ad)::(pre++((A++B)++L)):=by
  show _::_::(pre++((A++(cz ns ids)[j.toNat]::B)++L)).eraseIdx (pre.length+A.length)=_
  congr 2
  rw [List.eraseIdx_append_of_length_le (by omega),aaE,ZV,List.eraseIdx_append_of_length_le (by omega),aaJ]
  simp
 rw [e5] at o3
 refine o3.perm (List.Perm.cons _ ?_)
 have k1:pre++((A++AZ ((⟨n.kind,n.int,n.label,args⟩:ak),ad)::B)++L)=(pre++A)++AZ (⟨n.kind,n.int,n.label,args⟩,ad)::(B++L):=by simp
 have k2:pre++((A++B)++L)=(pre++A)++(B++L):=by simp
 rw [k1,k2]
 exact List.perm_middle
theorem oe:∀(ns:List ak) (ids:List Nat) (k:Nat),aK (ns.drop k) (ids.drop k)=(aK ns ids).drop k
 | ns,ids,0=>rfl
 | [],_,k+1=>by simp [aK]
 | a::ns,[],k+1=>by
  have:=oe ns [] k
  simpa [aK] using this
 | a::ns,j::ids,k+1=>by
  have:=oe ns ids k
  simpa [aK] using this
theorem Gu (o:Has h (pre++(cz (ns.drop j.toNat) (ids.drop j.toNat)++L)))(hq:pre[q]? = some (i,.sl k 4 (b4.l (aK ns ids))))(hx:ix ns j=some n) :
  Has h ((Mx ids j,.sl n.args.length 1 (af.l n.args))::(pre++(cz (ns.drop (IntKind.i64.wrap (j+(1:Int))).toNat) (ids.drop (IntKind.i64.wrap (j+(1:Int))).toNat)++L))):=by
 obtain⟨h0,h1,h2⟩:=iq hx
 have Ws:q<pre.length:=(ZH.1 hq).1
 have wK:(pre++(cz (ns.drop j.toNat) (ids.drop j.toNat)++L))[q]? = some (i,.sl k 4 (b4.l (aK ns ids))):=by rw [ZS Ws]; exact hq
 obtain⟨⟨⟨_,rq⟩,_⟩,_⟩:=o.at_ _ _ _ wK
 have rq:(b4.l (aK ns ids)).length≤1125899906842624:=rq
 rw [bQ.bW,fE] at rq
 have rq:ns.length*4≤1125899906842624:=rq
 have hw:(IntKind.i64.wrap (j+(1:Int))).toNat=j.toNat+1:=by
  have hm:(j+1) % 18446744073709551616=j+1:=Int.emod_eq_of_lt (by omega) (by omega)
  have:IntKind.i64.wrap (j+(1:Int))=j+1:=by
   show (if true&&decide ((j+1) % 18446744073709551616≥9223372036854775808) then (j+1) % 18446744073709551616 - 18446744073709551616 else (j+1) % 18446744073709551616)=j+1
   rw [hm]
   have:decide (j+1≥9223372036854775808)=false:=by rw [decide_eq_false_iff_not]; omega
   rw [this]; rfl
  rw [this]; omega
 rw [hw]
 have e:cz (ns.drop j.toNat) (ids.drop j.toNat)=(Mx ids j,.sl n.args.length 1 (af.l n.args))::cz (ns.drop (j.toNat+1)) (ids.drop (j.toNat+1)):=by
  unfold cz
  rw [oe,oe]
  have hz:=tH ns ids _ _ h2
  have hl:j.toNat<(aK ns ids).length:=by rw [fE]; omega
  rw [ZP hl]
  have:(aK ns ids)[j.toNat]=(n,ids.getD j.toNat 0):=(ZH.1 hz).2
  rw [this]
  rfl
 rw [e] at o
 refine o.perm ?_
 exact List.perm_middle.symm
end
end Go.R
namespace Go.Proofs.Ytifafejidnjckaa
open Go Go.R
open Go.IntKind (i64 u64 u8 u32)
structure aN where
 fC:Int
 sB:Int
 Ey:Int
 eY:ByteArray
 gf:List Int
 xp:bg
structure ab where
 aj:Bool
 aa:List ak
 ae:List Int
structure bo where
 kK:Int
 lX:Int
def aT:bQ aN:={n:=7,f:=fun x=>[.int .i64 x.fC,.int .i64 x.sB,.int .i64 x.Ey,.str x.eY,af.fz x.gf,ai.fz x.xp.nodes,.int .i64 x.xp.root],len:=fun _=>rfl,pos:=by decide,pure:=fun x _=>pure_cons gR (pure_cons gR (pure_cons gR (pure_cons nA (pure_cons bQ.bA (pure_cons bQ.bA (pure_cons gR (pure_nil))))))),canon:=fun _=>rfl}
def eB:bQ bo:={n:=2,f:=fun x=>[.int .i64 x.kK,.int .i64 x.lX],len:=fun _=>rfl,pos:=by decide,pure:=fun x _=>pure_cons gR (pure_cons gR (pure_nil)),canon:=fun _=>rfl}
theorem NR:yS Try.prog 22 7 96=true:=by kernel_rfl
theorem gu:yS Try.prog 33 1 8=true:=by kernel_rfl
theorem uW:yS Try.prog 40 4 56=true:=by kernel_rfl
theorem QB:yS Try.prog 93 2 16=true:=by kernel_rfl
theorem A3:gF Try.prog 3=some false:=by kernel_rfl
theorem T3:gF Try.prog 33=some false:=by kernel_rfl
theorem T4:gF Try.prog 40=some false:=by kernel_rfl
theorem T5:gF Try.prog 44=some true:=by kernel_rfl
theorem Ez:gF Try.prog 51=some true:=by kernel_rfl
theorem Z3:fR Try.prog 3=some 1:=by kernel_rfl
theorem Wt:fR Try.prog 33=some 1:=by kernel_rfl
theorem T6:fR Try.prog 44=some 7:=by kernel_rfl
theorem EA:fR Try.prog 51=some 4:=by kernel_rfl
theorem U9:Try.prog.underlying 9=some .string:=by kernel_rfl
theorem I2:yX Try.prog 82=true:=by kernel_rfl
theorem Li:zh Try.prog 96=true:=by kernel_rfl
theorem Cr:yY Try.prog 113 9=true:=by kernel_rfl
theorem Gv:Try.prog.underlying 113=some (.map 115 3):=by kernel_rfl
theorem vL:Em Try.prog 115 9=true:=by kernel_rfl
theorem QC:Qy Try.prog 33=true:=by kernel_rfl
theorem QD:∀a b c d:Int,ni Try.prog .eql 92 (.agg [.int .i64 a,.int .i64 b]) (.agg [.int .i64 c,.int .i64 d])=some (.bool (fQ (.agg [.int .i64 a,.int .i64 b]) (.agg [.int .i64 c,.int .i64 d])==true)):=by
 intro a b c d
 kernel_rfl
def dt.f (m:Nat):Option Bool:=some true
def T7 (cf:CallF)(m:Nat):Prop:=∀r:Bool,dt.f m=some r→∀h xs,aU bR h xs []→cf 11 xs h=some (.bool r,h)
def T8 (cf:CallF)(m:Nat):Prop:=zc cf 38 4
def O9 (cf:CallF)(m:Nat):Prop:=zc cf 39 1
def T9 (cf:CallF)(m:Nat):Prop:=J2 cf 60
end Go.Proofs.Ytifafejidnjckaa
namespace Go.Proofs.Ytifafejidnjckaa
open Go Go.R
open Go.IntKind (i64 u64 u8 u32)
def zi:b9:=gW [0,2,3,7,26] [] [30,26,18,26,10,29,29] [] []
def bJ.l0 (m:Nat)(l0:List aN):Nat→Int→Option (Sum Bool (Int))
 | 0,_=>none
 | k+1,i0=>if (decide (i0<(l0.length:Int)))=true then ((ix l0 i0).bind fun v0=>if (decide ((v0.xp.nodes.length:Int) > (40:Int)))=true then (some (.inl true)) else ((ix l0 i0).bind fun v1=>if (decide ((v1.gf.length:Int) > (40:Int)))=true then (some (.inl true)) else (bJ.l0 m l0 k (i64.wrap (i0+(1:Int)))))) else (some (.inr i0))
def bJ.f (m:Nat)(l0:List aN):Option (Bool):=(bJ.l0 m l0 m (0:Int)).bind fun bM=>match bM with | .inl r0=>some r0 | .inr i1=>some (decide ((l0.length:Int) > (60:Int)))
def bJ.fin (L:Mem)(r:Bool)(s:St):Prop:=∃av,aO Try.prog (s.open zi) Try.f10.results.toList=some av∧fG s.h av (.bool r)
def Ua (cf:CallF)(m:Nat):Prop:=∀(l0:List aN) (r:Bool),bJ.f m l0=some r→∀h xs,aU bR h xs [aT.fz l0]→cf 10 xs h=some (.bool r,h)
section
variable {cf:CallF}{m:Nat}
theorem bJ.cQ (L:Mem)(l0:List aN)   : dL Try.prog cf zi m (sub [1,0,1,0,0] (bZ Try.f10)) (fun k (σ:Int)=>bJ.l0 m l0 k σ) (fun σ s=>match σ with | i0=>∃h0,s=⟨[aT.fz l0,.any,.int .i64 i0,.any,.any],[],h0⟩∧Has h0 (L)) (fun out e s=>(e = .exit 0∧∃i0,.inr i0=out∧∃Gw Gx h0,s=⟨[aT.fz l0,.any,Gw,Gx,.any],[],h0⟩∧Has h0 (L))∨(e = .ret∧∃r,.inl r=out∧bJ.fin L r s)):=by
 refine lg (fun _=>rfl) ?_
 rintro k i0 s out ⟨h0,rfl,o0⟩ H
 have H:bJ.l0 m l0 (k+1) i0=some out:=H
 refine qq <| qq <| q0 <| qc H (fun c0 H=>?_) (fun c0 H=>?_)
 ·refine qk <| qq <| qb 1 <| qq ?_
  obtain⟨v0,e0,H⟩:=bj H
  rcases gS H with⟨c1,H⟩| ⟨c1,H⟩
  ·exact qr [.v 2 (fy (k:=.i64) (E:=aT) (l:=l0) NR e0),.v 5 (qJ  (E:=aT) (l:=l0) (off:=5) h0 T4 e0 rfl),.b 8 c1] <| za <| qq <| q0 <| qt <| Or.inr (⟨rfl,_,oi H,cV (.bool true) h0 (cP (az))⟩)
  ·obtain⟨v1,e1,H⟩:=bj H
   refine qr [.v 2 (fy (k:=.i64) (E:=aT) (l:=l0) NR e0),.v 5 (qJ  (E:=aT) (l:=l0) (off:=5) h0 T4 e0 rfl),.b 8 c1,.v 11 (fy (k:=.i64) (E:=aT) (l:=l0) NR e1),.v 13 (qJ  (E:=aT) (l:=l0) (off:=4) h0 T3 e1 rfl)] <| qc H (fun c3 H=>?_) (fun c3 H=>?_)
   ·exact q1 <| qt <| Or.inr (⟨rfl,_,oi H,cV (.bool true) h0 (cP (az))⟩)
   ·exact qk <| q0 <| ⟨i64.wrap (i0+(1:Int)),⟨h0,by kernel_rfl,o0⟩,H⟩
 ·exact qx 0 <| Or.inl (⟨rfl,i0,oi H,.int .i64 i0,.bool (decide (i0<(l0.length:Int))),h0,by kernel_rfl,o0⟩)
theorem qO {aY:FuncId→b9}(ha:aY 10=zi)  (l0:List aN)(h:AHeap)(L:Mem)  (o:Has h (L)){out:Bool}(H:bJ.f m l0=some out) :
  ∃r h',bf Try.prog aY cf m 10 [aT.fz l0] h=some (r,h')∧fG h' r (.bool out):=by
 refine ar (fn:=Try.f10) ha Try.func10 (by kernel_rfl) (by kernel_rfl) ?_
 refine aH (Q:=fun s=>bJ.fin L out s) (fun _ _ h=>h) ?_
 have H:_=some out:=H
 unfold bJ.f at H
 show dK _ cf zi m _ ⟨aT.fz l0::oZ [],[],h⟩ _
 refine q1 <| qq <| qq <| q0 <| qb 0 ?_
 obtain⟨bM,e2,H⟩:=bj H
 refine ql (bJ.cQ L l0   (0:Int) _ _ ⟨h,by kernel_rfl,o⟩ e2) ?_
 rintro e s (⟨rfl,i1,rfl,g0,g1,h1,rfl,o1⟩| ⟨rfl,r0,rfl,uX⟩)
 ·try dsimp only at H
  obtain rfl:=oi H
  exact q1 <| qt <| ⟨.inl rfl,cV (.bool (decide ((l0.length:Int) > (60:Int)))) h1 (cP (az))⟩
 ·try dsimp only at H
  obtain rfl:=oi H
  exact⟨.inl rfl,uX⟩
end
end Go.Proofs.Ytifafejidnjckaa
namespace Go.Proofs.Ytifafejidnjckaa
open Go Go.R
open Go.IntKind (i64 u64 u8 u32)
def zj:b9:=gW [0,1,4,5,10,14,25] [] [124,108,123,116,84,116,52,123,123] [] []
def cj.l0 (m:Nat)(a0:List Int)(b0:List Int):Nat→Int→Option (Sum Bool (Int))
 | 0,_=>none
 | k+1,i0=>if (decide (i0<(a0.length:Int)))=true then ((ix a0 i0).bind fun v0=>(ix b0 i0).bind fun v1=>if (!(v0==v1))=true then (some (.inl false)) else (cj.l0 m a0 b0 k (i64.wrap (i0+(1:Int))))) else (some (.inr i0))
def cj.f (m:Nat)(a0:List Int)(b0:List Int):Option (Bool):=if (!((a0.length:Int)==(b0.length:Int)))=true then (some false) else ((cj.l0 m a0 b0 m (0:Int)).bind fun bM=>match bM with | .inl r0=>some r0 | .inr i1=>some true)
def cj.fin (L:Mem)(r:Bool)(s:St):Prop:=∃av,aO Try.prog (s.open zj) Try.f14.results.toList=some av∧fG s.h av (.bool r)
def Ub (cf:CallF)(m:Nat):Prop:=∀(a0:List Int) (b0:List Int) (r:Bool),cj.f m a0 b0=some r→∀h xs,aU bR h xs [af.fz a0,af.fz b0]→cf 14 xs h=some (.bool r,h)
section
variable {cf:CallF}{m:Nat}
theorem cj.cQ (L:Mem)(a0:List Int)(b0:List Int)   : dL Try.prog cf zj m (sub [1,1,0,1,0,0] (bZ Try.f14)) (fun k (σ:Int)=>cj.l0 m a0 b0 k σ) (fun σ s=>match σ with | i0=>∃h0,s=⟨af.fz a0::af.fz b0 :: .any :: .int .i64 i0::ov [],[],h0⟩∧Has h0 (L)) (fun out e s=>(e = .exit 0∧∃i0,.inr i0=out∧∃mP uY NS A7 h0,s=⟨[mP,uY,.any,NS,.any,A7,.any],[],h0⟩∧Has h0 (L))∨(e = .ret∧∃r,.inl r=out∧cj.fin L r s)):=by
 refine lg (fun _=>rfl) ?_
 rintro k i0 s out ⟨h0,rfl,o0⟩ H
 have H:cj.l0 m a0 b0 (k+1) i0=some out:=H
 refine qq <| qq <| q0 <| qc H (fun c1 H=>?_) (fun c1 H=>?_)
 ·refine qk <| qq <| qb 1 <| qq ?_
  obtain⟨v0,e0,H⟩:=bj H
  obtain⟨v1,e1,H⟩:=bj H
  refine qr [.v 2 (fy (k:=.i64) (E:=af) (l:=a0) gu e0),.v 3 (iz  (E:=af) (l:=a0) h0 A3 e0 rfl),.v 6 (fy (k:=.i64) (E:=af) (l:=b0) gu e1),.v 7 (iz  (E:=af) (l:=b0) h0 A3 e1 rfl)] <| qc H (fun c2 H=>?_) (fun c2 H=>?_)
  ·exact q1 <| qt <| Or.inr (⟨rfl,_,oi H,cV (.bool false) h0 (cP (az))⟩)
  ·exact qk <| q0 <| ⟨i64.wrap (i0+(1:Int)),⟨h0,by kernel_rfl,o0⟩,H⟩
 ·exact qx 0 <| Or.inl (⟨rfl,i0,oi H,af.fz a0,af.fz b0,.int .i64 i0,.bool (decide (i0<(a0.length:Int))),h0,by kernel_rfl,o0⟩)
theorem rX {aY:FuncId→b9}(ha:aY 14=zj)  (a0:List Int)(b0:List Int)(h:AHeap)(L:Mem)  (o:Has h (L)){out:Bool}(H:cj.f m a0 b0=some out) :
  ∃r h',bf Try.prog aY cf m 14 [af.fz a0,af.fz b0] h=some (r,h')∧fG h' r (.bool out):=by
 refine ar (fn:=Try.f14) ha Try.func14 (by kernel_rfl) (by kernel_rfl) ?_
 refine aH (Q:=fun s=>cj.fin L out s) (fun _ _ h=>h) ?_
 have H:_=some out:=H
 unfold cj.f at H
 show dK _ cf zj m _ ⟨af.fz a0::af.fz b0::Ai [],[],h⟩ _
 refine q1 <| qq <| qq <| q0 <| qc H (fun c0 H=>?_) (fun c0 H=>?_)
 ·obtain rfl:=oi H
  exact q1 <| qt <| ⟨.inl rfl,cV (.bool false) h (cP (az))⟩
 ·refine qk <| qq <| qq <| q0 <| qb 0 ?_
  obtain⟨bM,e2,H⟩:=bj H
  refine ql (cj.cQ L a0 b0   (0:Int) _ _ ⟨h,by kernel_rfl,o⟩ e2) ?_
  rintro e s (⟨rfl,i1,rfl,g0,g1,g2,g3,h1,rfl,o1⟩| ⟨rfl,r0,rfl,uX⟩)
  ·try dsimp only at H
   obtain rfl:=oi H
   exact q1 <| qt <| ⟨.inl rfl,cV (.bool true) h1 (cP (az))⟩
  ·try dsimp only at H
   obtain rfl:=oi H
   exact⟨.inl rfl,uX⟩
end
end Go.Proofs.Ytifafejidnjckaa
namespace Go.Proofs.Ytifafejidnjckaa
open Go Go.R
open Go.IntKind (i64 u64 u8 u32)
end Go.Proofs.Ytifafejidnjckaa
namespace Go.Proofs.Ytifafejidnjckaa
open Go Go.R
open Go.IntKind (i64 u64 u8 u32)
def Cs:b9:=gW [0] [14000000001] [1] [] []
def jt.f (m:Nat)  : Option (ab):=some (ab.mk true ([]:List ak) ([]:List Int))
def jt.fin (L:Mem)  (r:ab)(s:St):Prop:=∃dw eK eL:Nat,aO Try.prog (s.open Cs) Try.f26.results.toList=some (.ptr dw 0)∧Has s.h ((dw,.ob [.bool r.aj,.rs eK 0 r.aa.length 4,.rs eL 0 r.ae.length 1])::(eK,.sl r.aa.length 4 (ai.l r.aa))::(eL,.sl r.ae.length 1 (af.l r.ae))::L)
def Uc (cf:CallF)(m:Nat):Prop:=∀ (r:ab),jt.f m  = some r→∀h L,Has h (L)→∀xs,xs.map aS=[]→∃dw eK eL h',cf 26 xs h=some (.ptr dw 0,h')∧Has h' ((dw,.ob [.bool r.aj,.rs eK 0 r.aa.length 4,.rs eL 0 r.ae.length 1])::(eK,.sl r.aa.length 4 (ai.l r.aa))::(eL,.sl r.ae.length 1 (af.l r.ae))::L)
section
variable {cf:CallF}{m:Nat}
theorem tN {aY:FuncId→b9}(ha:aY 26=Cs)   (h:AHeap)(L:Mem)  (o:Has h (L)){out:ab}(H:jt.f m  = some out) :
  ∃r h',bf Try.prog aY cf m 26 [] h=some (r,h')∧∃dw eK eL:Nat,r = .ptr dw 0∧Has h' ((dw,.ob [.bool out.aj,.rs eK 0 out.aa.length 4,.rs eL 0 out.ae.length 1])::(eK,.sl out.aa.length 4 (ai.l out.aa))::(eL,.sl out.ae.length 1 (af.l out.ae))::L):=by
 refine ar (fn:=Try.f26) ha Try.func26 (by kernel_rfl) (by kernel_rfl) ?_
 refine aH (Q:=fun s=>jt.fin L out s) (fun _ _ ⟨h1,dw,eK,eL,h2,h3⟩=>⟨h1,_,h2,dw,eK,eL,rfl,h3⟩) ?_
 have H:_=some out:=H
 unfold jt.f at H
 show dK _ cf Cs m _ ⟨[.any],[none],h⟩ _
 refine q1 <| qq ?_
 have o0:Has h (((0),.sl (([]:List ak).length) 4 (ai.l ([]:List ak)))::L):=Has.nil o 4
 have o1:Has h ((((0)),.sl (([]:List Int).length) 1 (af.l ([]:List Int)))::((0),.sl (([]:List ak).length) 4 (ai.l ([]:List ak)))::L):=Has.nil o0 1
 obtain⟨aE,h0,e0,o2⟩:=gJ (cs:=[.bool true,.rs (0) 0 (([]:List ak).length) 4,.rs ((0)) 0 (([]:List Int).length) 1]) o1 (by kernel_rfl)
 obtain rfl:=oi H
 exact qr [.a 1 e0] <| qt <| ⟨.inl rfl,⟨aE,(0),((0)),by kernel_rfl,he (Has.front (Has.front (Has.front o2 1 rfl) 2 rfl) 2 rfl)⟩⟩
end
end Go.Proofs.Ytifafejidnjckaa
