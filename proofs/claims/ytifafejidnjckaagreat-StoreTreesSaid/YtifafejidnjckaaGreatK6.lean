/- Part of the proof: RBuf1, RBuf2, RBuf3, RBuf4, RBuf5, RG9, PR1, RFix, RGN, RGL, RSrt, RGS, RGC, RPT, RDV, RMB, RGR, RGM, QW, Q8, Q16, Q17, Q35, Q49, Q50. -/
import Derived.Test.YtifafejidnjckaaGreatK5
import Derived.Shelf.LaysM
import Derived.Shelf.Bytes.GrowAt
import Derived.Lib.ByteType
import Derived.Lib.BufferAt
import Derived.Lib.BufferKept
import Derived.Lib.Walk
import Derived.Lib.BufferWrite
import Derived.Lib.Hide
import Derived.WalkKit
import Derived.BigCall
import Derived.BigGuard
import Derived.KernelRfl
import Derived.Shelf.Sort.Plain
import Derived.Shelf.Slices.In.SortNone
import Derived.Shelf.Slices.CompactI
import Derived.Test.YtifafejidnjckaaGreatProg
set_option linter.unusedVariables false
set_option linter.unusedSimpArgs false
set_option maxRecDepth 100000
open Array renaming getElem?_eq_some_iff → abj, getElem?_modify → abS
open Bool renaming and_eq_true → aaK, false_eq_true → aaU, true_and → abL, not_true → abM, not_eq_true' → abN
open Int renaming toNat_natCast → aaS
open List renaming getElem?_eq_getElem → aaL, getElem?_eq_some_iff → aaM, mem_of_getElem? → aaP, length_append → aaR, drop_eq_getElem_cons → aaT, length_cons → aaW, getElem?_append_left → aaX, length_map → aaY, getElem?_append_right → aaZ, append_assoc → aa0, all_eq_true → aa1, map_cons → aa3, replicate → aa4, mem_singleton → aa5, mem_cons → aa6, length_nil → aba, mem_append → abb, map_append → abc, getElem?_map → abd, getElem?_cons_zero → abg, take_append_of_le_length → abi, drop_zero → abl, cons_append → abm, take_of_length_le → abo, nil_append → abr, eq_nil_of_length_eq_zero → abt, getElem?_of_mem → abv, length_set → abx, length_take → abz, mem_append_left → abA, getElem?_cons_succ → abK, append_nil → abU, take_append_drop → abY, mem_cons_of_mem → ab0, getElem_of_mem → ab2
open Nat renaming le_refl → aaN, zero_add → aa7, beq → abq, lt_succ_self → aby, le_trans → abB, add_sub_cancel_left → abC, mul_le_mul_right → abE, sub_self → abT, le_succ → abV, lt_succ_of_lt → ab1, ble → ab7, min_eq_left → ab8, zero_lt_one → ab9
open Option renaming bind_some → aaG, bind_eq_some_iff → aaH, map_eq_some_iff → aaI, map_some → aaO, getD_some → abG
open Option.some renaming injEq → aaJ, inj → aa8
open Prod.mk renaming injEq → aaQ
namespace Go.R
open Go Go.Proofs Go.Shelf Go.RowKit
variable {P:Program}{ρ:Ren}
end Go.R
namespace Go.R
open Go Go.Proofs Go.Shelf Go.RowKit
variable {P:Program}{ρ:Ren}
end Go.R
namespace Go.R
open Go Go.Proofs Go.Shelf Go.RowKit
variable {P:Program}{ρ:Ren}
end Go.R
namespace Go.R
open Go Go.Proofs Go.Shelf Go.RowKit
theorem Fr.none {c:Cx}{L0:Nat→Prop}(hrel:HRel c L0):Fr L0 c none0 (fun _=>0) [] ⟨fun _=>.any,fun _=>none,c.h⟩ ⟨#[],[]⟩:=
 ⟨rfl,by rw [show un L0 none0=L0 from by funext b; simp [un,none0]]; exact hrel,fun t=>by simp [SR,VR],fun k cs h=>(by cases h),fun k k' h=>(by cases h),fun t k off _ h=>(by cases h),rfl,fun b h=>h.elim⟩
end Go.R
namespace Go.R
open Go Go.Proofs Go.Shelf Go.RowKit
theorem intr_cons {P:Program}{f0:FuncId}{g0:List AV→AHeap→Option (AV × AHeap)}{intr:FuncId→Option (List AV→AHeap→Option (AV × AHeap))}(h0:CallOK P fun f' args h=>if f'=f0 then g0 args h else none)
  (hs:∀args h r h',g0 args h=some (r,h')→Steady h h') (h:IntrOK P intr):IntrOK P fun f=>if f=f0 then some g0 else intr f:=by
 intro f g hg
 dsimp only at hg
 split at hg
 ·rename_i hf
  subst hf
  cases hg
  exact⟨h0,hs⟩
 ·exact h f g hg
end Go.R
namespace Go.R
open Go
section
variable {h:AHeap}{L:Mem}{e:TypeId}{id i:Nat}{bs news r:List Int}{c:Int}{s:ByteArray}
variable {cf:CallF}{f:FuncId}
end
def jn {α β:Type}(b:α→Option β)(a:(α→Option β)→Option β):Option β:=a b
theorem qH {α β:Type}{b:α→Option β}{a:(α→Option β)→Option β}{out:β}(H:jn b a=some out):∃j:α→Option β,(∀x,j x=b x)∧a j=some out:=⟨b,fun _=>rfl,H⟩
section
variable {P:Program}{cf:CallF}{A:bR}{m:Nat}{s:St}{Q:Ex→St→Prop}
theorem er {c:Code}(fs:List (AV × AHeap))(zs:JK)(jT:St)(p:Prop)(h:ou P cf A c fs zs s=some (p,jT))(hp:p)(hQ:Q .norm jT):cZ P cf A m c s Q:=An h hp hQ
end
theorem aW {α β:Type}{o:Option α}{f:α→Option β}{b:β}(h:o.bind f=some b):∃a,o=some a∧f a=some b:=aaH.1 h
theorem Yk {α:Type}{c:Bool}{a b z:α}(h:c=true)(H:(if c=true then a else b)=z):a=z:=(if_pos h).symm.trans H
theorem Yl {α:Type}{c:Bool}{a b z:α}(h:c=false)(H:(if c=true then a else b)=z):b=z:=(if_neg (Kj h)).symm.trans H
abbrev nU (l:List AV):List AV:=.any :: .any :: .any::l
abbrev rN (l:List AV):List AV:=.any::nU l
abbrev Ax (l:List AV):List AV:=.any::rN l
abbrev zA (l:List AV):List AV:=.any::Ax l
abbrev JL (l:List AV):List AV:=.any::zA l
abbrev xg (l:List AV):List AV:=.any::JL l
abbrev Oz (l:List AV):List AV:=.any::xg l
abbrev Kr (l:List AV):List AV:=.any::Oz l
abbrev wG (l:List AV):List AV:=.any::Kr l
abbrev Ay (l:List AV):List AV:=.any::wG l
abbrev Cw (l:List AV):List AV:=.any::Ay l
abbrev Cy (l:List AV):List AV:=.any::Cw l
abbrev PF (l:List AV):List AV:=.any::Cy l
abbrev Ks (l:List AV):List AV:=.any::PF l
abbrev PG (l:List AV):List AV:=.any::Ks l
abbrev SX (l:List AV):List AV:=.any::PG l
abbrev SY (l:List AV):List AV:=.any::SX l
abbrev PH (l:List AV):List AV:=.any::SY l
abbrev PJ (l:List AV):List AV:=.any::PH l
abbrev SZ (l:List AV):List AV:=.any::PJ l
abbrev MU (l:List AV):List AV:=.any::SZ l
abbrev S3 (l:List AV):List AV:=.any::MU l
abbrev MV (l:List AV):List AV:=.any::S3 l
abbrev S4 (l:List AV):List AV:=.any::MV l
abbrev PK (l:List AV):List AV:=.any::S4 l
abbrev S5 (l:List AV):List AV:=.any::PK l
abbrev PL (l:List AV):List AV:=.any::S5 l
abbrev Ta (l:List AV):List AV:=.any::PL l
abbrev Tb (l:List AV):List AV:=.any::Ta l
abbrev Tc (l:List AV):List AV:=.any::Tb l
abbrev Td (l:List AV):List AV:=.any::Tc l
abbrev Te (l:List AV):List AV:=.any::Td l
end Go.R
namespace Go.R
open Go
open Go.IntKind (i64 u64 u8 u32)
theorem HE (x:Int):u64.wrap x=x % 18446744073709551616:=by
 unfold IntKind.wrap; simp [IntKind.signed,IntKind.bits]
theorem MW {x:Int}(h0:0≤x)(h1:x<18446744073709551616):u64.wrap x=x:=by
 rw [HE,Int.emod_eq_of_lt h0 h1]
theorem HF (x:Int):i64.wrap x=if x % 18446744073709551616≥9223372036854775808 then x % 18446744073709551616 - 18446744073709551616 else x % 18446744073709551616:=by
 unfold IntKind.wrap; simp [IntKind.signed,IntKind.bits]
theorem bJ {x:Int}(h0 : -9223372036854775808≤x)(h1:x<9223372036854775808):i64.wrap x=x:=by
 rw [HF]; split<;>omega
end Go.R
namespace Go.R
open Go
def wH {X:Type}(F:CallF→Option X):Prop:=∀cf x,F cf=some x→∃l:List (FuncId × List AV × AHeap × (AV × AHeap)),(∀e∈l,cf e.1 e.2.1 e.2.2.1=some e.2.2.2)∧∀DS:CallF,(∀e∈l,DS e.1 e.2.1 e.2.2.1=some e.2.2.2)→F DS=some x
theorem bC {X:Type}(x:Option X):wH fun _=>x:=by
 intro cf y h
 refine⟨[],?_,fun _ _=>h⟩
 intro e he; cases he
theorem HG (f:FuncId)(args:List AV)(h:AHeap):wH fun cf=>cf f args h:=by
 intro cf x hx
 refine⟨[(f,args,h,x)],?_,fun DS h'=>h' (f,args,h,x) (aa5.2 rfl)⟩
 intro e he; cases (aa5.1 he); exact hx
theorem eo {X Y:Type}{F:CallF→Option X}{G:X→CallF→Option Y}(hF:wH F)(hG:∀y,wH (G y)):wH fun cf=>(F cf).bind fun y=>G y cf:=fun cf z hz=>by
 obtain⟨y,h1,h2⟩:=aaH.1 hz
 obtain⟨l1,a1,b1⟩:=hF cf y h1
 obtain⟨l2,a2,b2⟩:=hG y cf z h2
 refine⟨l1++l2,fun e he=>(abb.1 he).elim (a1 e) (a2 e),fun DS h'=>?_⟩
 have e1:=b1 DS fun e he=>h' e (abA _ he)
 have e2:=b2 DS fun e he=>h' e (List.mem_append_right _ he)
 show (F DS).bind _=_
 rw [e1,aaG,e2]
theorem yG {X Y:Type}{F:CallF→Option X}{g:X→Y}(hF:wH F):wH fun cf=>(F cf).map g:=by
 intro cf x hx
 obtain⟨y,h1,h2⟩:=aaI.1 hx
 obtain⟨l,a,b⟩:=hF cf y h1
 refine⟨l,a,fun DS h'=>?_⟩
 show (F DS).map g=some x
 rw [b DS h',aaO,h2]
theorem ku {X:Type}{c:Prop}[Decidable c]{F G:CallF→Option X}(hF:wH F)(hG:wH G):wH fun cf=>if c then F cf else G cf:=by
 by_cases h:c
 ·simp only [h,if_true]; exact hF
 ·simp only [h,if_false]; exact hG
section
variable {P:Program}{aH ds:List Nat}
theorem qI {X:Type}{F:CallF→Option X}(h:∀cf DS,F cf=F DS):wH F:=by
 intro cf x hx
 refine⟨[],?_,fun DS _=>(h DS cf).trans hx⟩
 intro e he; cases he
theorem DT (e:Operand→AV)(s:RS)(o:Oper):wH fun cf=>B0 P cf aH ds e s o:=by
 obtain⟨dst,op,type,pos,after,guard⟩:=o
 cases op with
 | call c=>
  obtain⟨callee,args,at_⟩:=c
  cases callee with
  | value f=>
   simp only [B0]
   cases e f with
   | fn f cap=>exact ku (yG (eo (HG _ _ _) fun y=>bC _)) (bC _)
   | _=>exact bC _
  | _=>exact qI fun _ _=>rfl
 | makeFunc fn first cap=>cases fn<;>exact qI fun _ _=>rfl
 | makeMap t r=>cases r<;>exact qI fun _ _=>rfl
 | _=>exact qI fun _ _=>rfl
theorem FN (ops:List Oper)(s:RS)(o:Oper):wH fun cf=>nX P cf aH ops s o:=by
 refine eo (bC (iD ops s.ρ o)) fun w=>?_
 exact ku (DT _ _ _) (bC _)
theorem Az (ops:List Oper):∀(os:List Oper) (s:RS),wH fun cf=>sV P cf aH ops s os
 | [],s=>bC _
 | o::os,s=>eo (FN ops s o) fun s'=>Az ops os s'
theorem AD (ops:List Oper):∀(os:List Oper) (s:RS),wH fun cf=>p9 P cf aH ops s os
 | [],s=>bC _
 | o::os,s=>eo (bC (iD ops s.ρ o)) fun w=>eo (ku (DT _ _ _) (bC _)) fun s1=>yG (AD ops os s1)
theorem Cz (ops:Array Oper)(s:RS):wH fun cf=>kM P cf aH ops s:=by
 unfold kM
 exact ku (eo (AD _ _ _) fun x=>bC _) (bC _)
theorem xh {f:CallF→St→Option (Ex × St)}(hf:∀s,wH fun cf=>f cf s):∀(n:Nat) (s:St),wH fun cf=>l9 (f cf) n s
 | 0,s=>bC _
 | n+1,s=>eo (hf s) fun x=>by
  obtain⟨x,s'⟩:=x
  cases x with
  | norm=>exact xh hf n s'
  | _=>exact bC _
theorem jI (A:bR)(n:Nat):∀(c:Code) (s:St),wH fun cf=>bM P cf A n c s
 | .skip,s=>by simp only [bM]; exact bC _
 | .label _,s=>by simp only [bM]; exact bC _
 | .ret,s=>by simp only [bM]; exact bC _
 | .exit _,s=>by simp only [bM]; exact bC _
 | .seq a b,s=>by
  simp only [bM]
  exact eo (jI A n a s) fun x=>by
   obtain⟨x,s'⟩:=x
   cases x with
   | norm=>exact jI A n b s'
   | _=>exact bC _
 | .cond k x y,s=>by
  simp only [bM]
  exact eo (bC _) fun t=>ku (jI A n x s) (jI A n y s)
 | .block id b,s=>by simp only [bM]; exact yG (jI A n b s)
 | .loop b,s=>by simp only [bM]; exact xh (fun s=>jI A n b s) n s
 | .region r ops draw,s=>by
  simp only [bM]
  exact eo (bC _) fun s=>eo (ku (Cz _ _) (Az _ _ _)) fun s'=>bC _
 | .rangeFunc ..,s=>by simp only [bM]; exact bC _
 | .scope _,s=>by simp only [bM]; exact bC _
 | .goto _,s=>by simp only [bM]; exact bC _
 | .refuse _,s=>by simp only [bM]; exact bC _
theorem kE (aS:FuncId→bR)(m:Nat)(f:FuncId)(args:List AV)(h:AHeap):wH fun cf=>a6 P aS cf m f args h:=by
 unfold a6
 refine eo (bC _) fun fn=>eo (bC _) fun c=>ku (eo (jI _ _ _ _) fun x=>bC _) (bC _)
end
def sI (P:Program)(T:pj)(m:Nat)(cf:CallF):CallF:=fun f args h=>
 match T.intr f with
 | some g=>g args h
 | none=>
  match T.pure f with
  | some deep=>if T.eV f then (br h deep args).bind fun us=>(a6 P T.aS cf m f us bo).bind fun x=>(dj h.next x.1).map fun r=>(r,h.eV x.2) else
    if cQ args then (a6 P T.aS cf m f (dH args) bo).bind fun x=>(bX x.2 deep x.1).map fun r=>(r,h) else
    match br h deep args with
    | some zs=>(a6 P T.aS cf m f zs bo).bind fun x=>(gI x.2 deep x.1).map fun r=>(r,h)
    | none=>a6 P T.aS cf m f (args.map aN) h
  | none=>a6 P T.aS cf m f (args.map aN) h
section
variable {P:Program}{T:pj}{m:Nat}
theorem xi (f:FuncId)(args:List AV)(h:AHeap):wH fun cf=>sI P T m cf f args h:=by
 unfold sI
 cases T.intr f with
 | some g=>exact bC _
 | none=>
  cases T.pure f with
  | none=>exact kE _ _ _ _ _
  | some deep=>
   refine ku (eo (bC _) fun us=>eo (kE _ _ _ _ _) fun x=>bC _) ?_
   refine ku (eo (kE _ _ _ _ _) fun x=>bC _) ?_
   cases br h deep args with
   | none=>exact kE _ _ _ _ _
   | some zs=>exact eo (kE _ _ _ _ _) fun x=>bC _
theorem uU:∀(n:Nat) (f:FuncId) (args:List AV) (h:AHeap) (x:AV × AHeap),fy P T m n f args h=some x→fy P T m (n+1) f args h=some x
 | 0,f,args,h,x,hc=>by simp [fy] at hc
 | n+1,f,args,h,x,hc=>by
  obtain⟨l,h1,h2⟩:=xi (P:=P) (T:=T) (m:=m) f args h _ _ hc
  exact h2 (fy P T m (n+1)) fun e he=>uU n _ _ _ _ (h1 e he)
theorem qJ {n k:Nat}(hk:n≤k){f:FuncId}{args:List AV}{h:AHeap}{x:AV × AHeap}(hc:fy P T m n f args h=some x):fy P T m k f args h=some x:=by
 induction hk with
 | refl=>exact hc
 | step _ ih=>exact uU _ _ _ _ _ ih
open Classical in
noncomputable def jB (P:Program)(T:pj)(m:Nat):CallF:=fun f args h=>if H:∃x n,fy P T m n f args h=some x then some (Classical.choose H) else none
theorem ml {f:FuncId}{args:List AV}{h:AHeap}{x:AV × AHeap}:jB P T m f args h=some x↔∃n,fy P T m n f args h=some x:=by
 have key:∀(H:∃x n,fy P T m n f args h=some x) (n:Nat),fy P T m n f args h=some x→Classical.choose H=x:=fun H n hn=>by
  obtain⟨k,hk⟩:=Classical.choose_spec H
  have h1:=qJ (Nat.le_max_left n k) hn
  have h2:=qJ (Nat.le_max_right n k) hk
  rw [h1] at h2
  exact (aa8 h2).symm
 unfold jB
 constructor
 ·intro hc
  split at hc
  ·rename_i H
   obtain⟨n,hn⟩:=Classical.choose_spec H
   cases hc
   exact⟨n,hn⟩
  ·cases hc
 ·rintro⟨n,hn⟩
  have H:∃x n,fy P T m n f args h=some x:=⟨x,n,hn⟩
  rw [dif_pos H,key H n hn]
theorem FO (l:List (FuncId × List AV × AHeap × (AV × AHeap)))(hl:∀e∈l,jB P T m e.1 e.2.1 e.2.2.1=some e.2.2.2):∃n,∀e∈l,fy P T m n e.1 e.2.1 e.2.2.1=some e.2.2.2:=by
 induction l with
 | nil=>exact⟨0,fun e he=>by cases he⟩
 | cons a l ih=>
  obtain⟨n,hn⟩:=ih fun e he=>hl e (ab0 _ he)
  obtain⟨k,hk⟩:=ml.1 (hl a List.mem_cons_self)
  refine⟨max n k,fun e he=>?_⟩
  rcases aa6.1 he with rfl | he
  ·exact qJ (Nat.le_max_right n k) hk
  ·exact qJ (Nat.le_max_left n k) (hn e he)
theorem mn {f:FuncId}{args:List AV}{h:AHeap}{x:AV × AHeap}(hc:sI P T m (jB P T m) f args h=some x):jB P T m f args h=some x:=by
 obtain⟨l,h1,h2⟩:=xi (P:=P) (T:=T) (m:=m) f args h _ _ hc
 obtain⟨n,hn⟩:=FO l h1
 exact ml.2 ⟨n+1,h2 (fy P T m n) hn⟩
theorem HH (hP:Fit P)(sE:IntrOK P T.intr):CallOK P (jB P T m):=fun f args h r h' hc=>by
 obtain⟨n,hn⟩:=ml.1 hc
 exact qC hP sE m n f args h r h' hn
theorem aO:Has bo []:=⟨fun j i c h=>by simp at h,fun j j' i c c' h=>by simp at h,ab9⟩
end
section
variable {P:Program}{T:pj}{m f deep:Nat}{h:AHeap}{xs ys:List AV}{y:AV}{x:AV × AHeap}
theorem Kt (h1:T.intr f=none)(h2:T.pure f=some deep)(h3:T.eV f=false)(hd:ie+bH≤deep)(hx:Au xs ys)(hb:∃r h',a6 P T.aS (jB P T m) m f ys bo=some (r,h')∧SV h' r y):jB P T m f xs h=some (y,h):=by
 obtain⟨r,h',hb,hf⟩:=hb
 refine mn ?_
 have hd:ie+4503599627370496≤deep:=abB (Nat.add_le_add_left (by decide) _) hd
 simp only [sI,h1,h2,h3,aaU,if_false,hx.1,if_true,hx.2,hb,aaG,hf deep hd,aaO]
theorem ba (h1:T.intr f=none)(h2:T.pure f=some deep)(h3:T.eV f=false)(hd:ie+bH≤deep)(hx:aP bH h xs ys)(hb:∃r h',a6 P T.aS (jB P T m) m f ys bo=some (r,h')∧eR h' r y):jB P T m f xs h=some (y,h):=by
 have h4:=hx deep hd
 have JG:ie+4503599627370496≤deep:=abB (Nat.add_le_add_left (by decide) _) hd
 by_cases hn:cQ xs=true
 ·have:=il deep xs ys hn h4
  obtain⟨r,h',hb,hf⟩:=hb
  exact Kt h1 h2 h3 hd ⟨hn,this.symm⟩ ⟨r,h',hb,hf.JT⟩
 ·obtain⟨r,h',hb,hf⟩:=hb
  refine mn ?_
  simp only [sI,h1,h2,h3,aaU,if_false,hn,h4,hb,aaG,hf deep JG,aaO]
theorem iq (h1:T.intr f=none)(h2:T.pure f=none)(hx:xs.map aN=ys)(hb:a6 P T.aS (jB P T m) m f ys h=some x):jB P T m f xs h=some x:=by
 refine mn ?_
 simp only [sI,h1,h2,hx,hb]
theorem Ku {g:List AV→AHeap→Option (AV × AHeap)}(h1:T.intr f=some g)(hx:g xs h=some x):jB P T m f xs h=some x:=by
 refine mn ?_
 simp only [sI,h1,hx]
theorem uV {g:List AV→AHeap→Option (AV × AHeap)}(h1:T.intr f=some g):jB P T m f xs h=g xs h:=by
 cases hg:g xs h with
 | some x=>exact Ku h1 hg
 | none=>
  cases hc:jB P T m f xs h with
  | none=>rfl
  | some x=>
   obtain⟨n,hn⟩:=ml.1 hc
   cases n with
   | zero=>simp [fy] at hn
   | succ n=>simp only [fy,h1,hg] at hn; cases hn
end
end Go.R
namespace Go.R
open Go
def aQ:List ai→List Nat→List (ai × Nat)
 | [],_=>[]
 | n::ns,ids=>(n,ids.headD 0)::aQ ns ids.tail
def MX (ids:List Nat)(i:Int):Nat:=ids.getD i.toNat 0
def yH (ns:List ai)(ids:List Nat):List Nat:=(aQ ns ids).map fun p=>p.2
def cj:bL (ai × Nat):={n:=4,f:=fun x=>[.int .i64 x.1.kind,.int .i64 x.1.int,.str x.1.label,.rs x.2 0 x.1.args.length 1],len:=fun _=>rfl,pos:=by decide,flat:=false,pure:=fun _ h=>(by cases h),canon:=fun _=>rfl}
def CA (p:ai × Nat):Nat × Ct:=(p.2,.sl p.1.args.length 1 (af.l p.1.args))
def dd (ns:List ai)(ids:List Nat):Mem:=(aQ ns ids).map CA
theorem eW:∀(ns:List ai) (ids:List Nat),(aQ ns ids).length=ns.length
 | [],_=>rfl
 | n::ns,ids=>by simp [aQ,eW ns]
theorem CB (ids:List Nat):ids.headD 0=ids.getD 0 0:=by cases ids<;>rfl
theorem FP (ids:List Nat)(i:Nat):ids.tail.getD i 0=ids.getD (i+1) 0:=by cases ids<;>simp
theorem qK:∀(ns:List ai) (ids:List Nat) (i:Nat) (n:ai),ns[i]? = some n→(aQ ns ids)[i]? = some (n,ids.getD i 0)
 | [],_,i,n,h=>by simp at h
 | a::ns,ids,0,n,h=>by
  simp only [abg,aaJ] at h
  subst h
  show (some (a,ids.headD 0):Option (ai × Nat))=some (a,ids.getD 0 0)
  rw [CB]
 | a::ns,ids,i+1,n,h=>by
  simp only [abK] at h
  have:=qK ns ids.tail i n h
  simp only [aQ,abK,this,FP]
theorem lJ {ns:List ai}{ids:List Nat}{i:Int}{n:ai}(h:ix ns i=some n):ix (aQ ns ids) i=some (n,MX ids i):=by
 obtain⟨h0,h1,h2⟩:=ia h
 unfold ix MX
 rw [if_pos h0,qK ns ids _ _ h2]
theorem uW:∀(ns:List ai) (ids:List Nat) (n:ai) (ad:Nat),aQ (ns++[n]) (yH ns ids++[ad])=aQ ns ids++[(n,ad)]
 | [],ids,n,ad=>rfl
 | a::ns,ids,n,ad=>by
  have:=uW ns ids.tail n ad
  simp only [yH,aQ,aa3,abm,List.headD_cons,List.tail_cons] at this ⊢
  rw [this]
theorem Kv (ns:List ai)(ids:List Nat)(n:ai)(ad:Nat):dd (ns++[n]) (yH ns ids++[ad])=dd ns ids++[CA (n,ad)]:=by
 unfold dd; rw [uW,abc]; rfl
theorem Has.perm {h:AHeap}{K K':Mem}(o:Has h K)(p:K'.Perm K):Has h K':=by
 have hP:K.Pairwise fun a b=>a.1≠0→a.1≠b.1:=by
  rw [List.pairwise_iff_getElem]
  intro i j hi hj BJ h0 he
  have:=o.nd i j K[i].1 K[i].2 K[j].2 (by rw [aaL hi]) (by rw [aaL hj,he]) h0
  omega
 have Tf:K'.Pairwise fun a b=>a.1≠0→a.1≠b.1:=(p.pairwise_iff (fun {a b} h h0 he=>h (by rw [←he]; exact h0) he.symm)).2 hP
 rw [List.pairwise_iff_getElem] at Tf
 refine⟨fun j i c hj=>?_,fun j j' i c c' hj BI h0=>?_,o.pos⟩
 ·obtain⟨j',BI⟩:=abv (p.mem_iff.1 (aaP hj))
  exact o.at_ j' i c BI
 ·obtain⟨a1,a2⟩:=aaM.1 hj
  obtain⟨b1,b2⟩:=aaM.1 BI
  rcases Nat.lt_trichotomy j j' with hl | hl | hl
  ·have:=Tf j j' a1 b1 hl
   rw [a2,b2] at this
   exact absurd rfl (this h0)
  ·exact hl
  ·have:=Tf j' j b1 a1 hl
   rw [a2,b2] at this
   exact absurd rfl (this h0)
section
variable {P:Program}{t t2 tf:TypeId}{h:AHeap}{pre L:Mem}{ns r:List ai}{ids:List Nat}{i ad k n2:Nat}{j a v:Int}{n:ai}
theorem yI (hx:ix ns j=some n):(pre++(dd ns ids++L))[pre.length+j.toNat]? = some (MX ids j,.sl n.args.length 1 (af.l n.args)):=by
 obtain⟨h0,h1,h2⟩:=ia hx
 rw [aaZ (by omega),abC]
 have hl:j.toNat<(dd ns ids).length:=by unfold dd; rw [aaY,eW]; omega
 rw [aaX hl]
 unfold dd
 rw [abd,qK ns ids _ _ h2]
 rfl
theorem Has.gone (o:Has h (pre++(dd ns ids++L))):Has h (pre++L):=by
 refine o.sub (fun q=>if q<pre.length then q else q+(dd ns ids).length) (fun q p hq=>?_) (fun q q' he=>?_)
 ·by_cases hl:q<pre.length
  ·rw [aaX hl] at hq
   rw [if_pos hl,aaX hl]; exact hq
  ·rw [aaZ (by omega)] at hq
   rw [if_neg hl,aaZ (by omega),aaZ (by omega),←hq]
   congr 1; omega
 ·split at he<;>split at he<;>omega
theorem MY {b:Nat}{kind int:Int}{label:ByteArray}{args:List Int}{x:AV}(T:Aq P t 4 b=true)(o:Has h ((i,.sl k 4 (cj.l (aQ ns ids)))::(ad,.sl n2 1 (af.l args))::(pre++(dd ns ids++L))))
  (hx:gp h 4 x=some ([.int .i64 kind,.int .i64 int,.str label,.rs ad 0 n2 1],1)) (ic:jm P t2 x=true) (hr:app b ns [⟨kind,int,label,args⟩]=some r) :
  ∃i' PM h',dN P h t t2 (.rs i 0 k 4) x=some (.rs i' 0 r.length 4,h')∧Has h' ((i',.sl r.length 4 (cj.l (aQ r PM)))::(pre++(dd r PM++L))):=by
 have hn:n2=args.length:=cO (E:=af) o (q:=1) rfl
 subst hn
 obtain⟨_,_,rfl⟩:=Ar hr
 have Co:app b (aQ ns ids) [((⟨kind,int,label,args⟩:ai),ad)]=some (aQ ns ids++[((⟨kind,int,label,args⟩:ai),ad)]):=by
  unfold app at hr ⊢
  rw [eW]
  split at hr
  ·rename_i hh
   simp only [aaW,aba] at hh ⊢
   rw [if_pos hh]
  ·cases hr
 have J4:gp h cj.n x=some (cj.l [((⟨kind,int,label,args⟩:ai),ad)],[((⟨kind,int,label,args⟩:ai),ad)].length):=hx
 obtain⟨i',h',e,o'⟩:=ju (E:=cj) (l:=aQ ns ids) (q:=0) T o rfl J4 ic Co
 have e:dN P h t t2 (.rs i 0 k 4) x=some (.rs i' 0 (aQ ns ids++[((⟨kind,int,label,args⟩:ai),ad)]).length 4,h'):=e
 refine⟨i',yH ns ids++[ad],h',?_,?_⟩
 ·rw [e,aaR,aaR,eW]; rfl
 ·rw [Kv,uW]
  have o':Has h' ((i',.sl (aQ ns ids++[((⟨kind,int,label,args⟩:ai),ad)]).length 4 (cj.l (aQ ns ids++[((⟨kind,int,label,args⟩:ai),ad)])))::CA (⟨kind,int,label,args⟩,ad)::(pre++(dd ns ids++L))):=o'
  have el:(ns++[(⟨kind,int,label,args⟩:ai)]).length=(aQ ns ids++[((⟨kind,int,label,args⟩:ai),ad)]).length:=by
   rw [aaR,aaR,eW]; rfl
  rw [el]
  refine o'.perm (List.Perm.cons _ ?_)
  have k1:pre++((dd ns ids++[CA ((⟨kind,int,label,args⟩:ai),ad)])++L)=(pre++dd ns ids)++CA (⟨kind,int,label,args⟩,ad)::L:=by simp
  have k2:pre++(dd ns ids++L)=(pre++dd ns ids)++L:=by simp
  rw [k1,k2]
  exact List.perm_middle
def cC:Nat:=2251799813685248
theorem AE:∀(ns:List ai) (ids:List Nat),(aQ ns ids).map (fun p=>p.1)=ns
 | [],_=>rfl
 | n::ns,ids=>by simp [aQ,AE ns]
theorem DU:∀(zs:List (ai × Nat)),(∀p∈zs,∀n,ie≤n→bX h n (.rs p.2 0 p.1.args.length 1)=some (af.fz p.1.args))→∀n,ie+4*zs.length+1≤n→br h n (cj.l zs)=some (ah.l (zs.map fun p=>p.1))
 | [],_,n,hn=>by
  obtain⟨m,rfl⟩:∃m,n=m+1:=⟨n - 1,by omega⟩
  rfl
 | p::zs,hz,n,hn=>by
  obtain⟨m,rfl⟩:∃m,n=m+4+1:=⟨n - 5,by simp only [aaW] at hn; simp only [ie] at hn; omega⟩
  simp only [aaW] at hn
  have h1:=DU zs (fun q hq=>hz q (by simp [hq])) (m+1) (by omega)
  have h2:=hz p (by simp) (m+1) (by omega)
  show br h (m+4+1) (.int .i64 p.1.kind :: .int .i64 p.1.int :: .str p.1.label :: .rs p.2 0 p.1.args.length 1::cj.l zs)=some (.int .i64 p.1.kind :: .int .i64 p.1.int :: .str p.1.label::af.fz p.1.args::ah.l (zs.map fun p=>p.1))
  have a1:∀(n:Nat) (k:IntKind) (z:Int),bX h (n+1) (.int k z)=some (.int k z):=fun _ _ _=>rfl
  have a2:∀(n:Nat) (s:ByteArray),bX h (n+1) (.str s)=some (.str s):=fun _ _=>rfl
  rw [show m+4+1=(m+1+1+1+1)+1 by omega]
  simp only [br,a1,a2,aaG,h1,h2,aaO]
theorem HI {q:Nat}(o:Has h (pre++(dd ns ids++L)))(hq:(pre++(dd ns ids++L))[q]? = some (i,.sl k 4 (cj.l (aQ ns ids)))):kX cC h (.rs i 0 k 4) (ah.fz ns):=by
 intro m hm
 have hk:k=(aQ ns ids).length:=cO (E:=cj) o hq
 rw [eW] at hk
 subst hk
 obtain⟨⟨⟨hlen,sr⟩,mE⟩,hlt⟩:=o.at_ _ _ _ hq
 have hlen:(cj.l (aQ ns ids)).length=ns.length*4:=hlen
 obtain⟨k,rfl,hk⟩:=mS (show ie≤m by omega)
 simp only [bX]
 rcases mE with⟨h0,h1⟩| ⟨h0,rest,h1⟩
 ·have:ns=[]:=by simpa using h1
  subst this
  simp [h0,bL.fz,bL.l]
 ·rw [if_neg h0,h1]
  simp only [aaG]
  have e1:((cj.l (aQ ns ids)++rest).drop 0).take (ns.length*4)=cj.l (aQ ns ids):=by
   rw [abl,abi (by omega),abo (by omega)]
  rw [if_pos (by rw [aaR,hlen]; omega),e1,DU (aQ ns ids) (fun p hp n hn=>?_) k (by rw [eW]; simp only [ie,cC] at hm ⊢; omega),AE]
  ·rfl
  ·obtain⟨j,hj,e⟩:=ab2 hp
   have Pn:(pre++(dd ns ids++L))[pre.length+j]? = some (p.2,.sl p.1.args.length 1 (af.l p.1.args)):=by
    have hl:j<(dd ns ids).length:=by unfold dd; rw [aaY]; exact hj
    rw [aaZ (by omega),abC,aaX hl]
    unfold dd
    rw [abd,aaL hj,e]; rfl
   exact eM (E:=af) (l:=p.1.args) o Pn (fun _=>rfl) rfl n hn
end
end Go.R
namespace Go.R
open Go
inductive zB
 | b (i:Nat) {x y:Bool} (h:x=y)
 | v (i:Nat) {e:Option AV} {z:AV} (h:e=some z)
 | w (i:Nat) {e:Option AHeap} {g:AHeap} (h:e=some g)
 | a (i:Nat) {e:Option (AV × AHeap)} {z:AV} {g:AHeap} (h:e=some (z,g))
 | m (i:Nat) {e:AV × AHeap} {z:AV} {g:AHeap} (h:e=(z,g))
def zB.Ym:zB→Nat × AV × Option AHeap
 | @b i x y h=>(i,.bool y,none)
 | @v i e z h=>(i,z,none)
 | @w i e g h=>(i,.any,some g)
 | @a i e z g h=>(i,z,some g)
 | @m i e z g h=>(i,z,some g)
def zB.fr:zB→AV × AHeap
 | @a i e z g h=>(z,g)
 | _=>(.any,bo)
def zB.p:zB→Prop
 | @b i x y h=>AV.bool x=AV.bool y
 | @v i e z h=>e=some z
 | @w i e g h=>e=some g
 | @a i e z g h=>e=some (z,g)
 | @m i e z g h=>e=(z,g)
theorem zB.ok:∀g:zB,g.p
 | @b i x y h=>congrArg AV.bool h
 | @v i e z h=>h
 | @w i e g h=>h
 | @a i e z g h=>h
 | @m i e z g h=>h
def AF:List zB→JK
 | []=>[]
 | g::gs=>g.Ym::AF gs
def FQ:List zB→List (AV × AHeap)
 | []=>[]
 | g::gs=>g.fr::FQ gs
def ps:List zB→Prop
 | []=>True
 | g::gs=>g.p∧ps gs
theorem AG:∀gs,ps gs
 | []=>trivial
 | g::gs=>⟨g.ok,AG gs⟩
def cA:Code→Code
 | .seq a _=>a
 | .cond _ a _=>a
 | .block _ a=>a
 | .loop a=>a
 | _=>.skip
def cB:Code→Code
 | .seq _ b=>b
 | .cond _ _ b=>b
 | _=>.skip
def kd:Code→Nat
 | .skip=>0
 | .ret=>1
 | .seq _ _=>2
 | .loop _=>3
 | _=>9
def Tg:Code→Option Nat
 | .exit i=>some i
 | _=>none
def Th:Code→Option Nat
 | .block i _=>some i
 | _=>none
def Tk (A:bR)(c:Code)(s:St):Option AV:=
 match c with
 | .cond k _ _=>some (bQ (s.open A).ρ k)
 | _=>none
def nx (P:Program)(cf:CallF)(A:bR)(c:Code)(fs gs:List zB)(s:St):St:=((ou P cf A c (FQ fs) (AF gs) s).map (·.2)).getD s
section
variable {P:Program}{cf:CallF}{A:bR}{m:Nat}{c:Code}{s:St}{Q R:Ex→St→Prop}
theorem OA (fs gs:List zB)(hQ:Q .norm (nx P cf A c fs gs s))(h:(ou P cf A c (FQ fs) (AF gs) s).map (·.1)=some (ps fs∧ps gs):=by kernel_rfl):cZ P cf A m c s Q:=by
 unfold nx at hQ
 obtain⟨⟨p,s'⟩,h1,rfl⟩:=aaI.1 h
 rw [h1] at hQ
 exact An h1 ⟨AG fs,AG gs⟩ hQ
theorem qr (gs:List zB)(hQ:Q .norm (nx P cf A c [] gs s))(h:(ou P cf A c [] (AF gs) s).map (·.1)=some (True∧ps gs):=by kernel_rfl):cZ P cf A m c s Q:=OA [] gs hQ h
theorem q0 (hQ:Q .norm (nx P cf A c [] [] s))(h:(ou P cf A c [] [] s).map (·.1)=some (True∧True):=by kernel_rfl):cZ P cf A m c s Q:=OA [] [] hQ h
theorem V9 (h:kd c=2):c = .seq (cA c) (cB c):=by cases c<;>first | rfl | cases h
theorem qq (hQ:cZ P cf A m (cA c) s (MK (fun s'=>cZ P cf A m (cB c) s' Q) Q))(h:kd c=2:=by kernel_rfl):cZ P cf A m c s Q:=by rw [V9 h]; exact Am hQ
theorem Wa (fs gs:List zB)(hQ:cZ P cf A m (cB c) (nx P cf A (cA c) fs gs s) Q)(h:kd c=2:=by kernel_rfl)(h2:(ou P cf A (cA c) (FQ fs) (AF gs) s).map (·.1)=some (ps fs∧ps gs):=by kernel_rfl):cZ P cf A m c s Q:=qq (OA fs gs hQ h2) h
theorem qs (gs:List zB)(hQ:cZ P cf A m (cB c) (nx P cf A (cA c) [] gs s) Q)(h:kd c=2:=by kernel_rfl)(h2:(ou P cf A (cA c) [] (AF gs) s).map (·.1)=some (True∧ps gs):=by kernel_rfl):cZ P cf A m c s Q:=Wa [] gs hQ h h2
theorem q1 (hQ:cZ P cf A m (cB c) (nx P cf A (cA c) [] [] s) Q)(h:kd c=2:=by kernel_rfl)(h2:(ou P cf A (cA c) [] [] s).map (·.1)=some (True∧True):=by kernel_rfl):cZ P cf A m c s Q:=Wa [] [] hQ h h2
theorem qk (hQ:Q .norm s)(h:kd c=0:=by kernel_rfl):cZ P cf A m c s Q:=by
 have:c = .skip:=by cases c<;>first | rfl | cases h
 rw [this]; exact FF hQ
theorem qt (hQ:Q .ret s)(h:kd c=1:=by kernel_rfl):cZ P cf A m c s Q:=by
 have:c = .ret:=by cases c<;>first | rfl | cases h
 rw [this]; exact Hp hQ
theorem qx (i:Nat)(hQ:Q (.exit i) s)(h:Tg c=some i:=by kernel_rfl):cZ P cf A m c s Q:=by
 have:c = .exit i:=by cases c<;>first | (cases h; rfl) | cases h
 rw [this]; exact FG hQ
theorem qb (i:Nat)(hQ:cZ P cf A m (cA c) s (SS i Q))(h:Th c=some i:=by kernel_rfl):cZ P cf A m c s Q:=by
 have:c = .block i (cA c):=by cases c<;>first | (cases h; rfl) | cases h
 rw [this]; exact Cr hQ
theorem qc {α:Type}{b:Bool}{x y z:Option α}(H:(if b=true then x else y)=z)(ht:b=true→x=z→cZ P cf A m (cA c) s Q)(hf:b=false→y=z→cZ P cf A m (cB c) s Q)(h:Tk A c s=some (.bool b):=by kernel_rfl):cZ P cf A m c s Q:=by
 cases c<;>first | cases h | skip
 rename_i k a e
 exact rI b (aa8 h) (fun hb=>ht hb (Yk hb H)) (fun hb=>hf hb (Yl hb H))
theorem BK (hQ:cZ P cf A m (cA c) s Q)(h:Tk A c s=some (.bool true):=by kernel_rfl):cZ P cf A m c s Q:=by
 cases c<;>first | cases h | skip
 exact rI true (aa8 h) (fun _=>hQ) (fun hb=>by cases hb)
theorem JM (hQ:cZ P cf A m (cB c) s Q)(h:Tk A c s=some (.bool false):=by kernel_rfl):cZ P cf A m c s Q:=by
 cases c<;>first | cases h | skip
 exact rI false (aa8 h) (fun hb=>by cases hb) (fun _=>hQ)
theorem ql {c':Code}(h:cZ P cf A m c' s Q)(k:∀e s',Q e s'→R e s')(hc:c=c':=by kernel_rfl):cZ P cf A m c s R:=by rw [hc]; exact xd h k
theorem qj {α β:Type}{S:α→St→Prop}(f:α→Option β){out:β}{z:Option β}(h0:z=some out)(hB:∀σ s,S σ s→f σ=some out→cZ P cf A m (cB c) s Q)
  (hA:(∀σ s,S σ s→f σ=some out→cZ P cf A m (cB c) s Q)→cZ P cf A m (cA c) s (MK (fun s'=>cZ P cf A m (cB c) s' Q) Q)) (h:kd c=2:=by kernel_rfl):cZ P cf A m c s Q:=by
 rw [V9 h]; exact Am (hA hB)
end
def cY {S O:Type}(P:Program)(cf:CallF)(A:bR)(m:Nat)(c:Code)(l:Nat→S→Option O)(R:S→St→Prop)(Q:O→Ex→St→Prop):Prop:=∀σ s out,R σ s→l m σ=some out→cZ P cf A m (.loop c) s (Q out)
theorem ln {S O:Type}{P:Program}{cf:CallF}{A:bR}{m:Nat}{c:Code}{l:Nat→S→Option O}{R:S→St→Prop}{Q:O→Ex→St→Prop}(h0:∀σ,l 0 σ=none)
  (step:∀k σ s out,R σ s→l (k+1) σ=some out→cZ P cf A m c s (Hq l R Q k out)):cY P cf A m c l R Q:=fun _ _ _ hr H=>FH l R Q h0 step hr H (fun _ _ _ h=>h)
def MZ:Nat→List Nat→List Nat
 | _,[]=>[]
 | k,x::xs=>bif abq (k % 2) 1 then x::MZ (k / 2) xs else MZ (k / 2) xs
def PN (keep:List Nat):Nat→List Nat→List (Nat × List Nat)
 | _,[]=>[]
 | r,k::ks=>(r,MZ k keep)::PN keep (r+1) ks
def gC (keep aH ms:List Nat)(JT B3:List (Nat × List (Nat × Option Nat × Nat))):bR:={keep:=keep,aH:=aH,dead:=PN keep 0 ms,JT:=JT,B3:=B3}
theorem du {α:Type}{b:Bool}{x y z:α}(H:(if b=true then x else y)=z):(b=true∧x=z)∨(b=false∧y=z):=by
 cases b with
 | true=>exact .inl ⟨rfl,H⟩
 | false=>exact .inr ⟨rfl,H⟩
theorem oi {α:Type}{a b:α}(h:some a=some b):a=b:=aa8 h
theorem wI {P:Program}{A:bR}{s:St}{rs:List ResultVar}{y:AV}(av:AV)(g:AHeap)(h:eR g av y)(h1:aE P (s.open A) rs=some av:=by kernel_rfl)(h2:s.h=g:=by kernel_rfl):∃av,aE P (s.open A) rs=some av∧eR s.h av y:=⟨av,h1,h2 ▸ h⟩
theorem he {g g':AHeap}{K:Mem}(o:Has g K)(h:g'=g:=by kernel_rfl):Has g' K:=h ▸ o
end Go.R
namespace Go.R
open Go Go.Proofs Go.Shelf Go.RowKit Go.Sort
def pO:List AV→Option (List Int)
 | []=>some []
 | .int .i64 z::xs=>(pO xs).map fun l=>z::l
 | _=>none
theorem oz:∀{xs:List AV} {l:List Int},pO xs=some l→xs=l.map fun z=>.int .i64 z
 | [],l,h=>by cases h; rfl
 | x::xs,l,h=>by
  unfold pO at h
  split at h
  ·rename_i e; cases e
  ·rename_i z ys e
   obtain⟨rfl,rfl⟩:=List.cons.inj e
   obtain⟨l',h1,rfl⟩:=aaI.1 h
   rw [oz h1]; rfl
  ·cases h
theorem uX:∀l:List Int,pO (l.map fun z=>.int .i64 z)=some l
 | []=>rfl
 | z::l=>by simp only [aa3,pO,uX l,aaO]
def kZ (l:List Int):List Int:=l.mergeSort fun x y=>decide (x≤y)
noncomputable def M0 (args:List AV)(h:AHeap):Option (AV × AHeap):=
 match args with
 | [.rs id 0 n 1]=>if n=0 then some (.tup [],h) else (h.get id).bind fun
  | .cells cs=>if n≤cs.length∧n<4611686018427387904 then (pO (cs.take n)).map fun l=>(.tup [],h.put id (.cells ((kZ l).map (fun z=>.int .i64 z)++cs.drop n))) else none
  | _=>none
 | _=>none
theorem FR:∀args h r h',M0 args h=some (r,h')→Steady h h':=by
 intro args h r h' hs
 unfold M0 at hs
 split at hs
 ·split at hs
  ·cases hs; exact Steady.refl _
  ·rw [aaH] at hs
   obtain⟨o,_,hs⟩:=hs
   split at hs
   ·split at hs
    ·obtain⟨l,_,hs⟩:=aaI.1 hs
     cases hs; exact Steady.put _ _ _
    ·cases hs
   ·cases hs
 ·cases hs
section
variable {c:Cx}{L0:Nat→Prop}
theorem FT (hrel:HRel c L0){id n:Nat}{cs:List AV}{l:List Int}(hid:c.h.get id=some (.cells cs))(hl:pO (cs.take n)=some l):Holds (Value.int .i64) c.w (c.β id).1 (c.β id).2 l.toArray:=by
 obtain⟨m,⟨C,T,hC,hn⟩,hle,hcl⟩:=hrel.obj _ _ hid
 intro j hj
 have hj:j<l.length:=by simpa using hj
 have hx:cs[j]? = some (.int .i64 l[j]):=by
  have h1:(cs.take n)[j]? = some (.int .i64 l[j]):=by rw [oz hl,abd,aaL hj]; rfl
  rw [List.getElem?_take] at h1
  split at h1
  ·exact h1
  ·cases h1
 obtain⟨v,h1,_,h3⟩:=hcl.get' j _ hx
 simp only [VR] at h3
 subst h3
 refine⟨by rw [h1]; simp [hj],by simp [World.frozen?,hC]⟩
theorem Kw (hrel:HRel c L0)(hbs:c.base≤c.w.heap.size){id n:Nat}{cs:List AV}{new:List Int}(hid:c.h.get id=some (.cells cs))(hn:n≤cs.length)(hnew:new.length=n)(q:Nat)(os:Array Obj) :
  let w':=grow (putRow (Value.int .i64) (Sort.ahead c.w q) (c.β id).1 (c.β id).2 new.toArray) os
  let c':Cx:=⟨c.β,c.h.put id (.cells (new.map (fun z=>.int .i64 z)++cs.drop n)),w',c.base⟩
  HRel c' L0∧Ext c none0 c' none0∧c'.len (c.β id).1=c.len (c.β id).1:=by
 intro w' c'
 have hun:un L0 none0=L0:=by funext b; simp [un,none0]
 have f:=Fr.none hrel
 obtain⟨m,⟨C,T,hC,hm⟩,hle,hcl⟩:=hrel.obj _ _ hid
 have hlive:Live c.h id:=⟨hrel.lt _ _ hid,by rw [hid]; rfl⟩
 have hblt:(c.β id).1<c.w.heap.size:=(abj.1 hC).1
 have sY:∀k,k<c.w.heap.size→w'.heap[k]? = if k=(c.β id).1 then some (.cells (putCells (Value.int .i64) (c.β id).2 new.toArray C) T (0,0)) else c.w.heap[k]?:=fun k hk=>by
  show (grow _ os).heap[k]? = _
  rw [heap_grow_old _ _ (by simp [putRow,mapBlock,Sort.ahead]; exact hk)]
  by_cases h:k=(c.β id).1
  ·subst h; simp [putRow,mapBlock,Sort.ahead,abS,hC,onCells]
  ·have h2:(c.β id).1≠k:=fun e=>h e.symm
   simp [putRow,mapBlock,Sort.ahead,abS,h,h2]
 have wk:w'.heap[(c.β id).1]? = some (.cells (putCells (Value.int .i64) (c.β id).2 new.toArray C) T (0,0)):=by rw [sY _ hblt,if_pos rfl]
 have hsz:(putCells (Value.int .i64) (c.β id).2 new.toArray C).size=C.size:=by simp [putCells]
 have hlen:((w'.shape? (c.β id).1).map (·.2)).getD 0=c.len (c.β id).1:=by
  simp only [Cx.len,World.shape?,wk,hC,aaO,abG,hsz]
 have PO:c.w.heap.size≤w'.heap.size:=by
  show _≤(grow _ os).heap.size
  simp [grow,putRow,mapBlock,Sort.ahead]
 obtain⟨e2,f2⟩:=f.upd (w':=w') (β':=c.β) (h':=c.h.put id (.cells (new.map (fun z=>.int .i64 z)++cs.drop n))) id (.cells (new.map (fun z=>.int .i64 z)++cs.drop n)) (Steady.put _ _ _) (ab1 hlive.1) (by simp [AHeap.put,beq_nat])
  (fun j hj=>.inr ⟨by simp [AHeap.put,beq_nat,hj],rfl⟩) (fun _=>⟨hlive,rfl⟩) (.inr ⟨id,hlive,rfl,.inl rfl⟩)
  (fun _=>hlen) (fun k hk hne=>by rw [sY k hk,if_neg hne]) (fun k hk hne=>by rw [sY k (by omega),if_neg hne]) PO hbs rfl rfl rfl
  (fun ee=>by
   refine⟨C.size,⟨_,T,wk,hsz⟩,by rw [aaR,aaY,List.length_drop,hnew]; omega,?_⟩
   rw [Cells.iff]
   intro i x hx
   show ∃v,w'.cell? _=some v∧_
   rw [cell_of_block wk]
   have hi:i<cs.length:=by
    have:=(aaM.1 hx).1
    rw [aaR,aaY,List.length_drop,hnew] at this; omega
   have Yn:(putCells (Value.int .i64) (c.β id).2 new.toArray C)[(c.β id).2+i]? = C[(c.β id).2+i]?.map fun x=>if (c.β id).2≤(c.β id).2+i∧(c.β id).2+i<(c.β id).2+new.toArray.size then Value.int .i64 new.toArray[(c.β id).2+i - (c.β id).2]! else x:=by
    unfold putCells; rw [Array.getElem?_mapIdx]
   rw [Yn]
   by_cases h:i<n
   ·rw [aaX (by rw [aaY,hnew]; exact h),abd,aaL (by omega)] at hx
    simp only [aaO,aaJ] at hx
    subst hx
    have Yo:(c.β id).2+i<C.size:=by omega
    rw [Array.getElem?_eq_getElem Yo]
    refine⟨.int .i64 new[i],?_,rfl,by simp [VR]⟩
    simp only [aaO,aaJ]
    rw [if_pos ⟨by omega,by simp [hnew]; exact h⟩,abC]
    simp [show i<new.length by omega]
   ·rw [aaZ (by rw [aaY,hnew]; omega),aaY,hnew,List.getElem?_drop,show n+(i - n)=i by omega] at hx
    obtain⟨v,v1,v2,v3⟩:=hcl.get' i x hx
    rw [cell_of_block hC] at v1
    refine⟨v,?_,v2,?_⟩
    ·rw [v1]
     simp only [aaO,aaJ]
     rw [if_neg (by simp [hnew]; omega)]
    ·have:=VR.ext ee (L0:=L0) x v (by rw [hun]; exact v3)
     exact this)
 exact⟨by have:=f2.rel; rwa [hun] at this,e2,hlen⟩
end
section
variable {P:Program}{ρ:Ren}
theorem PQ (L:Lays.n189 P ρ)(henter:∀(vs:Array Value) (w:World),(callFunc (ρ.f 189) vs).run P w = .ok (.enter (ρ.f 189) vs) w) :
  CallOK P fun f' args h=>if f'=ρ.f 189 then M0 args h else none:=by
 intro f args h r h' hc
 dsimp only at hc
 split at hc
 rotate_left
 ·cases hc
 rename_i hf
 subst hf
 refine⟨henter,fun L0 c vs hh hb0 hrel hargs=>?_⟩
 subst hh
 unfold M0 at hc
 split at hc
 rotate_left
 ·cases hc
 rename_i id n
 match vs,hargs with
 | [v1],⟨q1,_⟩=>
 split at hc
 ·rename_i hn
  subst hn
  cases hc
  have hs:∃a cap,v1 = .slice a 0 cap:=by
   simp only [VR] at q1
   rcases q1 with⟨_,_,_,a,rfl⟩| ⟨_,_,a,cap,rfl,_⟩
   ·exact⟨a,0,rfl⟩
   ·exact⟨a,cap,rfl⟩
  obtain⟨a,cap,rfl⟩:=hs
  refine (Any.slices_Sort_int_none L a cap c.w).mono ?_
  rintro e w' ⟨rfl,rfl⟩
  exact⟨c,_,rfl,rfl,rfl,by simp only [VR]; exact⟨#[],rfl,trivial⟩,hrel,Ext.refl _ _⟩
 ·rename_i hn
  rw [aaH] at hc
  obtain⟨o,hid,hc⟩:=hc
  split at hc
  rotate_left
  ·cases hc
  rename_i cs
  split at hc
  rotate_left
  ·cases hc
  rename_i hle
  obtain⟨l,hl,he⟩:=aaI.1 hc
  simp only [aaQ] at he
  obtain⟨rfl,rfl⟩:=he
  have hlive:Live c.h id:=⟨hrel.lt _ _ hid,by rw [hid]; rfl⟩
  have hll:l.length=n:=by
   have:=congrArg List.length (oz hl)
   rw [aaY,abz] at this; omega
  simp only [VR] at q1
  rcases q1 with⟨_,_,h0,_⟩| ⟨_,_,a,cap,rfl,h1,h2,h3⟩
  ·exact absurd h0 hn
  rcases h3 hlive with⟨rfl,h4⟩| h4
  rotate_left
  ·omega
  have hc:=Any.slices_Sort_int L (c.β id).1 (c.β id).2 cap l c.w (FT hrel hid hl) (hrel.block hlive) (by omega)
  rw [hll] at hc
  refine hc.mono ?_
  rintro e w' ⟨rfl,q,os,rfl⟩
  have hsl:(kZ l).length=n:=by unfold kZ; rw [List.length_mergeSort,hll]
  obtain⟨g1,g2,_⟩:=Kw hrel hb0 hid hle.1 hsl q os
  exact⟨_,_,rfl,rfl,rfl,by simp only [VR]; exact⟨#[],rfl,trivial⟩,g1,g2⟩
end
end Go.R
namespace Go.R
open Go
def LR (cf:CallF)(f:FuncId):Prop:=∀args h,cf f args h=M0 args h
theorem rO (l:List Int):af.l l=l.map fun z=>.int .i64 z:=by
 induction l with
 | nil=>rfl
 | cons a l ih=>rw [bL.fo,ih]; rfl
theorem kG (l:List Int):(kZ l).length=l.length:=by unfold kZ; rw [List.length_mergeSort]
section
variable {h:AHeap}{L:Mem}{i n:Nat}{l:List Int}{cf:CallF}{f:FuncId}
theorem Kx (o:Has h ((i,.sl n 1 (af.l l))::L))(hn:n≠0):n=l.length∧i≠0∧l.length<4611686018427387904∧∃rest,h.get i=some (.cells (l.map (fun z=>.int .i64 z)++rest)):=by
 obtain⟨⟨⟨h1,h2⟩,h3⟩,_⟩:=o.at_ 0 _ _ rfl
 have hl:(af.l l).length=l.length:=by rw [rO,aaY]
 rw [hl] at h1 h2
 rcases h3 with⟨_,h⟩| ⟨h,rest,h4⟩
 ·exact absurd h hn
 ·rw [rO] at h4
  exact⟨by omega,h,by omega,rest,h4⟩
theorem M3 (o:Has h ((i,.sl 0 1 (af.l l))::L)):l=[]:=by
 obtain⟨⟨⟨h1,_⟩,_⟩,_⟩:=o.at_ 0 _ _ rfl
 rw [rO,aaY] at h1
 exact abt (by omega)
theorem HJ (S:LR cf f)(o:Has h ((i,.sl n 1 (af.l l))::L)):∃h',cf f [.rs i 0 n 1] h=some (.tup [],h')∧Has h' ((i,.sl n 1 (af.l (kZ l)))::L):=by
 rw [S]
 by_cases hn:n=0
 ·subst hn
  have:=M3 o
  subst this
  have e:kZ []=[]:=by simp [kZ]
  exact⟨h,rfl,by rw [e]; exact o⟩
 ·obtain⟨h1,h2,h3,rest,h4⟩:=Kx o hn
  subst h1
  have et:(l.map (fun z=>AV.int .i64 z)++rest).take l.length=l.map fun z=>AV.int .i64 z:=by
   rw [abi (by simp),abo (by simp)]
  have ed:(l.map (fun z=>AV.int .i64 z)++rest).drop l.length=rest:=by
   have:=List.drop_left (l₁:=l.map fun z=>AV.int .i64 z) (l₂:=rest)
   rwa [aaY] at this
  refine⟨h.put i (.cells ((kZ l).map (fun z=>.int .i64 z)++rest)),?_,?_⟩
  ·unfold M0
   simp only
   rw [if_neg hn,h4,aaG]
   simp only
   rw [if_pos ⟨by simp,h3⟩,et,uX,aaO,ed]
  ·refine jP (q:=0) o rfl (ob:=.cells ((kZ l).map (fun z=>.int .i64 z)++rest)) (c':=.sl l.length 1 (af.l (kZ l))) ⟨⟨?_,?_⟩,.inr ⟨h2,rest,by rw [dc,if_pos rfl,rO]⟩⟩
   ·rw [rO,aaY,kG]; omega
   ·have:=(o.at_ 0 _ _ rfl).1.1.2
    rw [rO,aaY] at this ⊢
    rw [kG]; exact this
end
end Go.R
namespace Go.R
open Go
def BL (z:Nat)(args:List AV)(h:AHeap):Option (AV × AHeap):=
 match args with
 | [.nils]=>some (.rs 0 0 0 z,h)
 | [.fz cs n _]=>if n=0 then some (.rs 0 0 0 z,h) else if cs.length=n*z∧n*1024≤1099511627776 then some (.rs h.next 0 n z,h.alloc (.cells (cs.map kK))) else none
 | [.rs id 0 n z']=>if n=0 then some (.rs 0 0 0 z,h) else (h.get id).bind fun
  | .cells cs=>if z'=z∧n*z≤cs.length∧n*1024≤1099511627776 then some (.rs h.next 0 n z,h.alloc (.cells ((cs.take (n*z)).map kK))) else none
  | _=>none
 | _=>none
def HK (cf:CallF)(f:FuncId)(z:Nat):Prop:=∀args h,cf f args h=BL z args h
def Ky (z:Nat){α:Type}(l:List α):Option (List α):=if l.length*1024≤1099511627776 then some l else none
theorem HL {z:Nat}{α:Type}{l r:List α}(h:Ky z l=some r):l.length*1024≤1099511627776∧r=l:=by
 unfold Ky at h
 split at h
 ·rename_i g; cases h; exact⟨g,rfl⟩
 ·cases h
section
variable {h:AHeap}{K:Mem}{i n q:Nat}{α:Type}{E:bL α}{l r:List α}{cf:CallF}{f:FuncId}
theorem M4 (o:Has h K)(hl:l≠[])(hb:l.length*1024≤1099511627776):Has (h.alloc (.cells (E.l l))) ((h.next,.sl l.length E.n (E.l l))::K):=
 o.new (fun k hk=>by rw [AHeap.alloc,dc,if_neg (by omega)]) (abV _) (.inr (aaN _)) (aby _) ⟨⟨bL.bS,bL.oV (by omega)⟩,.inr ⟨by have:=o.pos; omega,[],by rw [AHeap.alloc,dc,if_pos rfl]; simp⟩⟩
theorem Kz (o:Has h K):Has h ((0,.sl ([]:List α).length E.n (E.l []))::K):=Has.nil o E.n
theorem LS (S:HK cf f E.n)(o:Has h K)(hr:Ky E.n l=some r):∃i h',cf f [E.fz l] h=some (.rs i 0 r.length E.n,h')∧Has h' ((i,.sl r.length E.n (E.l r))::K):=by
 obtain⟨hb,rfl⟩:=HL hr
 rw [S]
 by_cases hl:r=[]
 ·subst hl
  exact⟨0,h,rfl,Kz o⟩
 ·have hn:r.length≠0:=fun e=>hl (abt e)
  refine⟨h.next,_,?_,M4 o hl hb⟩
  show BL E.n [.fz (E.l r) r.length false] h=_
  unfold BL
  simp only
  rw [if_neg hn,if_pos ⟨bL.bS,hb⟩,bL.DN]
end
end Go.R
namespace Go.R
open Go
section
variable {h:AHeap}{K:Mem}{i q off k:Nat}{cs ys:List AV}
theorem eC (o:Has h K)(hq:K[q]? = some (i,.ob cs))(f:aP k h cs ys):kX (k+1) h (.ptr i off) (.fp ys off):=fun n hn=>by
 obtain⟨m,rfl⟩:∃m,n=m+1:=⟨n - 1,by simp only [ie] at hn; omega⟩
 obtain⟨⟨_,h2⟩,_⟩:=o.at_ _ _ _ hq
 simp only [bX,h2,aaG]
 rw [f m (by omega)]; rfl
theorem lK (hp:cQ cs=true∧dH cs=cs):(AV.fp cs off).eu=true∧(AV.fp cs off).j5 = .fp cs off:=⟨by simpa [AV.eu] using hp.1,by show AV.fp (dH cs) off=_; rw [hp.2]⟩
theorem fE (hp:cQ cs=true∧dH cs=cs):kX 0 h (.fp cs off) (.fp cs off):=mT (lK hp).1 (fun _=>rfl) (lK hp).2
end
end Go.R
namespace Go.R
open Go
def s9:List (AHeap × AHeap × Nat)→Prop
 | []=>True
 | (h,h',i)::l=>h.ver i=h'.ver i∧s9 l
theorem qL:∀{a b:List (AHeap × AHeap × Nat)},s9 (a++b)→s9 a∧s9 b
 | [],b,h=>⟨trivial,h⟩
 | (_,_,_)::a,b,h=>by
  have:=qL (a:=a) h.2
  exact⟨⟨h.1,this.1⟩,this.2⟩
theorem AH:∀{l:List Nat} {h h':AHeap},s9 (l.map fun id=>(h,h',id))→∀id∈l,h.ver id=h'.ver id
 | i::l,h,h',hp,id,hm=>by
  rcases aa6.1 hm with rfl | hm
  ·exact hp.1
  ·exact AH hp.2 id hm
def M8 (x y:nz):Bool:=
 match x.f.wb with
 | some k=>!y.f.rb.contains k&&y.f.wb != some k
 | none=>true
def yJ (x y:nz):Option (List (AHeap × AHeap × Nat)):=
 bif M8 x y then (bif x.f.wh then (bif y.f.wh then none else some (y.f.rh.map fun id=>(x.s.h,x.s'.h,id))) else some []) else none
theorem xj {x y:nz}{l:List (AHeap × AHeap × Nat)}(h:yJ x y=some l)(hp:s9 l):x.j6 y=true:=by
 have he:x.j6 y=(M8 x y&&(!x.f.wh||(!y.f.wh&&y.f.rh.all fun id=>abq (x.s.h.ver id) (x.s'.h.ver id)))):=rfl
 rw [he]
 unfold yJ at h
 cases h1:M8 x y with
 | false=>rw [h1] at h; cases h
 | true=>
  rw [h1,cond_true] at h
  cases hw:x.f.wh with
  | false=>rfl
  | true=>
   rw [hw,cond_true] at h
   cases hy:y.f.wh with
   | true=>rw [hy] at h; cases h
   | false=>
    rw [hy,cond_false] at h
    cases h
    simp only [abM,Bool.false_or,Bool.not_false,abL,aa1]
    intro id hid
    rw [AH hp id hid,Nat.beq_refl]
def AI (ms:List Nat)(x:nz)(i:Nat):List (nz × Nat)→Option (List (AHeap × AHeap × Nat))
 | []=>some []
 | y::l=>bif ab7 y.2 i||(ms.getD y.2 0).testBit i then AI ms x i l else (yJ x y.1).bind fun a=>(yJ y.1 x).bind fun b=>(AI ms x i l).map fun c=>a++(b++c)
theorem HM {ms:List Nat}{x:nz}{i:Nat}(l:List (nz × Nat)):∀{v:List (AHeap × AHeap × Nat)},AI ms x i l=some v→s9 v→∀p∈l,(ab7 p.2 i||(ms.getD p.2 0).testBit i||(x.j6 p.1&&p.1.j6 x))=true:=by
 induction l with
 | nil=>intro v _ _ p hm; cases hm
 | cons y l ih=>
  intro v h hp p hm
  simp only [AI] at h
  cases hc:(ab7 y.2 i||(ms.getD y.2 0).testBit i) with
  | true=>
   rw [hc,cond_true] at h
   rcases aa6.1 hm with rfl | hm
   ·rw [hc,Bool.true_or]
   ·exact ih h hp p hm
  | false=>
   rw [hc,cond_false] at h
   simp only [aaH,aaI] at h
   obtain⟨a,ha,b,hb,c,hc,rfl⟩:=h
   obtain⟨p1,p2⟩:=qL hp
   obtain⟨p2,p3⟩:=qL p2
   rcases aa6.1 hm with rfl | hm
   ·rw [xj ha p1,xj hb p2,Bool.and_self,Bool.or_true]
   ·exact ih hc p3 p hm
def DV (ms:List Nat)(all:List (nz × Nat)):List (nz × Nat)→Option (List (AHeap × AHeap × Nat))
 | []=>some []
 | x::l=>(AI ms x.1 x.2 all).bind fun a=>(DV ms all l).map fun b=>a++b
theorem HN {ms:List Nat}{all:List (nz × Nat)}(l:List (nz × Nat)):∀{v:List (AHeap × AHeap × Nat)},DV ms all l=some v→s9 v→∀x∈l,∀p∈all,(ab7 p.2 x.2||(ms.getD p.2 0).testBit x.2||(x.1.j6 p.1&&p.1.j6 x.1))=true:=by
 induction l with
 | nil=>intro v _ _ x hm; cases hm
 | cons y l ih=>
  intro v h hp x hm
  simp only [DV,aaH,aaI] at h
  obtain⟨a,ha,b,hb,rfl⟩:=h
  obtain⟨p1,p2⟩:=qL hp
  rcases aa6.1 hm with rfl | hm
  ·exact HM all ha p1
  ·exact ih hb p2 x hm
def M9 (ops:List Oper)(arr:Array Oper)(s:RS)(es:List nz):Option (List (AHeap × AHeap × Nat)):=
 let ms:=kc [] ops
 let is:=es.zipIdx
 let xV:=is.filter fun (x,_)=>!x.f.quiet
 if oO arr ms&&xV.all (fun (x,i)=>tI ms (ops.filterMap (·.dst)) s is x i) then DV ms xV xV else none
theorem KA {P:Program}{cf:CallF}{aH:List Nat}{ops:Array Oper}{s r:RS}{es:List nz}{l:List (AHeap × AHeap × Nat)}(h:M9 ops.toList ops s es=some l)(hp:s9 l)(hr:p9 P cf aH ops.toList s ops.toList=some (es,r)):kM P cf aH ops s=some r:=by
 unfold M9 at h
 simp only at h
 split at h
 rotate_left
 ·cases h
 rename_i hc
 simp only [aaK] at hc
 obtain⟨h1,h2⟩:=hc
 unfold kM
 simp only [h1,if_true,hr,aaG]
 rw [if_pos]
 rw [aa1] at h2 ⊢
 intro x hx
 have a:=h2 x hx
 simp only [aaK] at a ⊢
 refine⟨a,?_⟩
 rw [aa1]
 intro y hy
 exact HN _ h hp x hx y hy
def DW (P:Program)(cf:CallF)(A:bR)(c:Code)(fs:List (AV × AHeap))(zs:JK)(st:St):Option ((Prop × Prop) × St):=
 match c with
 | .region id ops draw=>(s8 (st.open A) (gH id A.JT) fs).bind fun (s0,p0)=>(s7 P cf A.aH ops.toList s0 0 ops.toList zs).bind fun (es,r,p)=>
   bif draw then (M9 ops.toList ops s0 es).bind fun l=>(l8 r (gH id A.B3)).map fun r2=>((p0∧p,s9 l),r2.nY A id) else none
 | _=>none
theorem HO {P:Program}{cf:CallF}{A:bR}{m:Nat}{c:Code}{fs:List (AV × AHeap)}{zs:JK}{st jT:St}{p q:Prop}(h:DW P cf A c fs zs st=some ((p,q),jT))(hp:p)(hq:q):bM P cf A m c st=some (.norm,jT):=by
 unfold DW at h
 split at h
 rotate_left
 ·cases h
 rename_i id ops draw
 simp only [aaH] at h
 obtain⟨⟨s0,p0⟩,h0,⟨es,r,p1⟩,h1,h⟩:=h
 cases draw with
 | false=>cases h
 | true=>
  simp only [cond_true,aaH,aaI,aaQ] at h
  obtain⟨l,hl,r2,h2,⟨rfl,rfl⟩,rfl⟩:=h
  obtain⟨g1,g2⟩:=yw h1 hp.2
  have g0:=tM h0 hp.1
  simp only [bM,g0,aaG,if_true,KA hl hq g1,h2,aaO]
inductive Vg
 | mk {h h':AHeap} {i:Nat} (e:h.ver i=h'.ver i)
def Vg.t:Vg→AHeap × AHeap × Nat
 | @mk h h' i e=>(h,h',i)
theorem HP:∀vs:List Vg,s9 (vs.map Vg.t)
 | []=>trivial
 | @Vg.mk h h' i e::vs=>⟨e,HP vs⟩
def Wb (P:Program)(cf:CallF)(A:bR)(c:Code)(fs gs:List zB)(s:St):St:=((DW P cf A c (FQ fs) (AF gs) s).map (·.2)).getD s
section
variable {P:Program}{cf:CallF}{A:bR}{m:Nat}{c:Code}{s:St}{Q R:Ex→St→Prop}
theorem PR (fs gs:List zB)(vs:List Vg)(hQ:Q .norm (Wb P cf A c fs gs s))(h:(DW P cf A c (FQ fs) (AF gs) s).map (·.1)=some (ps fs∧ps gs,s9 (vs.map Vg.t)):=by kernel_rfl):cZ P cf A m c s Q:=by
 unfold Wb at hQ
 obtain⟨⟨p,s'⟩,h1,rfl⟩:=aaI.1 h
 rw [h1] at hQ
 exact⟨.norm,s',HO h1 ⟨AG fs,AG gs⟩ (HP vs),hQ⟩
end
section
variable {P:Program}{h h':AHeap}{K:Mem}{i j n z q q2:Nat}{c:Ct}{cs:List AV}{x y:AV}{t t2:TypeId}
theorem yK {o:AObj}(hj:j≠i):h.ver j=(h.put i o).ver j:=by
 simp only [AHeap.put,beq_nat]
 simp [hj]
theorem AJ (hj:j≠i):h.ver j=(h.kill i).ver j:=by
 simp only [AHeap.kill,beq_nat]
 simp [hj]
theorem KB {s:AV}(e:dN P h t t2 s x=some (y,h'))(hs:∀i off n z,s = .rs i off n z→j≠i)(hj:j≠h.next):h.ver j=h'.ver j:=by
 have ha:∀o:AObj,h.ver j=(h.alloc o).ver j:=fun o=>yK hj
 unfold dN at e
 simp only [aaH] at e
 obtain⟨u,hu,e⟩:=e
 split at e
 rotate_left
 ·cases e
 simp only [aaH] at e
 obtain⟨inf,hi,⟨new,m⟩,hc,e⟩:=e
 split at e
 ·cases e
 split at e
 ·split at e
  ·cases e
  ·split at e
   ·cases e; rfl
   ·cases e; exact ha _
 ·split at e
  ·cases e
  ·split at e
   ·split at e<;>(cases e; rfl)
   ·cases e; exact ha _
 ·rename_i id off len jb
  have hne:=hs _ _ _ _ rfl
  split at e
  ·split at e
   ·cases e
   ·split at e
    ·cases e; rfl
    ·cases e; exact ha _
  ·simp only [aaH] at e
   obtain⟨ob,ho,e⟩:=e
   split at e
   rotate_left
   ·cases e
   split at e
   ·cases e
   ·split at e
    ·cases e; rfl
    ·cases e
     exact (AJ hne).trans (yK hj)
 ·cases e
theorem CC (o:Has h K)(hq:K[q]? = some (i,c))(KC:K[q2]? = some (j,.ob cs))(hne:q≠q2)(e:dN P h t t2 (.rs i 0 n z) x=some (y,h')):h.ver j=h'.ver j:=by
 obtain⟨⟨h1,_⟩,h2⟩:=o.at_ _ _ _ KC
 refine KB e (fun i' _ _ _ he=>?_) (by omega)
 cases he
 intro hji
 subst hji
 exact hne (o.nd _ _ _ _ _ hq KC h1)
end
theorem HQ {cf:CallF}{f:FuncId}{z:Nat}{h h':AHeap}{K:Mem}{q2 j:Nat}{cs:List AV}{x y:AV}(S:HK cf f z)(o:Has h K)(KC:K[q2]? = some (j,.ob cs))(e:cf f [x] h=some (y,h')):h.ver j=h'.ver j:=by
 obtain⟨⟨h1,_⟩,h2⟩:=o.at_ _ _ _ KC
 have ha:∀o:AObj,h.ver j=(h.alloc o).ver j:=fun o=>yK (Nat.ne_of_lt h2)
 rw [S] at e
 unfold BL at e
 split at e
 ·cases e; rfl
 ·split at e
  ·cases e; rfl
  ·split at e
   ·cases e; exact ha _
   ·cases e
 ·split at e
  ·cases e; rfl
  ·rw [aaH] at e
   obtain⟨ob,ho,e⟩:=e
   split at e
   ·split at e
    ·cases e; exact ha _
    ·cases e
   ·cases e
 ·cases e
theorem PS {x:Option (AV × AHeap)}{a:AV}{h:AHeap}{z:AV × AHeap}(h1:x=some (a,h))(h2:jR 0 h a=some z):x.bind (fun x=>jR 0 x.2 x.1)=some z:=by rw [h1]; exact h2
theorem Na {P:Program}{h:AHeap}{K:Mem}{q i t e n:Nat}{inf:TypeInfo}{l:List Int}{j:Int}(ht:P.underlying t=some (.slice e))(hi:P.info? e=some inf)(hs:inf.size=1)(hz:jc P e=some (.int .i64 0))(o:Has h K)(hq:K[q]? = some (i,.sl n 1 (af.l l)))(h0:0≤j)(h1:j≤(l.length:Int)) :
  ∃h',mK P h t (.rs i (0+j.toNat*1) (n - j.toNat) 1)=some h'∧Has h' (K.set q (i,.sl n 1 (af.l (l.take j.toNat++aa4 (l.length - j.toNat) 0)))):=by
 have hn:n=l.length:=cO (E:=af) o hq
 subst hn
 have hll:(l.take j.toNat++aa4 (l.length - j.toNat) 0).length=l.length:=by simp; omega
 unfold mK
 rw [ht,aaG]
 simp only
 by_cases hl:l.length - j.toNat=0
 ·refine⟨h,by rw [if_pos hl],?_⟩
  have:l.take j.toNat++aa4 (l.length - j.toNat) 0=l:=by rw [hl,List.replicate_zero,abU,abo (by omega)]
  rw [this]
  have hK:K.set q (i,.sl l.length 1 (af.l l))=K:=by
   obtain⟨g1,g2⟩:=aaM.1 hq
   rw [←g2,List.set_getElem_self]
  rw [hK]; exact o
 ·rw [if_neg hl]
  obtain⟨⟨⟨hlen,sr⟩,mE⟩,hlt⟩:=o.at_ _ _ _ hq
  rcases mE with⟨_,h5⟩| ⟨h5,rest,h6⟩
  ·omega
  rw [if_neg h5]
  simp only [hi,hz,h6,aaG,hs]
  have Yp:jd [AV.int .i64 0] (l.length - j.toNat)=af.l (aa4 (l.length - j.toNat) 0):=by
   generalize l.length - j.toNat=k
   induction k with
   | zero=>rfl
   | succ k ih=>show [AV.int .i64 0]++jd [AV.int .i64 0] k=_; rw [ih]; rfl
  rw [if_pos ⟨trivial,rfl,by decide,rfl,by rw [aaR,hlen]; omega⟩]
  refine⟨_,rfl,?_⟩
  refine jP o hq ?_
  have Lw:(af.l (l.take j.toNat++aa4 (l.length - j.toNat) 0)).length=l.length*1:=(bL.bS (E:=af)).trans (by rw [hll]; rfl)
  refine⟨⟨Lw,by rw [Lw]; rw [hlen] at sr; exact sr⟩,.inr ⟨h5,rest,?_⟩⟩
  rw [dc,if_pos rfl]
  congr 2
  show dv (af.l l++rest) (0+j.toNat*1) (jd [AV.int .i64 0] (l.length - j.toNat))=_
  rw [Yp,bL.iP]
  have Nb:=iQ (af.l (l.drop j.toNat)) (af.l (aa4 (l.length - j.toNat) 0)) (af.l (l.take j.toNat)) rest (by
   rw [bL.bS,bL.bS]; simp)
  rw [←bL.iP,abY] at Nb
  have hp:(af.l (l.take j.toNat)).length=0+j.toNat*1:=by
   rw [bL.bS]; show _*1=_; simp; omega
  rw [hp] at Nb
  exact Nb
end Go.R
namespace Go.R
open Go
def wJ (l:List (Int × Bool))(k:Int):Bool × Bool:=
 match l with
 | []=>(false,false)
 | (a,b)::l=>if k=a then (b,true) else wJ l k
def CD (l:List (Int × Bool))(k:Int)(v:Bool):List (Int × Bool):=
 match l with
 | []=>[(k,v)]
 | (a,b)::l=>if k=a then (k,v)::l else (a,b)::CD l k v
def DX (l:List (Int × Bool)):List (AV × AV):=l.map fun p=>(.int .i64 p.1,.bool p.2)
theorem DY (k:Int):∀l:List (Int × Bool),iK (.int .i64 k) (DX l)=some (if (wJ l k).2=true then some (.bool (wJ l k).1) else none)
 | []=>rfl
 | (a,b)::l=>by
  simp only [DX,aa3,iK,sameShape,fL,iY,wJ]
  have ih:=DY k l
  simp only [DX] at ih
  by_cases h:k=a
  ·subst h; simp
  ·simp [h,ih]
theorem HR (k:Int)(v:Bool):∀l:List (Int × Bool),tZ (.int .i64 k) (.bool v) (DX l)=some (DX (CD l k v))
 | []=>rfl
 | (a,b)::l=>by
  have ih:=HR k v l
  simp only [DX,aa3,tZ,sameShape,fL,iY,CD] at ih ⊢
  by_cases h:k=a
  ·subst h; simp
  ·simp [h,ih]
def AK (P:Program)(t:TypeId):Bool:=
 match P.underlying t with
 | some (.map kt et)=>(P.underlying kt matches some (.int .i64))&&(match jc P et with | some (.bool b)=>!b | _=>false)
 | _=>false
section
variable {P:Program}{h:AHeap}{K:Mem}{i q:Nat}{t:TypeId}{n:Nat}
theorem uY (T:AK P t=true):∃kt et,P.underlying t=some (.map kt et)∧(∀k,gu P kt (.int .i64 k)=true)∧jc P et=some (.bool false):=by
 unfold AK at T
 split at T
 ·rename_i kt et ht
  simp only [aaK] at T
  obtain⟨h1,h2⟩:=T
  refine⟨kt,et,ht,fun k=>?_,?_⟩
  ·revert h1
   split
   ·rename_i hk; intro _; simp [gu,hk]
   ·intro h; cases h
  ·split at h2
   ·rename_i z hz; simp only [abN] at h2; subst h2; exact hz
   ·cases h2
 ·cases T
theorem Tl {l:List (Int × Bool)}{k:Int}(T:AK P t=true)(o:Has h K)(hq:K[q]? = some (i,.mp (DX l))):eZ P h t (.mp i) (.int .i64 k) true=some (.tup [.bool (wJ l k).1,.bool (wJ l k).2])∧eZ P h t (.mp i) (.int .i64 k) false=some (.bool (wJ l k).1):=by
 obtain⟨kt,et,h1,h2,h3⟩:=uY T
 obtain⟨⟨_,h4⟩,_⟩:=o.at_ _ _ _ hq
 have hz:(wJ l k).2=false→(wJ l k).1=false:=by
  clear hq h4
  induction l with
  | nil=>intro _; rfl
  | cons p l ih=>
   obtain⟨a,b⟩:=p
   simp only [wJ]
   split
   ·intro h; cases h
   ·exact ih
 simp only [eZ,h1,aaG,h2,Bool.true_eq_false,if_false,h4,DY]
 cases hc:(wJ l k).2 with
 | true=>simp
 | false=>simp [h3,hz hc]
theorem PT {l:List (Int × Bool)}{k:Int}{v:Bool}(T:AK P t=true)(o:Has h K)(hq:K[q]? = some (i,.mp (DX l))):∃h',iC P h t (.mp i) (.int .i64 k) (.bool v)=some h'∧Has h' (K.set q (i,.mp (DX (CD l k v)))):=by
 obtain⟨kt,et,h1,h2,h3⟩:=uY T
 obtain⟨⟨h5,h4⟩,_⟩:=o.at_ _ _ _ hq
 refine⟨h.put i (.map (DX (CD l k v))),?_,jP o hq ⟨h5,by rw [dc,if_pos rfl]⟩⟩
 simp only [iC,h1,aaG,h2]
 rw [if_neg (by simp [AV.lu])]
 simp only [h4,aaG,HR,aaO]
end
section
variable {P:Program}{h:AHeap}{K:Mem}{i q n b:Nat}{t t2:TypeId}{α:Type}{E:bL α}{l r s:List α}{x:AV}
def PU {α:Type}(l s:List α):Option (List α):=if s.length≤l.length then some (s++l.drop s.length) else none
theorem KD (T:Aq P t E.n b=true)(o:Has h K)(hq:K[q]? = some (i,.sl n E.n (E.l l)))(hc:eT h E.n x=some (E.l s,s.length))(ic:jm P t2 x=true)(p4:(E.l s).all AV.bY=true)(hr:PU l s=some r) :
  ∃h',si P h t t2 (.rs i 0 n E.n) x=some (.int .i64 s.length,h')∧Has h' (K.set q (i,.sl n E.n (E.l r))):=by
 have hn:=cO o hq
 subst hn
 unfold PU at hr
 split at hr
 rotate_left
 ·cases hr
 rename_i hle
 cases hr
 obtain⟨e,inf,g1,g2,g3,g4,g5,g6⟩:=kW T
 obtain⟨⟨⟨hlen,sr⟩,mE⟩,hlt⟩:=o.at_ _ _ _ hq
 have hll:(s++l.drop s.length).length=l.length:=by simp; omega
 simp only [si,g1,aaG,g2,g3,hc,ic,Bool.true_eq_false,if_false]
 rcases mE with⟨h0,h1⟩| ⟨h0,rest,h1⟩
 ·have hl0:l=[]:=by simpa using h1
  subst hl0
  have hs0:s=[]:=by cases s with | nil=>rfl | cons _ _=>simp at hle
  subst hs0
  refine⟨h,by simp [h0],?_⟩
  have hK:K.set q (i,.sl ([]:List α).length E.n (E.l ([]++([]:List α).drop ([]:List α).length)))=K:=by
   obtain⟨g1,g2⟩:=aaM.1 hq
   show K.set q (i,.sl ([]:List α).length E.n (E.l []))=K
   rw [←g2,List.set_getElem_self]
  rw [hK]; exact o
 ·rw [if_neg h0,h1]
  simp only [aaG]
  rw [if_pos ⟨trivial,hle,by
   rw [aaR,hlen,aa7]
   exact abB (abE _ hle) (Nat.le_add_right _ _)⟩]
  refine⟨_,rfl,jP o hq ⟨⟨by rw [bL.bS,hll],by rw [bL.bS,hll,←hlen]; exact sr⟩,.inr ⟨h0,rest,?_⟩⟩⟩
  rw [dc,if_pos rfl]
  congr 2
  have Nb:=iQ (E.l (l.take s.length)) (E.l s) [] (E.l (l.drop s.length)++rest) (by rw [bL.bS,bL.bS,abz,ab8 hle])
  simp only [abr,aba] at Nb
  rw [←aa0,←bL.iP,abY] at Nb
  rw [Nb,bL.iP,aa0]
theorem Nc:eT h E.n (E.fz l)=some (E.l l,l.length):=by
 simp only [eT,bL.fz]
 rw [if_pos bL.bS]
end
theorem PV:∀l:List Int,(af.l l).all AV.bY=true:=fun l=>by
 induction l with
 | nil=>rfl
 | cons a l ih=>rw [bL.fo,List.all_append,ih]; rfl
section
variable {P:Program}{h:AHeap}{K:Mem}{i q n b:Nat}{t:TypeId}{α:Type}{E:bL α}{l:List α}{j:Int}{k:IntKind}
def OB (l:List Int)(j:Int):Option (List Int):=if 0≤j∧j≤l.length then some (l.take j.toNat++aa4 (l.length - j.toNat) 0) else none
theorem uZ {l r:List Int}{j:Int}(h:OB l j=some r):0≤j∧j≤l.length∧r=l.take j.toNat++aa4 (l.length - j.toNat) 0:=by
 unfold OB at h
 split at h
 ·rename_i g; cases h; exact⟨g.1,g.2,rfl⟩
 ·cases h
theorem Nd (T:Aq P t E.n b=true)(o:Has h K)(hq:K[q]? = some (i,.sl n E.n (E.l l)))(h0:0≤j)(h1:j≤(l.length:Int)):mI P t (.rs i 0 n E.n) (some (.int k j)) none none=some (.rs i (0+j.toNat*E.n) (n - j.toNat) E.n):=by
 have hn:=cO o hq
 subst hn
 obtain⟨e,inf,g1,g2,g3,g4,g5,g6⟩:=kW T
 simp only [mI,g1,aaG,g6,if_true,ly]
 rw [if_pos ⟨h0,by omega⟩]
 simp only [aaG,aaO,aaS]
def Tm (P:Program)(t:TypeId):Bool:=
 match P.underlying t with
 | some (.slice e)=>(match P.info? e with | some inf=>inf.size==1 | none=>false)&&(match jc P e with | some (.int .i64 z)=>z==0 | _=>false)
 | _=>false
theorem Ng {l r:List Int}(T:Tm P t=true)(o:Has h K)(hq:K[q]? = some (i,.sl n 1 (af.l l)))(hr:OB l j=some r) :
  ∃h',(mK P h t (.rs i (0+j.toNat*1) (n - j.toNat) 1)).map (fun h=>(AV.tup [],h))=some (AV.tup [],h')∧Has h' (K.set q (i,.sl n 1 (af.l r))):=by
 obtain⟨h0,h1,rfl⟩:=uZ hr
 unfold Tm at T
 split at T
 rotate_left
 ·cases T
 rename_i e ht
 simp only [aaK] at T
 obtain⟨T1,T2⟩:=T
 split at T1
 rotate_left
 ·cases T1
 rename_i inf hi
 split at T2
 rotate_left
 ·cases T2
 rename_i z hz
 simp only [beq_iff_eq] at T1 T2
 subst T2
 obtain⟨h',e1,o1⟩:=Na ht hi T1 hz o hq h0 h1
 exact⟨h',by rw [e1]; rfl,o1⟩
end
section
variable {h:AHeap}{f k k2:Nat}{cs ys:List AV}
theorem sJ (g:aP k h cs ys):kX (k+1) h (.fn f cs) (.fn f ys):=fun n hn=>by
 obtain⟨m,rfl⟩:∃m,n=m+1:=⟨n - 1,by simp only [ie] at hn; omega⟩
 simp only [bX]
 rw [g m (by omega)]; rfl
theorem aP.mono {k k':Nat}{x y:List AV}(hk:k≤k')(f:aP k h x y):aP k' h x y:=fun n hn=>f n (by omega)
theorem iR {xs:List AV}(f:aP k h xs ys)(hk:k≤cC:=by decide):aP cC h xs ys:=aP.mono hk f
theorem HS:∀{us bs cs ys:List AV} {k1 k2:Nat},aP k1 h us bs→aP k2 h cs ys→aP (k1+k2+us.length+1) h (us++cs) (bs++ys)
 | [],bs,cs,ys,k1,k2,f,g=>fun n hn=>by
  have:=f (ie+k1) (aaN _)
  have hb:bs=[]:=by
   cases hm:ie+k1 with
   | zero=>simp [ie] at hm
   | succ m=>rw [hm] at this; simp only [br,aaJ] at this; exact this.symm
  subst hb
  exact g n (by omega)
 | a::us,bs,cs,ys,k1,k2,f,g=>fun n hn=>by
  have h1:=f (ie+k1) (aaN _)
  obtain⟨m,rfl⟩:∃m,n=m+1:=⟨n - 1,by simp only [ie] at hn; omega⟩
  have hb:∃b PW,bs=b::PW:=by
   cases hm:ie+k1 with
   | zero=>simp [ie] at hm
   | succ m=>
    rw [hm] at h1
    simp only [br,aaH,aaI] at h1
    obtain⟨y,_,zs,_,e⟩:=h1
    exact⟨y,zs,e.symm⟩
  obtain⟨b,PW,rfl⟩:=hb
  have key:∀n',ie+k1≤n'+1→bX h n' a=some b∧br h n' us=some PW:=fun n' SA=>by
   have:=f (n'+1) SA
   simp only [br,aaH,aaI] at this
   obtain⟨y,hy,zs,hz,e⟩:=this
   cases e
   exact⟨hy,hz⟩
  have f2:aP k1 h us PW:=fun n' SA=>(key n' (by omega)).2
  have:=HS f2 g m (by simp only [aaW] at hn; omega)
  show br h (m+1) (a::(us++cs))=some (b::(PW++ys))
  simp only [br]
  rw [(key m (by omega)).1,this]
  rfl
theorem KE {us bs:List AV}{k:Nat}(f:aP k h us bs)(g:aP cC h cs ys)(hk:k≤500:=by decide)(hl:us.length≤400:=by simp):aP bH h (us++cs) (bs++ys):=(HS f g).mono (by
 have:k+cC+us.length+1≤cC+1001:=by omega
 exact abB this (by decide))
end
theorem HT {α:Type}{E:bL α}{l:List α}{h h':AHeap}{K:Mem}{q q2 i j n:Nat}{cs:List AV}{y:AV}(o:Has h K)(hq:K[q]? = some (i,.sl n E.n (E.l l)))(KC:K[q2]? = some (j,.ob cs))(e:jR 0 h (.rs i 0 n E.n)=some (y,h'))(hp:E.flat=true:=by rfl):h.ver j=h'.ver j:=by
 have hn:=cO o hq
 subst hn
 obtain⟨⟨⟨hlen,sr⟩,mE⟩,hlt⟩:=o.at_ _ _ _ hq
 obtain⟨⟨hj,_⟩,_⟩:=o.at_ _ _ _ KC
 have hne:j≠i:=by
  intro he
  subst he
  have:=o.nd _ _ _ _ _ hq KC hj
  subst this
  rw [hq] at KC
  cases KC
 simp only [jR] at e
 rcases mE with⟨h0,h1⟩| ⟨h0,rest,h1⟩
 ·rw [if_pos h0,if_pos h1] at e
  cases e; rfl
 ·rw [if_neg h0,h1] at e
  simp only [aaG] at e
  have e1:((E.l l++rest).drop 0).take (l.length*E.n)=E.l l:=by
   rw [abl,abi (by rw [hlen]; exact aaN _),abo (by rw [hlen]; exact aaN _)]
  rw [e1,if_pos (by rw [aaR,hlen]; omega),rC (bL.pM hp).1] at e
  cases e
  exact AJ hne
end Go.R
namespace Go.R
open Go
def oW (k i:Nat):Nat:=if i=0 then 0 else i+k
theorem u9 {k i off n z:Nat}:dj k (.rs i off n z)=some (.rs (oW k i) off n z):=by
 unfold dj oW
 split<;>rfl
theorem mX {k:Nat}:cE k []=some []:=rfl
theorem dR {k:Nat}{x y:AV}{xs ys:List AV}(a:dj k x=some y)(b:cE k xs=some ys):cE k (x::xs)=some (y::ys):=by
 simp only [cE,a,b,aaG,aaO]
theorem yL {k:Nat}{xs ys:List AV}(b:cE k xs=some ys):dj k (.agg xs)=some (.agg ys):=by
 simp only [dj,b,aaO]
theorem HU {k:Nat}{xs ys:List AV}(b:cE k xs=some ys):dj k (.tup xs)=some (.tup ys):=by
 simp only [dj,b,aaO]
theorem oA {k:Nat}:∀{a a' b b':List AV},cE k a=some a'→cE k b=some b'→cE k (a++b)=some (a'++b')
 | [],a',b,b',h1,h2=>by simp only [cE,aaJ] at h1; subst h1; exact h2
 | x::a,a',b,b',h1,h2=>by
  simp only [cE,aaH,aaI] at h1
  obtain⟨y,h3,ys,h4,rfl⟩:=h1
  exact dR h3 (oA h4 h2)
theorem pP {k:Nat}:∀{a a':List AV} (r:List AV),cE k a=some a'→gi k (a++r)=a'++gi k r
 | [],a',r,h1=>by simp only [cE,aaJ] at h1; subst h1; rfl
 | x::a,a',r,h1=>by
  simp only [cE,aaH,aaI] at h1
  obtain⟨y,h3,ys,h4,rfl⟩:=h1
  have e:gi k (x::(a++r))=y::gi k (a++r):=by rw [gi,h3]
  show gi k (x::(a++r))=(y::ys)++gi k r
  rw [e,pP r h4]; rfl
theorem sK {k:Nat}:∀{a a':List AV},cE k a=some a'→a'.length=a.length
 | [],a',h1=>by simp only [cE,aaJ] at h1; subst h1; rfl
 | x::a,a',h1=>by
  simp only [cE,aaH,aaI] at h1
  obtain⟨y,h3,ys,h4,rfl⟩:=h1
  rw [aaW,aaW,sK h4]
def Tn (k:Nat):Nat × Ct→Nat × Ct→Prop
 | (i,.sl n z cs),b=>∃fQ,cE k cs=some fQ∧b=(oW k i,.sl n z fQ)
 | (i,.ob cs),b=>∃fQ,cE k cs=some fQ∧b=(oW k i,.ob fQ)
 | _,_=>False
inductive GA (k:Nat)(L:Mem):Mem→Mem→Prop
 | nil:GA k L [] L
 | cons {a b:Nat × Ct} {K K':Mem} (e:Tn k a b) (g:GA k L K K'):GA k L (a::K) (b::K')
section
variable {k i n z:Nat}{L K K':Mem}{α:Type}{E:bL α}{l:List α}
theorem PX (hE:∀a,cE k (E.f a)=some (E.f a)):∀l:List α,cE k (E.l l)=some (E.l l)
 | []=>rfl
 | a::l=>by rw [bL.fo]; exact oA (hE a) (PX hE l)
theorem DZ (hE:∀a,cE k (E.f a)=some (E.f a))(g:GA k L K K'):GA k L ((i,.sl n z (E.l l))::K) ((oW k i,.sl n z (E.l l))::K'):=.cons ⟨_,PX hE l,rfl⟩ g
theorem HV:∀(ns:List ai) (ids:List Nat),cE k (cj.l (aQ ns ids))=some (cj.l (aQ ns (ids.map (oW k))))
 | [],_=>rfl
 | a::ns,ids=>by
  have h1:(ids.map (oW k)).headD 0=oW k (ids.headD 0):=by cases ids<;>rfl
  have h2:(ids.map (oW k)).tail=ids.tail.map (oW k):=by cases ids<;>rfl
  show cE k (cj.f (a,ids.headD 0)++cj.l (aQ ns ids.tail))=some (cj.f (a,(ids.map (oW k)).headD 0)++cj.l (aQ ns (ids.map (oW k)).tail))
  rw [h1,h2]
  exact oA (dR rfl (dR rfl (dR rfl (dR u9 mX)))) (HV ns ids.tail)
theorem HW {ns:List ai}{ids:List Nat}(g:GA k L K K'):GA k L ((i,.sl n z (cj.l (aQ ns ids)))::K) ((oW k i,.sl n z (cj.l (aQ ns (ids.map (oW k)))))::K'):=.cons ⟨_,HV ns ids,rfl⟩ g
theorem yM:∀{ns:List ai} {ids:List Nat},GA k L K K'→GA k L (dd ns ids++K) (dd ns (ids.map (oW k))++K')
 | [],_,g=>g
 | a::ns,ids,g=>by
  have h1:(ids.map (oW k)).headD 0=oW k (ids.headD 0):=by cases ids<;>rfl
  have h2:(ids.map (oW k)).tail=ids.tail.map (oW k):=by cases ids<;>rfl
  show GA k L (CA (a,ids.headD 0)::(dd ns ids.tail++K)) (CA (a,(ids.map (oW k)).headD 0)::(dd ns (ids.map (oW k)).tail++K'))
  rw [h1,h2]
  exact DZ (E:=af) (fun _=>rfl) (yM g)
end
theorem Nh {k:Nat}{L K K':Mem}(g:GA k L K K'):∃K2,K'=K2++L∧K2.length=K.length∧∀(j:Nat) b,K2[j]? = some b→∃a,K[j]? = some a∧Tn k a b:=by
 induction g with
 | nil=>exact⟨[],rfl,rfl,fun j b h=>by simp at h⟩
 | cons e g ih=>
  rename_i a b K K'
  obtain⟨K2,rfl,h2,h3⟩:=ih
  refine⟨b::K2,rfl,by rw [aaW,aaW,h2],fun j c hj=>?_⟩
  cases j with
  | zero=>simp only [abg,aaJ] at hj; subst hj; exact⟨a,rfl,e⟩
  | succ j=>simp only [abK] at hj ⊢; exact h3 j c hj
theorem yN {k i i':Nat}{c c':Ct}(e:Tn k (i,c) (i',c')):i'=oW k i:=by
 cases c with
 | sl n z cs=>obtain⟨_,_,h⟩:=e; cases h; rfl
 | ob cs=>obtain⟨_,_,h⟩:=e; cases h; rfl
 | mp es=>exact e.elim
 | row t cs=>exact e.elim
theorem Has.eV {h h1:AHeap}{K1 K2 L:Mem}(o:Has h L)(o1:Has h1 K1)(g:GA h.next L K1 K2):Has (h.eV h1) K2:=by
 obtain⟨K3,rfl,hlen,Ca⟩:=Nh g
 have hnx:(h.eV h1).next=h.next+h1.next:=rfl
 have JE:∀{i:Nat},i≠0→oW h.next i=i+h.next:=fun hi=>if_neg hi
 have hget:∀{i:Nat} {cs:List AV},i≠0→h1.get i=some (.cells cs)→(h.eV h1).get (oW h.next i)=some (.cells (gi h.next cs)):=fun {i cs} hi hg=>by
  rw [JE hi,(kU (Nat.le_add_left _ _)).1,Nat.add_sub_cancel,hg]; rfl
 have hidlt:∀{i:Nat},i<h1.next→oW h.next i<(h.eV h1).next:=fun {i} hi=>by
  rw [hnx]
  by_cases h0:i=0
  ·subst h0; show 0<_; have:=o.pos; omega
  ·rw [JE h0]; omega
 refine⟨fun j i c hj=>?_,fun j j' i c c' hj BI hi=>?_,by rw [hnx]; have:=o.pos; omega⟩
 ·by_cases hl:j<K3.length
  ·rw [aaX hl] at hj
   obtain⟨⟨i1,c1⟩,ha,he⟩:=Ca j _ hj
   obtain⟨w1,w2⟩:=o1.at_ _ _ _ ha
   cases c1 with
   | sl n z cs=>
    obtain⟨fQ,h3,h4⟩:=he
    cases h4
    refine⟨⟨by rw [sK h3]; exact w1.1,?_⟩,hidlt w2⟩
    rcases w1.2 with⟨h5,h6⟩| ⟨h5,rest,h6⟩
    ·left; subst h5; exact⟨rfl,h6⟩
    ·right
     refine⟨by rw [JE h5]; omega,gi h.next rest,?_⟩
     rw [hget h5 h6,pP rest h3]
   | ob cs=>
    obtain⟨fQ,h3,h4⟩:=he
    cases h4
    refine⟨⟨by rw [JE w1.1]; have:=w1.1; omega,?_⟩,hidlt w2⟩
    rw [hget w1.1 w1.2]
    have:=pP [] h3
    rw [abU] at this
    rw [this]; simp [gi]
   | mp es=>exact he.elim
   | row t cs=>exact he.elim
  ·rw [aaZ (by omega)] at hj
   obtain⟨w1,w2⟩:=o.at_ _ _ _ hj
   exact⟨pN (fun _=>(jW w2).1) w1,by rw [hnx]; omega⟩
 ·by_cases hl:j<K3.length<;>by_cases pY:j'<K3.length
  ·rw [aaX hl] at hj
   rw [aaX pY] at BI
   obtain⟨⟨i1,c1⟩,ha,he⟩:=Ca j _ hj
   obtain⟨⟨i2,c2⟩,Yq,Yr⟩:=Ca j' _ BI
   have e1:=yN he
   have e2:=yN Yr
   have n1:i1≠0:=fun h0=>hi (by rw [e1,h0]; rfl)
   have n2:i2≠0:=fun h0=>hi (by rw [e2,h0]; rfl)
   rw [JE n1] at e1
   rw [JE n2] at e2
   have:i2=i1:=by omega
   subst this
   exact o1.nd _ _ _ _ _ ha Yq n1
  ·rw [aaX hl] at hj
   rw [aaZ (by omega)] at BI
   obtain⟨⟨i1,c1⟩,ha,he⟩:=Ca j _ hj
   have e1:=yN he
   have n1:i1≠0:=fun h0=>hi (by rw [e1,h0]; rfl)
   rw [JE n1] at e1
   have:=(o.at_ _ _ _ BI).2
   omega
  ·rw [aaZ (by omega)] at hj
   rw [aaX pY] at BI
   obtain⟨⟨i1,c1⟩,ha,he⟩:=Ca j' _ BI
   have e1:=yN he
   have n1:i1≠0:=fun h0=>hi (by rw [e1,h0]; rfl)
   rw [JE n1] at e1
   have:=(o.at_ _ _ _ hj).2
   omega
  ·rw [aaZ (by omega)] at hj BI
   have:=o.nd _ _ _ _ _ hj BI hi
   omega
theorem kH (h h1:AHeap):∀j,j<h.next→h.ver j=(h.eV h1).ver j:=fun j hj=>(jW hj).2.symm
theorem mo {P:Program}{T:pj}{m f deep:Nat}{h h':AHeap}{xs ys:List AV}{r y:AV}(h1:T.intr f=none)(h2:T.pure f=some deep)(h3:T.eV f=true)(hd:ie+bH≤deep)(hx:aP bH h xs ys)(hb:a6 P T.aS (jB P T m) m f ys bo=some (r,h'))(hg:dj h.next r=some y):jB P T m f xs h=some (y,h.eV h'):=by
 refine mn ?_
 simp only [sI,h1,h2,h3,if_true,hx deep hd,aaG,hb,hg,aaO]
theorem KF {P:Program}{t:TypeId}{a b c d:Int}(h:∀a b c d:Int,nW P .eql t (.agg [.int .i64 a,.int .i64 b]) (.agg [.int .i64 c,.int .i64 d])=some (.bool (fL (.agg [.int .i64 a,.int .i64 b]) (.agg [.int .i64 c,.int .i64 d])==true))) :
  nW P .eql t (.agg [.int .i64 a,.int .i64 b]) (.agg [.int .i64 c,.int .i64 d])=some (.bool (a==c&&b==d)):=by
 rw [h]
 congr 2
 have:=mW [a,b] [c,d]
 have e:fL (.agg [.int .i64 a,.int .i64 b]) (.agg [.int .i64 c,.int .i64 d])=mJ (af.l [a,b]) (af.l [c,d]):=rfl
 rw [e,this]
 by_cases h1:a=c<;>by_cases h2:b=d<;>simp [h1,h2]
theorem Has.jX {h:AHeap}{pre mid N L:Mem}(o:Has h (pre++(mid++(N++L)))):Has h (pre++(N++(mid++L))):=by
 refine o.perm (List.Perm.append_left _ ?_)
 rw [←aa0,←aa0]
 exact List.Perm.append_right _ List.perm_append_comm
def CE (ns:List ai)(ids:List Nat)(j:Int)(ad:Nat):List Nat:=(yH ns ids).set j.toNat ad
theorem xk:∀(ns:List ai) (ids:List Nat),aQ ns (yH ns ids)=aQ ns ids
 | [],_=>rfl
 | a::ns,ids=>by
  have:=xk ns ids.tail
  simp only [yH,aQ,aa3,List.headD_cons,List.tail_cons] at this ⊢
  rw [this]
theorem xl:∀(ns:List ai) (ids:List Nat) (i:Nat) (n:ai) (ad:Nat),ns.length=ids.length→aQ (ns.set i n) (ids.set i ad)=(aQ ns ids).set i (n,ad)
 | [],_,_,_,_,_=>rfl
 | a::ns,[],_,_,_,h=>by simp at h
 | a::ns,j::ids,0,n,ad,_=>rfl
 | a::ns,j::ids,i+1,n,ad,h=>by
  have:=xl ns ids i n ad (by simpa using h)
  simp only [List.set_cons_succ,aQ,List.headD_cons,List.tail_cons,this]
theorem xm (ns:List ai)(ids:List Nat)(j:Int)(n:ai)(ad:Nat):aQ (ns.set j.toNat n) (CE ns ids j ad)=(aQ ns ids).set j.toNat (n,ad):=by
 unfold CE
 rw [xl ns (yH ns ids) j.toNat n ad (by unfold yH; rw [aaY,eW]),xk]
section
variable {P:Program}{tf:TypeId}{h:AHeap}{pre L:Mem}{ns:List ai}{ids:List Nat}{i ad k n2 q:Nat}{j:Int}{n:ai}{args:List Int}
theorem KG (o:Has h ((i,.sl k 4 (cj.l (aQ ns ids)))::(ad,.sl n2 1 (af.l args))::(pre++(dd ns ids++L))))(hs:fM P tf=some 1)(hx:ix ns j=some n) :
  ∃h',jF P h tf (.ptr i (0+j.toNat*4+3)) (.rs ad 0 n2 1)=some h'∧
   Has h' ((i,.sl k 4 (cj.l (aQ (ns.set j.toNat ⟨n.kind,n.int,n.label,args⟩) (CE ns ids j ad))))::(pre++(dd (ns.set j.toNat ⟨n.kind,n.int,n.label,args⟩) (CE ns ids j ad)++L))):=by
 have hn:n2=args.length:=cO (E:=af) o (q:=1) rfl
 subst hn
 obtain⟨h0,h1,h2⟩:=ia hx
 obtain⟨h',e,o'⟩:=Ki (P:=P) (tf:=tf) (E:=cj) (l:=aQ ns ids) (q:=0) (off:=3) (v:=((⟨n.kind,n.int,n.label,args⟩:ai),ad)) (x:=.rs ad 0 args.length 1) o rfl hs (lJ hx) rfl rfl (by decide) rfl
 refine⟨h',e,?_⟩
 have e1:(aQ ns ids).set j.toNat ((⟨n.kind,n.int,n.label,args⟩:ai),ad)=aQ (ns.set j.toNat ⟨n.kind,n.int,n.label,args⟩) (CE ns ids j ad):=(xm ns ids j _ ad).symm
 have e2:dd (ns.set j.toNat ⟨n.kind,n.int,n.label,args⟩) (CE ns ids j ad)=(dd ns ids).set j.toNat (CA (⟨n.kind,n.int,n.label,args⟩,ad)):=by
  unfold dd; rw [xm,List.map_set]
 rw [←e1,e2]
 have o2:Has h' ((i,.sl k 4 (cj.l ((aQ ns ids).set j.toNat ((⟨n.kind,n.int,n.label,args⟩:ai),ad))))::CA (⟨n.kind,n.int,n.label,args⟩,ad)::(pre++(dd ns ids++L))):=o'
 have hl:j.toNat<(dd ns ids).length:=by unfold dd; rw [aaY,eW]; omega
 have e3:(dd ns ids).set j.toNat (CA (⟨n.kind,n.int,n.label,args⟩,ad))=(dd ns ids).take j.toNat++CA (⟨n.kind,n.int,n.label,args⟩,ad)::(dd ns ids).drop (j.toNat+1):=by
  rw [List.set_eq_take_append_cons_drop,if_pos hl]
 have e4:dd ns ids=(dd ns ids).take j.toNat++(dd ns ids)[j.toNat]::(dd ns ids).drop (j.toNat+1):=by
  conv=>lhs; rw [←abY j.toNat (dd ns ids),aaT hl]
 rw [e3]
 generalize hA:(dd ns ids).take j.toNat=A at *
 generalize hB:(dd ns ids).drop (j.toNat+1)=B at *
 rw [e4] at o2
 have o3:=(o2.del (pre.length+A.length+2))
 have e5:((i,Ct.sl k 4 (cj.l ((aQ ns ids).set j.toNat ((⟨n.kind,n.int,n.label,args⟩:ai),ad))))::CA (⟨n.kind,n.int,n.label,args⟩,ad)::(pre++((A++(dd ns ids)[j.toNat]::B)++L))).eraseIdx (pre.length+A.length+2)=(i,Ct.sl k 4 (cj.l ((aQ ns ids).set j.toNat ((⟨n.kind,n.int,n.label,args⟩:ai),ad))))::CA (⟨n.kind,n.int,n.label,args⟩,ad)::(pre++((A++B)++L)):=by
  show _::_::(pre++((A++(dd ns ids)[j.toNat]::B)++L)).eraseIdx (pre.length+A.length)=_
  congr 2
  rw [List.eraseIdx_append_of_length_le (by omega),abC,aa0,List.eraseIdx_append_of_length_le (by omega),abT]
  simp
 rw [e5] at o3
 refine o3.perm (List.Perm.cons _ ?_)
 have k1:pre++((A++CA ((⟨n.kind,n.int,n.label,args⟩:ai),ad)::B)++L)=(pre++A)++CA (⟨n.kind,n.int,n.label,args⟩,ad)::(B++L):=by simp
 have k2:pre++((A++B)++L)=(pre++A)++(B++L):=by simp
 rw [k1,k2]
 exact List.perm_middle
theorem oX:∀(ns:List ai) (ids:List Nat) (k:Nat),aQ (ns.drop k) (ids.drop k)=(aQ ns ids).drop k
 | ns,ids,0=>rfl
 | [],_,k+1=>by simp [aQ]
 | a::ns,[],k+1=>by
  have:=oX ns [] k
  simpa [aQ] using this
 | a::ns,j::ids,k+1=>by
  have:=oX ns ids k
  simpa [aQ] using this
theorem HX (o:Has h (pre++(dd (ns.drop j.toNat) (ids.drop j.toNat)++L)))(hq:pre[q]? = some (i,.sl k 4 (cj.l (aQ ns ids))))(hx:ix ns j=some n) :
  Has h ((MX ids j,.sl n.args.length 1 (af.l n.args))::(pre++(dd (ns.drop (IntKind.i64.wrap (j+(1:Int))).toNat) (ids.drop (IntKind.i64.wrap (j+(1:Int))).toNat)++L))):=by
 obtain⟨h0,h1,h2⟩:=ia hx
 have Ys:q<pre.length:=(aaM.1 hq).1
 have ye:(pre++(dd (ns.drop j.toNat) (ids.drop j.toNat)++L))[q]? = some (i,.sl k 4 (cj.l (aQ ns ids))):=by rw [aaX Ys]; exact hq
 obtain⟨⟨⟨_,sr⟩,_⟩,_⟩:=o.at_ _ _ _ ye
 have sr:(cj.l (aQ ns ids)).length≤1125899906842624:=sr
 rw [bL.bS,eW] at sr
 have sr:ns.length*4≤1125899906842624:=sr
 have hw:(IntKind.i64.wrap (j+(1:Int))).toNat=j.toNat+1:=by
  have hm:(j+1) % 18446744073709551616=j+1:=Int.emod_eq_of_lt (by omega) (by omega)
  have:IntKind.i64.wrap (j+(1:Int))=j+1:=by
   show (if true&&decide ((j+1) % 18446744073709551616≥9223372036854775808) then (j+1) % 18446744073709551616 - 18446744073709551616 else (j+1) % 18446744073709551616)=j+1
   rw [hm]
   have:decide (j+1≥9223372036854775808)=false:=by rw [decide_eq_false_iff_not]; omega
   rw [this]; rfl
  rw [this]; omega
 rw [hw]
 have e:dd (ns.drop j.toNat) (ids.drop j.toNat)=(MX ids j,.sl n.args.length 1 (af.l n.args))::dd (ns.drop (j.toNat+1)) (ids.drop (j.toNat+1)):=by
  unfold dd
  rw [oX,oX]
  have hz:=qK ns ids _ _ h2
  have hl:j.toNat<(aQ ns ids).length:=by rw [eW]; omega
  rw [aaT hl]
  have:(aQ ns ids)[j.toNat]=(n,ids.getD j.toNat 0):=(aaM.1 hz).2
  rw [this]
  rfl
 rw [e] at o
 refine o.perm ?_
 exact List.perm_middle.symm
end
end Go.R
namespace Go.R
open Go
abbrev AV.i (n:Int):AV:=.int .i64 n
universe u
theorem PY {α:Type u}{l:List α}{i:Nat}{a:α}:(l.set i a).length=l.length:=abx
theorem Yt {p:Prop}[Decidable p]:(decide p=true)=p:=decide_eq_true_eq
theorem kr {α:Sort u}{a b:α}(h:a=b:=by kernel_rfl):a=b:=h
theorem om {p:Prop}(h:p:=by omega):p:=h
theorem dm {p:Prop}(h:p:=by simp only [Yt]; omega):p:=h
theorem ld {α:Sort u}{a b:α}(h:a=b:=by (try (conv=>rhs; simp only [PY])); try kernel_rfl):a=b:=h
theorem fe {h:AHeap}{K:Mem}(o:Has h K)(q:Nat){p:Nat × Ct}(hq:K[q]? = some p:=by rfl):Has h (p::K.eraseIdx q):=Has.front o q hq
theorem iJ {h:AHeap}{K:Mem}(o:Has h K)(q:Nat):Has h (K.eraseIdx q):=Has.del o q
theorem AL {h:AHeap}{K K':Mem}(o:Has h K)(e:K=K':=by (try (conv=>rhs; simp only [PY])); try kernel_rfl):Has h K':=e ▸ o
theorem fq {h:AHeap}{k:Nat}{ys:List AV}(f:aP k h ys ys:=by repeat' (first | exact aG | apply ak | exact bO | exact gL | exact kY | exact km | apply kg | apply MO))(hk:k≤bH:=by decide):aP bH h ys ys:=lZ f hk
theorem cq {p:Prop}(h:p:=by repeat' (first | exact Ko | refine gw ?_ ?_ | rfl | assumption | refine oy ?_ | exact mV | exact Kn | exact uN | exact Pz | refine uP ?_ | refine fV ?_ ?_ | exact uO)):p:=h
section
variable {P:Program}{A:bR}{s:St}{rs:List ResultVar}
theorem fB {b:Bool}{o:Bool}(H:some b=some o)(h1:aE P (s.open A) rs=some (.bool b):=by kernel_rfl):(Ex.ret = .ret∨Ex.ret = .norm)∧∃av,aE P (s.open A) rs=some av∧eR s.h av (.bool o):=by
 cases H; exact⟨.inl rfl,_,h1,tP fU⟩
theorem fI {b:Int}{o:Int}{k:IntKind}(H:some b=some o)(h1:aE P (s.open A) rs=some (.int k b):=by kernel_rfl):(Ex.ret = .ret∨Ex.ret = .norm)∧∃av,aE P (s.open A) rs=some av∧eR s.h av (.int k o):=by
 cases H; exact⟨.inl rfl,_,h1,tP mU⟩
end
end Go.R
namespace Go.Proofs.YtifafejidnjckaaGreat
open Go Go.R
open Go.IntKind (i64 u64 u8 u32)
structure bb where
 fF:Int
 tc:Int
 D0:Int
 fc:ByteArray
 gz:List Int
 tR:aI
structure ab where
 aj:Bool
 aa:List ai
 ae:List Int
structure wK where
 RH:List ai
 To:List Int
 Tp:Bool
structure bF where
 lq:Int
 mH:Int
def bD:bL bb:={n:=7,f:=fun x=>[.int .i64 x.fF,.int .i64 x.tc,.int .i64 x.D0,.str x.fc,af.fz x.gz,ah.fz x.tR.nodes,.int .i64 x.tR.root],len:=fun _=>rfl,pos:=by decide,pure:=fun x _=>pure_cons gW (pure_cons gW (pure_cons gW (pure_cons ov (pure_cons bL.bp (pure_cons bL.bp (pure_cons gW (pure_nil))))))),canon:=fun _=>rfl}
def eO:bL bF:={n:=2,f:=fun x=>[.int .i64 x.lq,.int .i64 x.mH],len:=fun _=>rfl,pos:=by decide,pure:=fun x _=>pure_cons gW (pure_cons gW (pure_nil)),canon:=fun _=>rfl}
theorem gj:Aq Tryz.prog 22 1 8=true:=by kernel_rfl
theorem tS:Aq Tryz.prog 23 4 56=true:=by kernel_rfl
theorem RJ:Aq Tryz.prog 29 7 96=true:=by kernel_rfl
theorem Ni:Aq Tryz.prog 111 2 16=true:=by kernel_rfl
theorem A3:gG Tryz.prog 3=some false:=by kernel_rfl
theorem Wc:gG Tryz.prog 22=some false:=by kernel_rfl
theorem Wd:gG Tryz.prog 23=some false:=by kernel_rfl
theorem Yu:gG Tryz.prog 27=some true:=by kernel_rfl
theorem BM:gG Tryz.prog 57=some true:=by kernel_rfl
theorem Z3:fM Tryz.prog 3=some 1:=by kernel_rfl
theorem Yv:fM Tryz.prog 22=some 1:=by kernel_rfl
theorem Yw:fM Tryz.prog 27=some 7:=by kernel_rfl
theorem BN:fM Tryz.prog 57=some 4:=by kernel_rfl
theorem U9:Tryz.prog.underlying 9=some .string:=by kernel_rfl
theorem KH:Av Tryz.prog 84=true:=by kernel_rfl
theorem HY:AK Tryz.prog 100=true:=by kernel_rfl
theorem D1:Aw Tryz.prog 119 9=true:=by kernel_rfl
theorem HZ:Tryz.prog.underlying 119=some (.map 121 3):=by kernel_rfl
theorem xn:FM Tryz.prog 121 9=true:=by kernel_rfl
theorem Tq:Tm Tryz.prog 22=true:=by kernel_rfl
theorem PZ:∀a b c d:Int,nW Tryz.prog .eql 110 (.agg [.int .i64 a,.int .i64 b]) (.agg [.int .i64 c,.int .i64 d])=some (.bool (fL (.agg [.int .i64 a,.int .i64 b]) (.agg [.int .i64 c,.int .i64 d])==true)):=by
 intro a b c d
 kernel_rfl
def cR.f (m:Nat):Option Bool:=some true
def S9 (cf:CallF)(m:Nat):Prop:=∀r:Bool,cR.f m=some r→∀h xs,aP bH h xs []→cf 9 xs h=some (.bool r,h)
def Tr (cf:CallF)(m:Nat):Prop:=HK cf 37 1
def Ts (cf:CallF)(m:Nat):Prop:=LR cf 66
def H0:bR:=gC [0,2,3,7,26] [] [30,26,18,26,10,29,29] [] []
def bq.l0 (m:Nat)(l0:List bb):Nat→Int→Option (Sum Bool (Int))
 | 0,_=>none
 | k+1,i0=>if (decide (i0<(l0.length:Int)))=true then ((ix l0 i0).bind fun v0=>if (decide ((v0.tR.nodes.length:Int) > 40))=true then (some (.inl true)) else ((ix l0 i0).bind fun v1=>if (decide ((v1.gz.length:Int) > 40))=true then (some (.inl true)) else (bq.l0 m l0 k (i64.wrap (i0+1))))) else (some (.inr i0))
def bq.f (m:Nat)(l0:List bb):Option (Bool):=(bq.l0 m l0 m 0).bind fun bP=>match bP with | .inl r0=>some r0 | .inr i1=>some (decide ((l0.length:Int) > 60))
def bq.fin (L:Mem)(r:Bool)(s:St):Prop:=∃av,aE Tryz.prog (s.open H0) Tryz.f8.results.toList=some av∧eR s.h av (.bool r)
def S8 (cf:CallF)(m:Nat):Prop:=∀(l0:List bb) (r:Bool),bq.f m l0=some r→∀h xs,aP bH h xs [bD.fz l0]→cf 8 xs h=some (.bool r,h)
section
variable {cf:CallF}{m:Nat}
theorem bq.cb (L:Mem)(l0:List bb)   : cY Tryz.prog cf H0 m (sub [1,0,1,0,0] (bN Tryz.f8)) (fun k (σ:Int)=>bq.l0 m l0 k σ) (fun σ s=>match σ with | i0=>∃h0,s=⟨[bD.fz l0,.any,.i i0,.any,.any],[],h0⟩∧Has h0 (L)) (fun out e s=>(e = .exit 0∧∃i0,.inr i0=out∧∃FU H2 h0,s=⟨[bD.fz l0,.any,FU,H2,.any],[],h0⟩∧Has h0 (L))∨(e = .ret∧∃r,.inl r=out∧bq.fin L r s)):=by
 refine ln (fun _=>rfl) ?_
 rintro k i0 s out ⟨h0,rfl,o0⟩ H
 have H:bq.l0 m l0 (k+1) i0=some out:=H
 refine qq <| qq <| q0 <| qc H (fun c0 H=>?_) (fun c0 H=>?_)
 ·refine qk <| qq <| qb 1 <| qq ?_
  obtain⟨v0,e0,H⟩:=aW H
  rcases du H with⟨c1,H⟩| ⟨c1,H⟩
  ·exact qr [.v 2 (eK (k:=.i64) (E:=bD) (l:=l0) RJ e0),.v 5 (rJ  (E:=bD) (l:=l0) (off:=5) h0 Wd e0 rfl),.b 8 c1] <| BK <| qq <| q0 <| qt <| Or.inr (⟨rfl,_,oi H,wI (.bool true) h0 (tP (fU))⟩)
  ·obtain⟨v1,e1,H⟩:=aW H
   refine qr [.v 2 (eK (k:=.i64) (E:=bD) (l:=l0) RJ e0),.v 5 (rJ  (E:=bD) (l:=l0) (off:=5) h0 Wd e0 rfl),.b 8 c1,.v 11 (eK (k:=.i64) (E:=bD) (l:=l0) RJ e1),.v 13 (rJ  (E:=bD) (l:=l0) (off:=4) h0 Wc e1 rfl)] <| qc H (fun c3 H=>?_) (fun c3 H=>?_)
   ·exact q1 <| qt <| Or.inr (⟨rfl,_,oi H,wI (.bool true) h0 (tP (fU))⟩)
   ·exact qk <| q0 <| ⟨i64.wrap (i0+1),⟨h0,kr,o0⟩,H⟩
 ·exact qx 0 <| Or.inl (⟨rfl,i0,oi H,.i i0,.bool (decide (i0<(l0.length:Int))),h0,kr,o0⟩)
theorem rR {aS:FuncId→bR}(ha:aS 8=H0)  (l0:List bb)(h:AHeap)(L:Mem)  (o:Has h (L)){out:Bool}(H:bq.f m l0=some out) :
  ∃r h',a6 Tryz.prog aS cf m 8 [bD.fz l0] h=some (r,h')∧eR h' r (.bool out):=by
 refine aq (fn:=Tryz.f8) ha Tryz.func8 kr kr ?_
 refine aC (Q:=fun s=>bq.fin L out s) (fun _ _ h=>h) ?_
 have H:_=some out:=H
 unfold bq.f at H
 show cZ _ cf H0 m _ ⟨bD.fz l0::rN [],[],h⟩ _
 refine q1 <| qq <| qq <| q0 <| qb 0 ?_
 obtain⟨bP,e2,H⟩:=aW H
 refine ql (bq.cb L l0   0 _ _ ⟨h,kr,o⟩ e2) ?_
 rintro e s (⟨rfl,i1,rfl,g0,g1,h1,rfl,o1⟩| ⟨rfl,r0,rfl,rS⟩)
 ·try dsimp only at H
  exact q1 <| qt <| fB H
 ·try dsimp only at H
  obtain rfl:=oi H
  exact⟨.inl rfl,rS⟩
end
def D2:bR:=gC [0] [14000000001] [1] [] []
def jJ.f (m:Nat)  : Option (ab):=some (ab.mk true ([]:List ai) ([]:List Int))
def jJ.fin (L:Mem)  (r:ab)(s:St):Prop:=∃dz gX gY:Nat,aE Tryz.prog (s.open D2) Tryz.f16.results.toList=some (.ptr dz 0)∧Has s.h ((dz,.ob [.bool r.aj,.rs gX 0 r.aa.length 4,.rs gY 0 r.ae.length 1])::(gX,.sl r.aa.length 4 (ah.l r.aa))::(gY,.sl r.ae.length 1 (af.l r.ae))::L)
def We (cf:CallF)(m:Nat):Prop:=∀ (r:ab),jJ.f m  = some r→∀h L,Has h (L)→∀xs,xs.map aN=[]→∃dz gX gY h',cf 16 xs h=some (.ptr dz 0,h')∧Has h' ((dz,.ob [.bool r.aj,.rs gX 0 r.aa.length 4,.rs gY 0 r.ae.length 1])::(gX,.sl r.aa.length 4 (ah.l r.aa))::(gY,.sl r.ae.length 1 (af.l r.ae))::L)
section
variable {cf:CallF}{m:Nat}
theorem vc {aS:FuncId→bR}(ha:aS 16=D2)   (h:AHeap)(L:Mem)  (o:Has h (L)){out:ab}(H:jJ.f m  = some out) :
  ∃r h',a6 Tryz.prog aS cf m 16 [] h=some (r,h')∧∃dz gX gY:Nat,r = .ptr dz 0∧Has h' ((dz,.ob [.bool out.aj,.rs gX 0 out.aa.length 4,.rs gY 0 out.ae.length 1])::(gX,.sl out.aa.length 4 (ah.l out.aa))::(gY,.sl out.ae.length 1 (af.l out.ae))::L):=by
 refine aq (fn:=Tryz.f16) ha Tryz.func16 kr kr ?_
 refine aC (Q:=fun s=>jJ.fin L out s) (fun _ _ ⟨h1,dz,gX,gY,h2,h3⟩=>⟨h1,_,h2,dz,gX,gY,rfl,h3⟩) ?_
 have H:_=some out:=H
 unfold jJ.f at H
 show cZ _ cf D2 m _ ⟨[.any],[none],h⟩ _
 refine q1 <| qq ?_
 have o0:Has h (((0),.sl (([]:List ai).length) 4 (ah.l ([]:List ai)))::L):=Has.nil o 4
 have o1:Has h ((((0)),.sl (([]:List Int).length) 1 (af.l ([]:List Int)))::((0),.sl (([]:List ai).length) 4 (ah.l ([]:List ai)))::L):=Has.nil o0 1
 obtain⟨aM,h0,e0,o2⟩:=gM (cs:=[.bool true,.rs (0) 0 (([]:List ai).length) 4,.rs ((0)) 0 (([]:List Int).length) 1]) o1 kr
 obtain rfl:=oi H
 exact qr [.a 1 e0] <| qt <| ⟨.inl rfl,⟨aM,(0),((0)),kr,he (fe (fe (fe o2 1) 2) 2)⟩⟩
end
def AM:bR:=gC [0,1,4,5,10,14,25] [] [124,108,123,116,84,116,52,123,123] [] []
def cw.l0 (m:Nat)(a0:List Int)(b0:List Int):Nat→Int→Option (Sum Bool (Int))
 | 0,_=>none
 | k+1,i0=>if (decide (i0<(a0.length:Int)))=true then ((ix a0 i0).bind fun v0=>(ix b0 i0).bind fun v1=>if (!(v0==v1))=true then (some (.inl false)) else (cw.l0 m a0 b0 k (i64.wrap (i0+1)))) else (some (.inr i0))
def cw.f (m:Nat)(a0:List Int)(b0:List Int):Option (Bool):=if (!((a0.length:Int)==(b0.length:Int)))=true then (some false) else ((cw.l0 m a0 b0 m 0).bind fun bP=>match bP with | .inl r0=>some r0 | .inr i1=>some true)
def cw.fin (L:Mem)(r:Bool)(s:St):Prop:=∃av,aE Tryz.prog (s.open AM) Tryz.f35.results.toList=some av∧eR s.h av (.bool r)
def Wf (cf:CallF)(m:Nat):Prop:=∀(a0:List Int) (b0:List Int) (r:Bool),cw.f m a0 b0=some r→∀h xs,aP bH h xs [af.fz a0,af.fz b0]→cf 35 xs h=some (.bool r,h)
section
variable {cf:CallF}{m:Nat}
theorem cw.cb (L:Mem)(a0:List Int)(b0:List Int)   : cY Tryz.prog cf AM m (sub [1,1,0,1,0,0] (bN Tryz.f35)) (fun k (σ:Int)=>cw.l0 m a0 b0 k σ) (fun σ s=>match σ with | i0=>∃h0,s=⟨af.fz a0::af.fz b0 :: .any :: .i i0::nU [],[],h0⟩∧Has h0 (L)) (fun out e s=>(e = .exit 0∧∃i0,.inr i0=out∧∃nC vd Nj yO h0,s=⟨[nC,vd,.any,Nj,.any,yO,.any],[],h0⟩∧Has h0 (L))∨(e = .ret∧∃r,.inl r=out∧cw.fin L r s)):=by
 refine ln (fun _=>rfl) ?_
 rintro k i0 s out ⟨h0,rfl,o0⟩ H
 have H:cw.l0 m a0 b0 (k+1) i0=some out:=H
 refine qq <| qq <| q0 <| qc H (fun c1 H=>?_) (fun c1 H=>?_)
 ·refine qk <| qq <| qb 1 <| qq ?_
  obtain⟨v0,e0,H⟩:=aW H
  obtain⟨v1,e1,H⟩:=aW H
  refine qr [.v 2 (eK (k:=.i64) (E:=af) (l:=a0) gj e0),.v 3 (gK  (E:=af) (l:=a0) h0 A3 e0 rfl),.v 6 (eK (k:=.i64) (E:=af) (l:=b0) gj e1),.v 7 (gK  (E:=af) (l:=b0) h0 A3 e1 rfl)] <| qc H (fun c2 H=>?_) (fun c2 H=>?_)
  ·exact q1 <| qt <| Or.inr (⟨rfl,_,oi H,wI (.bool false) h0 (tP (fU))⟩)
  ·exact qk <| q0 <| ⟨i64.wrap (i0+1),⟨h0,kr,o0⟩,H⟩
 ·exact qx 0 <| Or.inl (⟨rfl,i0,oi H,af.fz a0,af.fz b0,.i i0,.bool (decide (i0<(a0.length:Int))),h0,kr,o0⟩)
theorem te {aS:FuncId→bR}(ha:aS 35=AM)  (a0:List Int)(b0:List Int)(h:AHeap)(L:Mem)  (o:Has h (L)){out:Bool}(H:cw.f m a0 b0=some out) :
  ∃r h',a6 Tryz.prog aS cf m 35 [af.fz a0,af.fz b0] h=some (r,h')∧eR h' r (.bool out):=by
 refine aq (fn:=Tryz.f35) ha Tryz.func35 kr kr ?_
 refine aC (Q:=fun s=>cw.fin L out s) (fun _ _ h=>h) ?_
 have H:_=some out:=H
 unfold cw.f at H
 show cZ _ cf AM m _ ⟨af.fz a0::af.fz b0::Ax [],[],h⟩ _
 refine q1 <| qq <| qq <| q0 <| qc H (fun c0 H=>?_) (fun c0 H=>?_)
 ·exact q1 <| qt <| fB H
 ·refine qk <| qq <| qq <| q0 <| qb 0 ?_
  obtain⟨bP,e2,H⟩:=aW H
  refine ql (cw.cb L a0 b0   0 _ _ ⟨h,kr,o⟩ e2) ?_
  rintro e s (⟨rfl,i1,rfl,g0,g1,g2,g3,h1,rfl,o1⟩| ⟨rfl,r0,rfl,rS⟩)
  ·try dsimp only at H
   exact q1 <| qt <| fB H
  ·try dsimp only at H
   obtain rfl:=oi H
   exact⟨.inl rfl,rS⟩
end
def D3:bR:=gC [0,2] [] [2,1] [] []
def b4.f (m:Nat)(s0:ab):Option (Bool):=some s0.aj
def b4.fin (L:Mem)(r:Bool)(s:St):Prop:=∃av,aE Tryz.prog (s.open D3) Tryz.f49.results.toList=some av∧eR s.h av (.bool r)
def RK (cf:CallF)(m:Nat):Prop:=∀(s0:ab) (r:Bool),b4.f m s0=some r→∀h xs,aP bH h xs [.fp [.bool s0.aj,ah.fz s0.aa,af.fz s0.ae] 0]→cf 49 xs h=some (.bool r,h)
section
variable {cf:CallF}{m:Nat}
theorem nD {aS:FuncId→bR}(ha:aS 49=D3)  (s0:ab)(h:AHeap)(L:Mem)  (o:Has h (L)){out:Bool}(H:b4.f m s0=some out) :
  ∃r h',a6 Tryz.prog aS cf m 49 [.fp [.bool s0.aj,ah.fz s0.aa,af.fz s0.ae] 0] h=some (r,h')∧eR h' r (.bool out):=by
 refine aq (fn:=Tryz.f49) ha Tryz.func49 kr kr ?_
 refine aC (Q:=fun s=>b4.fin L out s) (fun _ _ h=>h) ?_
 have H:_=some out:=H
 unfold b4.f at H
 show cZ _ cf D3 m _ ⟨[.fp [.bool s0.aj,ah.fz s0.aa,af.fz s0.ae] 0,.any],[],h⟩ _
 exact q1 <| qq <| q0 <| qt <| fB H
end
end Go.Proofs.YtifafejidnjckaaGreat
