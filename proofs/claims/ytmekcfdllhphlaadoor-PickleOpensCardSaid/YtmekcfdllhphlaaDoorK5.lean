/- Part of the proof: RG8. -/
import Derived.Test.YtmekcfdllhphlaaDoorK4
set_option linter.unusedVariables false
set_option linter.unusedSimpArgs false
set_option maxRecDepth 100000
open Bool renaming and_eq_true → Xw, true_and → YH
open List renaming length_append → XB, length_map → XI, map_cons → XN, take_append_of_le_length → XY, take_of_length_le → X1, nil_append → X2, drop_zero → X6, length_nil → Yk, all_cons → Ym
open Nat renaming le_refl → Xv, lt_succ_self → Yd, le_succ → YG, mul_one → YZ
open Option renaming bind_some → Xr, map_some → Xx
namespace Go.R
open Go
def mn (x y:Int):Int:=if y<x then y else x
def mx (x y:Int):Int:=if y > x then y else x
def yG (l:List (Int × Int))(k:Int):Int × Bool:=
 match l with
 | []=>(0,false)
 | (a,b)::l=>if k=a then (b,true) else yG l k
def Fh (l:List (Int × Int))(k v:Int):List (Int × Int):=
 match l with
 | []=>[(k,v)]
 | (a,b)::l=>if k=a then (k,v)::l else (a,b)::Fh l k v
def ta (n:Nat)(l:List (List Int × Int))(k:List Int):Bool:=k.length==n&&l.all fun p=>p.1.length==n
def tc (l:List (List Int × Int))(k:List Int):Int × Bool:=
 match l with
 | []=>(0,false)
 | (a,b)::l=>if k=a then (b,true) else tc l k
def Ic (n:Nat)(l:List (List Int × Int))(k:List Int):Option (Int × Bool):=if ta n l k=true then some (tc l k) else none
def AB (l:List (List Int × Int))(k:List Int)(v:Int):List (List Int × Int):=
 match l with
 | []=>[(k,v)]
 | (a,b)::l=>if k=a then (k,v)::l else (a,b)::AB l k v
def Nd (n:Nat)(l:List (List Int × Int))(k:List Int)(v:Int):Option (List (List Int × Int)):=if ta n l k=true then some (AB l k v) else none
def te (l:List (Int × Int)):List (AV × AV):=l.map fun p=>(.int .i64 p.1,.int .i64 p.2)
def uJ (l:List (List Int × Int)):List (AV × AV):=l.map fun p=>(.agg (aa.l p.1),.int .i64 p.2)
theorem BM (k:Int):∀l:List (Int × Int),iu (.int .i64 k) (te l)=some (if (yG l k).2=true then some (.int .i64 (yG l k).1) else none)
 | []=>rfl
 | (a,b)::l=>by
  simp only [te,XN,iu,sameShape,fN,iR,yG]
  have ih:=BM k l
  simp only [te] at ih
  by_cases h:k=a
  ·subst h; simp
  ·simp [h,ih]
theorem Fi (k v:Int):∀l:List (Int × Int),wg (.int .i64 k) (.int .i64 v) (te l)=some (te (Fh l k v))
 | []=>rfl
 | (a,b)::l=>by
  have ih:=Fi k v l
  simp only [te,XN,wg,sameShape,fN,iR,Fh] at ih ⊢
  by_cases h:k=a
  ·subst h; simp
  ·simp [h,ih]
theorem AD (l:List Int):(aa.l l).all jS=true:=by
 induction l with
 | nil=>rfl
 | cons a l ih=>rw [cw.dO,List.all_append,ih]; rfl
theorem iW (l:List Int):(aa.l l).length=l.length:=by rw [cw.cJ]; exact YZ _
theorem nF:∀a b:List Int,lK (aa.l a) (aa.l b)=decide (a=b)
 | [],[]=>rfl
 | [],b::l=>by simp [cw.dO,cw.Jj,eI,lK]
 | a::l,[]=>by simp [cw.dO,cw.Jj,eI,lK]
 | a::l,b::l'=>by
  have ih:=nF l l'
  rw [cw.dO,cw.dO]
  show (iR (.int .i64 a) (.int .i64 b)&&lK (aa.l l) (aa.l l'))=_
  rw [ih]
  simp only [iR]
  by_cases h1:a=b<;>by_cases h2:l=l'<;>simp [h1,h2]
theorem BN (n:Nat)(k:List Int)(hk:k.length=n):∀l:List (List Int × Int),(l.all fun p=>p.1.length==n)=true→iu (.agg (aa.l k)) (uJ l)=some (if (tc l k).2=true then some (.int .i64 (tc l k).1) else none)
 | [],_=>rfl
 | (a,b)::l,h=>by
  simp only [Ym,Xw,beq_iff_eq] at h
  have ih:=BN n k hk l h.2
  simp only [uJ,XN,iu,sameShape,fN,tc,AD,iW,hk,h.1,nF,beq_self_eq_true,YH,if_true] at ih ⊢
  by_cases Ie:k=a
  ·subst Ie; simp
  ·simp [Ie,ih]
theorem Fj (n:Nat)(k:List Int)(v:Int)(hk:k.length=n):∀l:List (List Int × Int),(l.all fun p=>p.1.length==n)=true→wg (.agg (aa.l k)) (.int .i64 v) (uJ l)=some (uJ (AB l k v))
 | [],_=>rfl
 | (a,b)::l,h=>by
  simp only [Ym,Xw,beq_iff_eq] at h
  have ih:=Fj n k v hk l h.2
  simp only [uJ,XN,wg,sameShape,fN,AB,AD,iW,hk,h.1,nF,beq_self_eq_true,YH,if_true] at ih ⊢
  by_cases Ie:k=a
  ·subst Ie; simp
  ·simp [Ie,ih]
def yH (P:Program)(t:TypeId):Bool:=
 match P.underlying t with
 | some (.map kt et)=>(P.underlying kt matches some (.int .i64))&&(match jC P et with | some (.int .i64 n)=>n==0 | _=>false)
 | _=>false
def yI (P:Program)(t:TypeId)(n:Nat):Bool:=
 match P.underlying t with
 | some (.map kt et)=>(match P.underlying kt with | some (.array m e)=>m==n&&(P.underlying e matches some (.int .i64))&&dZ P e==some 1 | _=>false)&&(match jC P et with | some (.int .i64 n)=>n==0 | _=>false)
 | _=>false
section
variable {P:Program}{h:AHeap}{K:Mem}{i q:Nat}{t:TypeId}{n:Nat}
theorem tg (T:yH P t=true):∃kt et,P.underlying t=some (.map kt et)∧(∀k,fO P kt (.int .i64 k)=true)∧jC P et=some (.int .i64 0):=by
 unfold yH at T
 split at T
 ·rename_i kt et ht
  simp only [Xw] at T
  obtain⟨h1,h2⟩:=T
  refine⟨kt,et,ht,fun k=>?_,?_⟩
  ·revert h1
   split
   ·rename_i hk; intro _; simp [fO,hk]
   ·intro h; cases h
  ·split at h2
   ·rename_i z hz; simp only [beq_iff_eq] at h2; subst h2; exact hz
   ·cases h2
 ·cases T
theorem th (T:yI P t n=true):∃kt et,P.underlying t=some (.map kt et)∧(∀k:List Int,k.length=n→fO P kt (.agg (aa.l k))=true)∧jC P et=some (.int .i64 0):=by
 unfold yI at T
 split at T
 ·rename_i kt et ht
  simp only [Xw] at T
  obtain⟨h1,h2⟩:=T
  refine⟨kt,et,ht,fun k hk=>?_,?_⟩
  ·split at h1
   ·rename_i m e pP
    simp only [Xw,beq_iff_eq] at h1
    obtain⟨⟨h3,h4⟩,h5⟩:=h1
    subst h3
    simp only [fO,pP,iW,hk,AD,h5,beq_self_eq_true,YH,Bool.and_true]
    exact h4
   ·cases h1
  ·split at h2
   ·rename_i z hz; simp only [beq_iff_eq] at h2; subst h2; exact hz
   ·cases h2
 ·cases T
theorem Fk (o:Has h K):∃i h',(AV.mp h.next,h.alloc (.map []))=(AV.mp i,h')∧Has h' ((i,.mp [])::K):=
 ⟨h.next,_,rfl,o.new (fun k hk=>by rw [AHeap.alloc,cq,if_neg (by omega)]) (YG _) (.inr (Xv _)) (Yd _) ⟨by have:=o.pos; omega,by rw [AHeap.alloc,cq,if_pos rfl]⟩⟩
theorem Qc {l:List (Int × Int)}{k:Int}(T:yH P t=true)(o:Has h K)(hq:K[q]? = some (i,.mp (te l))):fB P h t (.mp i) (.int .i64 k) true=some (.tup [.int .i64 (yG l k).1,.bool (yG l k).2])∧fB P h t (.mp i) (.int .i64 k) false=some (.int .i64 (yG l k).1):=by
 obtain⟨kt,et,h1,h2,h3⟩:=tg T
 obtain⟨⟨_,h4⟩,_⟩:=o.at_ _ _ _ hq
 have hz:(yG l k).2=false→(yG l k).1=0:=by
  clear hq h4
  induction l with
  | nil=>intro _; rfl
  | cons p l ih=>
   obtain⟨a,b⟩:=p
   simp only [yG]
   split
   ·intro h; cases h
   ·exact ih
 simp only [fB,h1,Xr,h2,Bool.true_eq_false,if_false,h4,BM]
 cases hc:(yG l k).2 with
 | true=>simp
 | false=>simp [h3,hz hc]
theorem Kt {l:List (List Int × Int)}{k:List Int}{r:Int × Bool}(T:yI P t n=true)(o:Has h K)(hq:K[q]? = some (i,.mp (uJ l)))(hr:Ic n l k=some r):fB P h t (.mp i) (.agg (aa.l k)) true=some (.tup [.int .i64 r.1,.bool r.2])∧fB P h t (.mp i) (.agg (aa.l k)) false=some (.int .i64 r.1):=by
 obtain⟨kt,et,h1,h2,h3⟩:=th T
 obtain⟨⟨_,h4⟩,_⟩:=o.at_ _ _ _ hq
 unfold Ic at hr
 split at hr
 rotate_left
 ·cases hr
 rename_i hg
 cases hr
 simp only [ta,Xw,beq_iff_eq] at hg
 have hz:(tc l k).2=false→(tc l k).1=0:=by
  clear hq h4 hg
  induction l with
  | nil=>intro _; rfl
  | cons p l ih=>
   obtain⟨a,b⟩:=p
   simp only [tc]
   split
   ·intro h; cases h
   ·exact ih
 simp only [fB,h1,Xr,h2 k hg.1,Bool.true_eq_false,if_false,h4,BN n k hg.1 l hg.2]
 cases hc:(tc l k).2 with
 | true=>simp
 | false=>simp [h3,hz hc]
theorem Qd {l:List (Int × Int)}{k v:Int}(T:yH P t=true)(o:Has h K)(hq:K[q]? = some (i,.mp (te l))):∃h',iv P h t (.mp i) (.int .i64 k) (.int .i64 v)=some h'∧Has h' (K.set q (i,.mp (te (Fh l k v)))):=by
 obtain⟨kt,et,h1,h2,h3⟩:=tg T
 obtain⟨⟨h5,h4⟩,_⟩:=o.at_ _ _ _ hq
 refine⟨h.put i (.map (te (Fh l k v))),?_,iB o hq ⟨h5,by rw [cq,if_pos rfl]⟩⟩
 simp only [iv,h1,Xr,h2]
 rw [if_neg (by simp [AV.lq])]
 simp only [h4,Xr,Fi,Xx]
theorem Qe {l r:List (List Int × Int)}{k:List Int}{v:Int}(T:yI P t n=true)(o:Has h K)(hq:K[q]? = some (i,.mp (uJ l)))(hr:Nd n l k v=some r):∃h',iv P h t (.mp i) (.agg (aa.l k)) (.int .i64 v)=some h'∧Has h' (K.set q (i,.mp (uJ r))):=by
 obtain⟨kt,et,h1,h2,h3⟩:=th T
 obtain⟨⟨h5,h4⟩,_⟩:=o.at_ _ _ _ hq
 unfold Nd at hr
 split at hr
 rotate_left
 ·cases hr
 rename_i hg
 cases hr
 simp only [ta,Xw,beq_iff_eq] at hg
 refine⟨h.put i (.map (uJ (AB l k v))),?_,iB o hq ⟨h5,by rw [cq,if_pos rfl]⟩⟩
 simp only [iv,h1,Xr,h2 k hg.1]
 rw [if_neg (by simp [AV.lq])]
 simp only [h4,Xr,Fj n k v hg.1 l hg.2,Xx]
theorem Ng {es:List (AV × AV)}{kt et:TypeId}(ht:P.underlying t=some (.map kt et))(o:Has h K)(hq:K[q]? = some (i,.mp es)):su P h t (.mp i)=some (.int .i64 es.length):=by
 obtain⟨⟨_,h4⟩,_⟩:=o.at_ _ _ _ hq
 simp only [su,ht,Xr,h4]
theorem Ku {l:List (List Int × Int)}{kt et:TypeId}(ht:P.underlying t=some (.map kt et))(o:Has h K)(hq:K[q]? = some (i,.mp (uJ l))):su P h t (.mp i)=some (.int .i64 l.length):=by
 rw [Ng ht o hq,uJ,XI]
variable {l:List Int}{j:Int}{a:Int}{k:IntKind}{cs:List AV}
def Dv (P:Program)(t:TypeId)(n:Nat):Bool:=match P.underlying t with | some (.array m e)=>m==n&&dZ P e==some 1&&dZ P t==some n&&(eF P t==some true) | _=>false
theorem pX (T:Dv P t n=true):∃e,P.underlying t=some (.array n e)∧dZ P e=some 1∧dZ P t=some n∧eF P t=some true:=by
 unfold Dv at T
 split at T
 ·rename_i m e h
  simp only [Xw,beq_iff_eq] at T
  obtain⟨⟨⟨h1,h2⟩,h3⟩,h4⟩:=T
  subst h1
  exact⟨e,h,h2,h3,h4⟩
 ·cases T
theorem If (o:Has h K)(hc:cs=aa.l l)(hl:l.length≤1024:=by decide):∃i h',yA h cs=some (.ptr i 0,h')∧Has h' ((i,.sl l.length 1 (aa.l l))::K):=by
 subst hc
 refine⟨h.next,h.alloc (.cells (aa.l l)),?_,o.new (fun k hk=>by rw [AHeap.alloc,cq,if_neg (by omega)]) (YG _) (.inr (Xv _)) (Yd _) ⟨⟨cw.cJ,cw.oE (by omega)⟩,.inr ⟨by have:=o.pos; omega,[],by rw [AHeap.alloc,cq,if_pos rfl]; simp⟩⟩⟩
 unfold yA
 rw [if_pos]
 have:∀l:List Int,(aa.l l).all AV.cE=true:=fun l=>by
  induction l with
  | nil=>rfl
  | cons a l ih=>rw [cw.dO,List.all_append,ih]; rfl
 exact this l
theorem Kv (T:Dv P t n=true)(o:Has h K)(hq:K[q]? = some (i,.sl n 1 (aa.l l)))(hj:ix l j=some a):ec P t (.ptr i 0) (.int k j)=some (.ptr i (0+j.toNat*1)):=by
 obtain⟨e,h1,h2,_,_⟩:=pX T
 have hn:=di (E:=aa) o hq
 obtain⟨g1,g2,g3⟩:=gE hj
 simp only [ec,h1,Xr,h2]
 rw [if_pos ⟨g1,by omega⟩]
 rfl
theorem vz (o:Has h K)(hq:K[q]? = some (i,.sl n 1 (aa.l l)))(hn0:n≠0):i≠0∧∃rest,h.get i=some (.cells (aa.l l++rest)):=by
 obtain⟨⟨_,h1⟩,_⟩:=o.at_ _ _ _ hq
 rcases h1 with⟨_,h1⟩| h1
 ·exact absurd h1 hn0
 ·exact h1
theorem w8 (T:Dv P t n=true)(o:Has h K)(hq:K[q]? = some (i,.sl n 1 (aa.l l)))(hn0:n≠0:=by decide):bl P h t (.ptr i 0)=some (.agg (aa.l l)):=by
 obtain⟨e,h1,h2,h3,h4⟩:=pX T
 have hn:=di (E:=aa) o hq
 obtain⟨_,rest,h5⟩:=vz o hq hn0
 simp only [bl,jd,h5,Xr,iQ,h4,if_true,h3]
 rw [if_pos (by rw [XB,iW]; omega),X6,XY (by rw [iW]; omega),X1 (by rw [iW]; omega)]
theorem Kw {l':List Int}{x:AV}(T:Dv P t n=true)(o:Has h K)(hq:K[q]? = some (i,.sl n 1 (aa.l l)))(hx:x.cells=aa.l l')(hl:l'.length=n)(hn0:n≠0:=by decide):∃h',iT P h t (.ptr i 0) x=some h'∧Has h' (K.set q (i,.sl n 1 (aa.l l'))):=by
 obtain⟨e,h1,h2,h3,h4⟩:=pX T
 have hn:=di (E:=aa) o hq
 obtain⟨h6,rest,h5⟩:=vz o hq hn0
 have nZ:(aa.l l').all AV.cE=true:=by
  clear hx hl
  induction l' with
  | nil=>rfl
  | cons a l ih=>rw [cw.dO,List.all_append,ih]; rfl
 have Aj:=(o.at_ _ _ _ hq).1.1.2
 refine⟨h.put i (.cells (aa.l l'++rest)),?_,iB o hq ⟨⟨by rw [iW,hl,YZ],by rw [iW,hl,hn,←iW]; exact Aj⟩,.inr ⟨h6,rest,by rw [cq,if_pos rfl]⟩⟩⟩
 simp only [iT,h5,Xr,gA,h3,hx]
 rw [if_pos ⟨by rw [iW,hl],nZ,by rw [XB,iW]; omega⟩,Xx]
 have:=kh (aa.l l) (aa.l l') [] rest (by rw [iW,iW]; omega)
 simp only [X2,Yk] at this
 rw [this]
end
end Go.R
