/- Part of the proof: RG8. -/
import Derived.Test.YtmekcfdllhphlaaDoorK4
set_option linter.unusedVariables false
set_option linter.unusedSimpArgs false
set_option maxRecDepth 100000
open Bool renaming and_eq_true → Xt, true_and → YE
open List renaming length_append → Xy, length_map → XF, map_cons → XK, take_append_of_le_length → XV, take_of_length_le → XY, nil_append → XZ, drop_zero → X3, length_nil → Yh, all_cons → Yj
open Nat renaming le_refl → Xs, lt_succ_self → Ya, le_succ → YD, mul_one → YW
open Option renaming bind_some → Xo, map_some → Xu
namespace Go.R
open Go
def mn (x y:Int):Int:=if y<x then y else x
def mx (x y:Int):Int:=if y > x then y else x
def yF (l:List (Int × Int))(k:Int):Int × Bool:=
 match l with
 | []=>(0,false)
 | (a,b)::l=>if k=a then (b,true) else yF l k
def Fc (l:List (Int × Int))(k v:Int):List (Int × Int):=
 match l with
 | []=>[(k,v)]
 | (a,b)::l=>if k=a then (k,v)::l else (a,b)::Fc l k v
def s8 (n:Nat)(l:List (List Int × Int))(k:List Int):Bool:=k.length==n&&l.all fun p=>p.1.length==n
def s9 (l:List (List Int × Int))(k:List Int):Int × Bool:=
 match l with
 | []=>(0,false)
 | (a,b)::l=>if k=a then (b,true) else s9 l k
def H9 (n:Nat)(l:List (List Int × Int))(k:List Int):Option (Int × Bool):=if s8 n l k=true then some (s9 l k) else none
def Ax (l:List (List Int × Int))(k:List Int)(v:Int):List (List Int × Int):=
 match l with
 | []=>[(k,v)]
 | (a,b)::l=>if k=a then (k,v)::l else (a,b)::Ax l k v
def Na (n:Nat)(l:List (List Int × Int))(k:List Int)(v:Int):Option (List (List Int × Int)):=if s8 n l k=true then some (Ax l k v) else none
def ta (l:List (Int × Int)):List (AV × AV):=l.map fun p=>(.int .i64 p.1,.int .i64 p.2)
def uI (l:List (List Int × Int)):List (AV × AV):=l.map fun p=>(.agg (aa.l p.1),.int .i64 p.2)
theorem BI (k:Int):∀l:List (Int × Int),iu (.int .i64 k) (ta l)=some (if (yF l k).2=true then some (.int .i64 (yF l k).1) else none)
 | []=>rfl
 | (a,b)::l=>by
  simp only [ta,XK,iu,sameShape,fO,iR,yF]
  have ih:=BI k l
  simp only [ta] at ih
  by_cases h:k=a
  ·subst h; simp
  ·simp [h,ih]
theorem Fe (k v:Int):∀l:List (Int × Int),we (.int .i64 k) (.int .i64 v) (ta l)=some (ta (Fc l k v))
 | []=>rfl
 | (a,b)::l=>by
  have ih:=Fe k v l
  simp only [ta,XK,we,sameShape,fO,iR,Fc] at ih ⊢
  by_cases h:k=a
  ·subst h; simp
  ·simp [h,ih]
theorem Ay (l:List Int):(aa.l l).all jS=true:=by
 induction l with
 | nil=>rfl
 | cons a l ih=>rw [cw.dO,List.all_append,ih]; rfl
theorem iW (l:List Int):(aa.l l).length=l.length:=by rw [cw.cJ]; exact YW _
theorem nF:∀a b:List Int,lK (aa.l a) (aa.l b)=decide (a=b)
 | [],[]=>rfl
 | [],b::l=>by simp [cw.dO,cw.Jg,eI,lK]
 | a::l,[]=>by simp [cw.dO,cw.Jg,eI,lK]
 | a::l,b::l'=>by
  have ih:=nF l l'
  rw [cw.dO,cw.dO]
  show (iR (.int .i64 a) (.int .i64 b)&&lK (aa.l l) (aa.l l'))=_
  rw [ih]
  simp only [iR]
  by_cases h1:a=b<;>by_cases h2:l=l'<;>simp [h1,h2]
theorem BJ (n:Nat)(k:List Int)(hk:k.length=n):∀l:List (List Int × Int),(l.all fun p=>p.1.length==n)=true→iu (.agg (aa.l k)) (uI l)=some (if (s9 l k).2=true then some (.int .i64 (s9 l k).1) else none)
 | [],_=>rfl
 | (a,b)::l,h=>by
  simp only [Yj,Xt,beq_iff_eq] at h
  have ih:=BJ n k hk l h.2
  simp only [uI,XK,iu,sameShape,fO,s9,Ay,iW,hk,h.1,nF,beq_self_eq_true,YE,if_true] at ih ⊢
  by_cases Ia:k=a
  ·subst Ia; simp
  ·simp [Ia,ih]
theorem Ff (n:Nat)(k:List Int)(v:Int)(hk:k.length=n):∀l:List (List Int × Int),(l.all fun p=>p.1.length==n)=true→we (.agg (aa.l k)) (.int .i64 v) (uI l)=some (uI (Ax l k v))
 | [],_=>rfl
 | (a,b)::l,h=>by
  simp only [Yj,Xt,beq_iff_eq] at h
  have ih:=Ff n k v hk l h.2
  simp only [uI,XK,we,sameShape,fO,Ax,Ay,iW,hk,h.1,nF,beq_self_eq_true,YE,if_true] at ih ⊢
  by_cases Ia:k=a
  ·subst Ia; simp
  ·simp [Ia,ih]
def yG (P:Program)(t:TypeId):Bool:=
 match P.underlying t with
 | some (.map kt et)=>(P.underlying kt matches some (.int .i64))&&(match jC P et with | some (.int .i64 n)=>n==0 | _=>false)
 | _=>false
def yH (P:Program)(t:TypeId)(n:Nat):Bool:=
 match P.underlying t with
 | some (.map kt et)=>(match P.underlying kt with | some (.array m e)=>m==n&&(P.underlying e matches some (.int .i64))&&dZ P e==some 1 | _=>false)&&(match jC P et with | some (.int .i64 n)=>n==0 | _=>false)
 | _=>false
section
variable {P:Program}{h:AHeap}{K:Mem}{i q:Nat}{t:TypeId}{n:Nat}
theorem tc (T:yG P t=true):∃kt et,P.underlying t=some (.map kt et)∧(∀k,fP P kt (.int .i64 k)=true)∧jC P et=some (.int .i64 0):=by
 unfold yG at T
 split at T
 ·rename_i kt et ht
  simp only [Xt] at T
  obtain⟨h1,h2⟩:=T
  refine⟨kt,et,ht,fun k=>?_,?_⟩
  ·revert h1
   split
   ·rename_i hk; intro _; simp [fP,hk]
   ·intro h; cases h
  ·split at h2
   ·rename_i z hz; simp only [beq_iff_eq] at h2; subst h2; exact hz
   ·cases h2
 ·cases T
theorem te (T:yH P t n=true):∃kt et,P.underlying t=some (.map kt et)∧(∀k:List Int,k.length=n→fP P kt (.agg (aa.l k))=true)∧jC P et=some (.int .i64 0):=by
 unfold yH at T
 split at T
 ·rename_i kt et ht
  simp only [Xt] at T
  obtain⟨h1,h2⟩:=T
  refine⟨kt,et,ht,fun k hk=>?_,?_⟩
  ·split at h1
   ·rename_i m e pO
    simp only [Xt,beq_iff_eq] at h1
    obtain⟨⟨h3,h4⟩,h5⟩:=h1
    subst h3
    simp only [fP,pO,iW,hk,Ay,h5,beq_self_eq_true,YE,Bool.and_true]
    exact h4
   ·cases h1
  ·split at h2
   ·rename_i z hz; simp only [beq_iff_eq] at h2; subst h2; exact hz
   ·cases h2
 ·cases T
theorem Fg (o:Has h K):∃i h',(AV.mp h.next,h.alloc (.map []))=(AV.mp i,h')∧Has h' ((i,.mp [])::K):=
 ⟨h.next,_,rfl,o.new (fun k hk=>by rw [AHeap.alloc,cq,if_neg (by omega)]) (YD _) (.inr (Xs _)) (Ya _) ⟨by have:=o.pos; omega,by rw [AHeap.alloc,cq,if_pos rfl]⟩⟩
theorem P9 {l:List (Int × Int)}{k:Int}(T:yG P t=true)(o:Has h K)(hq:K[q]? = some (i,.mp (ta l))):fB P h t (.mp i) (.int .i64 k) true=some (.tup [.int .i64 (yF l k).1,.bool (yF l k).2])∧fB P h t (.mp i) (.int .i64 k) false=some (.int .i64 (yF l k).1):=by
 obtain⟨kt,et,h1,h2,h3⟩:=tc T
 obtain⟨⟨_,h4⟩,_⟩:=o.at_ _ _ _ hq
 have hz:(yF l k).2=false→(yF l k).1=0:=by
  clear hq h4
  induction l with
  | nil=>intro _; rfl
  | cons p l ih=>
   obtain⟨a,b⟩:=p
   simp only [yF]
   split
   ·intro h; cases h
   ·exact ih
 simp only [fB,h1,Xo,h2,Bool.true_eq_false,if_false,h4,BI]
 cases hc:(yF l k).2 with
 | true=>simp
 | false=>simp [h3,hz hc]
theorem Kq {l:List (List Int × Int)}{k:List Int}{r:Int × Bool}(T:yH P t n=true)(o:Has h K)(hq:K[q]? = some (i,.mp (uI l)))(hr:H9 n l k=some r):fB P h t (.mp i) (.agg (aa.l k)) true=some (.tup [.int .i64 r.1,.bool r.2])∧fB P h t (.mp i) (.agg (aa.l k)) false=some (.int .i64 r.1):=by
 obtain⟨kt,et,h1,h2,h3⟩:=te T
 obtain⟨⟨_,h4⟩,_⟩:=o.at_ _ _ _ hq
 unfold H9 at hr
 split at hr
 rotate_left
 ·cases hr
 rename_i hg
 cases hr
 simp only [s8,Xt,beq_iff_eq] at hg
 have hz:(s9 l k).2=false→(s9 l k).1=0:=by
  clear hq h4 hg
  induction l with
  | nil=>intro _; rfl
  | cons p l ih=>
   obtain⟨a,b⟩:=p
   simp only [s9]
   split
   ·intro h; cases h
   ·exact ih
 simp only [fB,h1,Xo,h2 k hg.1,Bool.true_eq_false,if_false,h4,BJ n k hg.1 l hg.2]
 cases hc:(s9 l k).2 with
 | true=>simp
 | false=>simp [h3,hz hc]
theorem Qa {l:List (Int × Int)}{k v:Int}(T:yG P t=true)(o:Has h K)(hq:K[q]? = some (i,.mp (ta l))):∃h',iv P h t (.mp i) (.int .i64 k) (.int .i64 v)=some h'∧Has h' (K.set q (i,.mp (ta (Fc l k v)))):=by
 obtain⟨kt,et,h1,h2,h3⟩:=tc T
 obtain⟨⟨h5,h4⟩,_⟩:=o.at_ _ _ _ hq
 refine⟨h.put i (.map (ta (Fc l k v))),?_,iB o hq ⟨h5,by rw [cq,if_pos rfl]⟩⟩
 simp only [iv,h1,Xo,h2]
 rw [if_neg (by simp [AV.lq])]
 simp only [h4,Xo,Fe,Xu]
theorem Qb {l r:List (List Int × Int)}{k:List Int}{v:Int}(T:yH P t n=true)(o:Has h K)(hq:K[q]? = some (i,.mp (uI l)))(hr:Na n l k v=some r):∃h',iv P h t (.mp i) (.agg (aa.l k)) (.int .i64 v)=some h'∧Has h' (K.set q (i,.mp (uI r))):=by
 obtain⟨kt,et,h1,h2,h3⟩:=te T
 obtain⟨⟨h5,h4⟩,_⟩:=o.at_ _ _ _ hq
 unfold Na at hr
 split at hr
 rotate_left
 ·cases hr
 rename_i hg
 cases hr
 simp only [s8,Xt,beq_iff_eq] at hg
 refine⟨h.put i (.map (uI (Ax l k v))),?_,iB o hq ⟨h5,by rw [cq,if_pos rfl]⟩⟩
 simp only [iv,h1,Xo,h2 k hg.1]
 rw [if_neg (by simp [AV.lq])]
 simp only [h4,Xo,Ff n k v hg.1 l hg.2,Xu]
theorem Nb {es:List (AV × AV)}{kt et:TypeId}(ht:P.underlying t=some (.map kt et))(o:Has h K)(hq:K[q]? = some (i,.mp es)):sr P h t (.mp i)=some (.int .i64 es.length):=by
 obtain⟨⟨_,h4⟩,_⟩:=o.at_ _ _ _ hq
 simp only [sr,ht,Xo,h4]
theorem Kr {l:List (List Int × Int)}{kt et:TypeId}(ht:P.underlying t=some (.map kt et))(o:Has h K)(hq:K[q]? = some (i,.mp (uI l))):sr P h t (.mp i)=some (.int .i64 l.length):=by
 rw [Nb ht o hq,uI,XF]
variable {l:List Int}{j:Int}{a:Int}{k:IntKind}{cs:List AV}
def Dr (P:Program)(t:TypeId)(n:Nat):Bool:=match P.underlying t with | some (.array m e)=>m==n&&dZ P e==some 1&&dZ P t==some n&&(eF P t==some true) | _=>false
theorem pW (T:Dr P t n=true):∃e,P.underlying t=some (.array n e)∧dZ P e=some 1∧dZ P t=some n∧eF P t=some true:=by
 unfold Dr at T
 split at T
 ·rename_i m e h
  simp only [Xt,beq_iff_eq] at T
  obtain⟨⟨⟨h1,h2⟩,h3⟩,h4⟩:=T
  subst h1
  exact⟨e,h,h2,h3,h4⟩
 ·cases T
theorem Ib (o:Has h K)(hc:cs=aa.l l)(hl:l.length≤1024:=by decide):∃i h',yz h cs=some (.ptr i 0,h')∧Has h' ((i,.sl l.length 1 (aa.l l))::K):=by
 subst hc
 refine⟨h.next,h.alloc (.cells (aa.l l)),?_,o.new (fun k hk=>by rw [AHeap.alloc,cq,if_neg (by omega)]) (YD _) (.inr (Xs _)) (Ya _) ⟨⟨cw.cJ,cw.oE (by omega)⟩,.inr ⟨by have:=o.pos; omega,[],by rw [AHeap.alloc,cq,if_pos rfl]; simp⟩⟩⟩
 unfold yz
 rw [if_pos]
 have:∀l:List Int,(aa.l l).all AV.cE=true:=fun l=>by
  induction l with
  | nil=>rfl
  | cons a l ih=>rw [cw.dO,List.all_append,ih]; rfl
 exact this l
theorem Ks (T:Dr P t n=true)(o:Has h K)(hq:K[q]? = some (i,.sl n 1 (aa.l l)))(hj:ix l j=some a):ec P t (.ptr i 0) (.int k j)=some (.ptr i (0+j.toNat*1)):=by
 obtain⟨e,h1,h2,_,_⟩:=pW T
 have hn:=di (E:=aa) o hq
 obtain⟨g1,g2,g3⟩:=gF hj
 simp only [ec,h1,Xo,h2]
 rw [if_pos ⟨g1,by omega⟩]
 rfl
theorem vw (o:Has h K)(hq:K[q]? = some (i,.sl n 1 (aa.l l)))(hn0:n≠0):i≠0∧∃rest,h.get i=some (.cells (aa.l l++rest)):=by
 obtain⟨⟨_,h1⟩,_⟩:=o.at_ _ _ _ hq
 rcases h1 with⟨_,h1⟩| h1
 ·exact absurd h1 hn0
 ·exact h1
theorem w7 (T:Dr P t n=true)(o:Has h K)(hq:K[q]? = some (i,.sl n 1 (aa.l l)))(hn0:n≠0:=by decide):bl P h t (.ptr i 0)=some (.agg (aa.l l)):=by
 obtain⟨e,h1,h2,h3,h4⟩:=pW T
 have hn:=di (E:=aa) o hq
 obtain⟨_,rest,h5⟩:=vw o hq hn0
 simp only [bl,jd,h5,Xo,iQ,h4,if_true,h3]
 rw [if_pos (by rw [Xy,iW]; omega),X3,XV (by rw [iW]; omega),XY (by rw [iW]; omega)]
theorem Kt {l':List Int}{x:AV}(T:Dr P t n=true)(o:Has h K)(hq:K[q]? = some (i,.sl n 1 (aa.l l)))(hx:x.cells=aa.l l')(hl:l'.length=n)(hn0:n≠0:=by decide):∃h',iT P h t (.ptr i 0) x=some h'∧Has h' (K.set q (i,.sl n 1 (aa.l l'))):=by
 obtain⟨e,h1,h2,h3,h4⟩:=pW T
 have hn:=di (E:=aa) o hq
 obtain⟨h6,rest,h5⟩:=vw o hq hn0
 have nZ:(aa.l l').all AV.cE=true:=by
  clear hx hl
  induction l' with
  | nil=>rfl
  | cons a l ih=>rw [cw.dO,List.all_append,ih]; rfl
 have Af:=(o.at_ _ _ _ hq).1.1.2
 refine⟨h.put i (.cells (aa.l l'++rest)),?_,iB o hq ⟨⟨by rw [iW,hl,YW],by rw [iW,hl,hn,←iW]; exact Af⟩,.inr ⟨h6,rest,by rw [cq,if_pos rfl]⟩⟩⟩
 simp only [iT,h5,Xo,gB,h3,hx]
 rw [if_pos ⟨by rw [iW,hl],nZ,by rw [Xy,iW]; omega⟩,Xu]
 have:=kh (aa.l l) (aa.l l') [] rest (by rw [iW,iW]; omega)
 simp only [XZ,Yh] at this
 rw [this]
end
end Go.R
