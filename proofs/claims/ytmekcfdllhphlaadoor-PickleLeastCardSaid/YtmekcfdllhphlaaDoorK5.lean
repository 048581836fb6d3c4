/- Part of the proof: RG8. -/
import Derived.Test.YtmekcfdllhphlaaDoorK4
set_option linter.unusedVariables false
set_option linter.unusedSimpArgs false
set_option maxRecDepth 100000
open Bool renaming and_eq_true → QR, true_and → R5
open List renaming length_append → Q0, take_append_of_le_length → Rn, map_cons → Rq, drop_zero → Rr, nil_append → Rv, take_of_length_le → Rw, length_map → RE, all_cons → RL, length_nil → RN
open Nat renaming le_refl → QS, lt_succ_self → RB, le_succ → RX
open Option renaming bind_some → QM, map_some → QU
namespace Go.R
open Go
def mn (x y:Int):Int:=if y<x then y else x
def mx (x y:Int):Int:=if y > x then y else x
def ub (l:List (Int × Int))(k:Int):Int × Bool:=
 match l with
 | []=>(0,false)
 | (a,b)::l=>if k=a then (b,true) else ub l k
def AR (l:List (Int × Int))(k v:Int):List (Int × Int):=
 match l with
 | []=>[(k,v)]
 | (a,b)::l=>if k=a then (k,v)::l else (a,b)::AR l k v
def pF (n:Nat)(l:List (List Int × Int))(k:List Int):Bool:=k.length==n&&l.all fun p=>p.1.length==n
def pG (l:List (List Int × Int))(k:List Int):Int × Bool:=
 match l with
 | []=>(0,false)
 | (a,b)::l=>if k=a then (b,true) else pG l k
def Dd (n:Nat)(l:List (List Int × Int))(k:List Int):Option (Int × Bool):=if pF n l k=true then some (pG l k) else none
def wi (l:List (List Int × Int))(k:List Int)(v:Int):List (List Int × Int):=
 match l with
 | []=>[(k,v)]
 | (a,b)::l=>if k=a then (k,v)::l else (a,b)::wi l k v
def HH (n:Nat)(l:List (List Int × Int))(k:List Int)(v:Int):Option (List (List Int × Int)):=if pF n l k=true then some (wi l k v) else none
def pH (l:List (Int × Int)):List (AV × AV):=l.map fun p=>(.int .i64 p.1,.int .i64 p.2)
def qP (l:List (List Int × Int)):List (AV × AV):=l.map fun p=>(.agg (af.l p.1),.int .i64 p.2)
theorem xB (k:Int):∀l:List (Int × Int),fD (.int .i64 k) (pH l)=some (if (ub l k).2=true then some (.int .i64 (ub l k).1) else none)
 | []=>rfl
 | (a,b)::l=>by
  simp only [pH,Rq,fD,sameShape,dV,fZ,ub]
  have ih:=xB k l
  simp only [pH] at ih
  by_cases h:k=a
  ·subst h; simp
  ·simp [h,ih]
theorem AS (k v:Int):∀l:List (Int × Int),r9 (.int .i64 k) (.int .i64 v) (pH l)=some (pH (AR l k v))
 | []=>rfl
 | (a,b)::l=>by
  have ih:=AS k v l
  simp only [pH,Rq,r9,sameShape,dV,fZ,AR] at ih ⊢
  by_cases h:k=a
  ·subst h; simp
  ·simp [h,ih]
theorem wj (l:List Int):(af.l l).all hY=true:=by
 induction l with
 | nil=>rfl
 | cons a l ih=>rw [bQ.dF,List.all_append,ih]; rfl
theorem gg (l:List Int):(af.l l).length=l.length:=by rw [bQ.cd]; exact Nat.mul_one _
theorem k8:∀a b:List Int,jC (af.l a) (af.l b)=decide (a=b)
 | [],[]=>rfl
 | [],b::l=>by simp [bQ.dF,bQ.D9,eI,jC]
 | a::l,[]=>by simp [bQ.dF,bQ.D9,eI,jC]
 | a::l,b::l'=>by
  have ih:=k8 l l'
  rw [bQ.dF,bQ.dF]
  show (fZ (.int .i64 a) (.int .i64 b)&&jC (af.l l) (af.l l'))=_
  rw [ih]
  simp only [fZ]
  by_cases h1:a=b<;>by_cases h2:l=l'<;>simp [h1,h2]
theorem xC (n:Nat)(k:List Int)(hk:k.length=n):∀l:List (List Int × Int),(l.all fun p=>p.1.length==n)=true→fD (.agg (af.l k)) (qP l)=some (if (pG l k).2=true then some (.int .i64 (pG l k).1) else none)
 | [],_=>rfl
 | (a,b)::l,h=>by
  simp only [RL,QR,beq_iff_eq] at h
  have ih:=xC n k hk l h.2
  simp only [qP,Rq,fD,sameShape,dV,pG,wj,gg,hk,h.1,k8,beq_self_eq_true,R5,if_true] at ih ⊢
  by_cases De:k=a
  ·subst De; simp
  ·simp [De,ih]
theorem AT (n:Nat)(k:List Int)(v:Int)(hk:k.length=n):∀l:List (List Int × Int),(l.all fun p=>p.1.length==n)=true→r9 (.agg (af.l k)) (.int .i64 v) (qP l)=some (qP (wi l k v))
 | [],_=>rfl
 | (a,b)::l,h=>by
  simp only [RL,QR,beq_iff_eq] at h
  have ih:=AT n k v hk l h.2
  simp only [qP,Rq,r9,sameShape,dV,wi,wj,gg,hk,h.1,k8,beq_self_eq_true,R5,if_true] at ih ⊢
  by_cases De:k=a
  ·subst De; simp
  ·simp [De,ih]
def uc (P:Program)(t:TypeId):Bool:=
 match P.underlying t with
 | some (.map kt et)=>(P.underlying kt matches some (.int .i64))&&(match gK P et with | some (.int .i64 n)=>n==0 | _=>false)
 | _=>false
def ud (P:Program)(t:TypeId)(n:Nat):Bool:=
 match P.underlying t with
 | some (.map kt et)=>(match P.underlying kt with | some (.array m e)=>m==n&&(P.underlying e matches some (.int .i64))&&dv P e==some 1 | _=>false)&&(match gK P et with | some (.int .i64 n)=>n==0 | _=>false)
 | _=>false
section
variable {P:Program}{h:AHeap}{K:Mem}{i q:Nat}{t:TypeId}{n:Nat}
theorem pI (T:uc P t=true):∃kt et,P.underlying t=some (.map kt et)∧(∀k,dW P kt (.int .i64 k)=true)∧gK P et=some (.int .i64 0):=by
 unfold uc at T
 split at T
 ·rename_i kt et ht
  simp only [QR] at T
  obtain⟨h1,h2⟩:=T
  refine⟨kt,et,ht,fun k=>?_,?_⟩
  ·revert h1
   split
   ·rename_i hk; intro _; simp [dW,hk]
   ·intro h; cases h
  ·split at h2
   ·rename_i z hz; simp only [beq_iff_eq] at h2; subst h2; exact hz
   ·cases h2
 ·cases T
theorem pJ (T:ud P t n=true):∃kt et,P.underlying t=some (.map kt et)∧(∀k:List Int,k.length=n→dW P kt (.agg (af.l k))=true)∧gK P et=some (.int .i64 0):=by
 unfold ud at T
 split at T
 ·rename_i kt et ht
  simp only [QR] at T
  obtain⟨h1,h2⟩:=T
  refine⟨kt,et,ht,fun k hk=>?_,?_⟩
  ·split at h1
   ·rename_i m e mR
    simp only [QR,beq_iff_eq] at h1
    obtain⟨⟨h3,h4⟩,h5⟩:=h1
    subst h3
    simp only [dW,mR,gg,hk,wj,h5,beq_self_eq_true,R5,Bool.and_true]
    exact h4
   ·cases h1
  ·split at h2
   ·rename_i z hz; simp only [beq_iff_eq] at h2; subst h2; exact hz
   ·cases h2
 ·cases T
theorem AU (o:Has h K):∃i h',(AV.mp h.next,h.alloc (.map []))=(AV.mp i,h')∧Has h' ((i,.mp [])::K):=
 ⟨h.next,_,rfl,o.new (fun k hk=>by rw [AHeap.alloc,cF,if_neg (by omega)]) (RX _) (.inr (QS _)) (RB _) ⟨by have:=o.pos; omega,by rw [AHeap.alloc,cF,if_pos rfl]⟩⟩
theorem J7 {l:List (Int × Int)}{k:Int}(T:uc P t=true)(o:Has h K)(hq:K[q]? = some (i,.mp (pH l))):dO P h t (.mp i) (.int .i64 k) true=some (.tup [.int .i64 (ub l k).1,.bool (ub l k).2])∧dO P h t (.mp i) (.int .i64 k) false=some (.int .i64 (ub l k).1):=by
 obtain⟨kt,et,h1,h2,h3⟩:=pI T
 obtain⟨⟨_,h4⟩,_⟩:=o.at_ _ _ _ hq
 have hz:(ub l k).2=false→(ub l k).1=0:=by
  clear hq h4
  induction l with
  | nil=>intro _; rfl
  | cons p l ih=>
   obtain⟨a,b⟩:=p
   simp only [ub]
   split
   ·intro h; cases h
   ·exact ih
 simp only [dO,h1,QM,h2,Bool.true_eq_false,if_false,h4,xB]
 cases hc:(ub l k).2 with
 | true=>simp
 | false=>simp [h3,hz hc]
theorem Fk {l:List (List Int × Int)}{k:List Int}{r:Int × Bool}(T:ud P t n=true)(o:Has h K)(hq:K[q]? = some (i,.mp (qP l)))(hr:Dd n l k=some r):dO P h t (.mp i) (.agg (af.l k)) true=some (.tup [.int .i64 r.1,.bool r.2])∧dO P h t (.mp i) (.agg (af.l k)) false=some (.int .i64 r.1):=by
 obtain⟨kt,et,h1,h2,h3⟩:=pJ T
 obtain⟨⟨_,h4⟩,_⟩:=o.at_ _ _ _ hq
 unfold Dd at hr
 split at hr
 rotate_left
 ·cases hr
 rename_i hg
 cases hr
 simp only [pF,QR,beq_iff_eq] at hg
 have hz:(pG l k).2=false→(pG l k).1=0:=by
  clear hq h4 hg
  induction l with
  | nil=>intro _; rfl
  | cons p l ih=>
   obtain⟨a,b⟩:=p
   simp only [pG]
   split
   ·intro h; cases h
   ·exact ih
 simp only [dO,h1,QM,h2 k hg.1,Bool.true_eq_false,if_false,h4,xC n k hg.1 l hg.2]
 cases hc:(pG l k).2 with
 | true=>simp
 | false=>simp [h3,hz hc]
theorem J8 {l:List (Int × Int)}{k v:Int}(T:uc P t=true)(o:Has h K)(hq:K[q]? = some (i,.mp (pH l))):∃h',fE P h t (.mp i) (.int .i64 k) (.int .i64 v)=some h'∧Has h' (K.set q (i,.mp (pH (AR l k v)))):=by
 obtain⟨kt,et,h1,h2,h3⟩:=pI T
 obtain⟨⟨h5,h4⟩,_⟩:=o.at_ _ _ _ hq
 refine⟨h.put i (.map (pH (AR l k v))),?_,kn o hq ⟨h5,by rw [cF,if_pos rfl]⟩⟩
 simp only [fE,h1,QM,h2]
 rw [if_neg (by simp [AV.js])]
 simp only [h4,QM,AS,QU]
theorem J9 {l r:List (List Int × Int)}{k:List Int}{v:Int}(T:ud P t n=true)(o:Has h K)(hq:K[q]? = some (i,.mp (qP l)))(hr:HH n l k v=some r):∃h',fE P h t (.mp i) (.agg (af.l k)) (.int .i64 v)=some h'∧Has h' (K.set q (i,.mp (qP r))):=by
 obtain⟨kt,et,h1,h2,h3⟩:=pJ T
 obtain⟨⟨h5,h4⟩,_⟩:=o.at_ _ _ _ hq
 unfold HH at hr
 split at hr
 rotate_left
 ·cases hr
 rename_i hg
 cases hr
 simp only [pF,QR,beq_iff_eq] at hg
 refine⟨h.put i (.map (qP (wi l k v))),?_,kn o hq ⟨h5,by rw [cF,if_pos rfl]⟩⟩
 simp only [fE,h1,QM,h2 k hg.1]
 rw [if_neg (by simp [AV.js])]
 simp only [h4,QM,AT n k v hg.1 l hg.2,QU]
theorem HI {es:List (AV × AV)}{kt et:TypeId}(ht:P.underlying t=some (.map kt et))(o:Has h K)(hq:K[q]? = some (i,.mp es)):oQ P h t (.mp i)=some (.int .i64 es.length):=by
 obtain⟨⟨_,h4⟩,_⟩:=o.at_ _ _ _ hq
 simp only [oQ,ht,QM,h4]
theorem Fl {l:List (List Int × Int)}{kt et:TypeId}(ht:P.underlying t=some (.map kt et))(o:Has h K)(hq:K[q]? = some (i,.mp (qP l))):oQ P h t (.mp i)=some (.int .i64 l.length):=by
 rw [HI ht o hq,qP,RE]
variable {l:List Int}{j:Int}{a:Int}{k:IntKind}{cs:List AV}
def ze (P:Program)(t:TypeId)(n:Nat):Bool:=match P.underlying t with | some (.array m e)=>m==n&&dv P e==some 1&&dv P t==some n&&(dD P t==some true) | _=>false
theorem mY (T:ze P t n=true):∃e,P.underlying t=some (.array n e)∧dv P e=some 1∧dv P t=some n∧dD P t=some true:=by
 unfold ze at T
 split at T
 ·rename_i m e h
  simp only [QR,beq_iff_eq] at T
  obtain⟨⟨⟨h1,h2⟩,h3⟩,h4⟩:=T
  subst h1
  exact⟨e,h,h2,h3,h4⟩
 ·cases T
theorem Df (o:Has h K)(hc:cs=af.l l)(hl:l.length≤1024:=by decide):∃i h',tU h cs=some (.ptr i 0,h')∧Has h' ((i,.sl l.length 1 (af.l l))::K):=by
 subst hc
 refine⟨h.next,h.alloc (.cells (af.l l)),?_,o.new (fun k hk=>by rw [AHeap.alloc,cF,if_neg (by omega)]) (RX _) (.inr (QS _)) (RB _) ⟨⟨bQ.cd,bQ.lV (by omega)⟩,.inr ⟨by have:=o.pos; omega,[],by rw [AHeap.alloc,cF,if_pos rfl]; simp⟩⟩⟩
 unfold tU
 rw [if_pos]
 have:∀l:List Int,(af.l l).all AV.bM=true:=fun l=>by
  induction l with
  | nil=>rfl
  | cons a l ih=>rw [bQ.dF,List.all_append,ih]; rfl
 exact this l
theorem Fm (T:ze P t n=true)(o:Has h K)(hq:K[q]? = some (i,.sl n 1 (af.l l)))(hj:ix l j=some a):cZ P t (.ptr i 0) (.int k j)=some (.ptr i (0+j.toNat*1)):=by
 obtain⟨e,h1,h2,_,_⟩:=mY T
 have hn:=cg (E:=af) o hq
 obtain⟨g1,g2,g3⟩:=eN hj
 simp only [cZ,h1,QM,h2]
 rw [if_pos ⟨g1,by omega⟩]
 rfl
theorem rH (o:Has h K)(hq:K[q]? = some (i,.sl n 1 (af.l l)))(hn0:n≠0):i≠0∧∃rest,h.get i=some (.cells (af.l l++rest)):=by
 obtain⟨⟨_,h1⟩,_⟩:=o.at_ _ _ _ hq
 rcases h1 with⟨_,h1⟩| h1
 ·exact absurd h1 hn0
 ·exact h1
theorem sM (T:ze P t n=true)(o:Has h K)(hq:K[q]? = some (i,.sl n 1 (af.l l)))(hn0:n≠0:=by decide):bg P h t (.ptr i 0)=some (.agg (af.l l)):=by
 obtain⟨e,h1,h2,h3,h4⟩:=mY T
 have hn:=cg (E:=af) o hq
 obtain⟨_,rest,h5⟩:=rH o hq hn0
 simp only [bg,gM,h5,QM,fY,h4,if_true,h3]
 rw [if_pos (by rw [Q0,gg]; omega),Rr,Rn (by rw [gg]; omega),Rw (by rw [gg]; omega)]
theorem Fo {l':List Int}{x:AV}(T:ze P t n=true)(o:Has h K)(hq:K[q]? = some (i,.sl n 1 (af.l l)))(hx:x.cells=af.l l')(hl:l'.length=n)(hn0:n≠0:=by decide):∃h',gd P h t (.ptr i 0) x=some h'∧Has h' (K.set q (i,.sl n 1 (af.l l'))):=by
 obtain⟨e,h1,h2,h3,h4⟩:=mY T
 have hn:=cg (E:=af) o hq
 obtain⟨h6,rest,h5⟩:=rH o hq hn0
 have lE:(af.l l').all AV.bM=true:=by
  clear hx hl
  induction l' with
  | nil=>rfl
  | cons a l ih=>rw [bQ.dF,List.all_append,ih]; rfl
 have xg:=(o.at_ _ _ _ hq).1.1.2
 refine⟨h.put i (.cells (af.l l'++rest)),?_,kn o hq ⟨⟨by rw [gg,hl,Nat.mul_one],by rw [gg,hl,hn,←gg]; exact xg⟩,.inr ⟨h6,rest,by rw [cF,if_pos rfl]⟩⟩⟩
 simp only [gd,h5,QM,eJ,h3,hx]
 rw [if_pos ⟨by rw [gg,hl],lE,by rw [Q0,gg]; omega⟩,QU]
 have:=iA (af.l l) (af.l l') [] rest (by rw [gg,gg]; omega)
 simp only [Rv,RN] at this
 rw [this]
end
end Go.R
