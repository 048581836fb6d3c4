/- Part of the proof: RG8. -/
import Derived.Test.YtifafejidnjckaaK4
set_option linter.unusedVariables false
set_option linter.unusedSimpArgs false
set_option maxRecDepth 100000
open Bool renaming and_eq_true → Vu, true_and → WZ
open List renaming length_append → VA, length_map → VN, length_nil → VT, map_cons → VU, take_append_of_le_length → VW, take_of_length_le → V4, nil_append → V7, drop_zero → Wa, all_cons → Wf
open Nat renaming le_refl → Vv, lt_succ_self → Wd, le_succ → Wy
open Option renaming bind_some → Vq, map_some → Vw
namespace Go.R
open Go
def mx (x y:Int):Int:=if y > x then y else x
def xh (l:List (Int × Int))(k:Int):Int × Bool:=
 match l with
 | []=>(0,false)
 | (a,b)::l=>if k=a then (b,true) else xh l k
def Cp (l:List (Int × Int))(k v:Int):List (Int × Int):=
 match l with
 | []=>[(k,v)]
 | (a,b)::l=>if k=a then (k,v)::l else (a,b)::Cp l k v
def ss (n:Nat)(l:List (List Int × Int))(k:List Int):Bool:=k.length==n&&l.all fun p=>p.1.length==n
def su (l:List (List Int × Int))(k:List Int):Int × Bool:=
 match l with
 | []=>(0,false)
 | (a,b)::l=>if k=a then (b,true) else su l k
def GK (n:Nat)(l:List (List Int × Int))(k:List Int):Option (Int × Bool):=if ss n l k=true then some (su l k) else none
def zd (l:List (List Int × Int))(k:List Int)(v:Int):List (List Int × Int):=
 match l with
 | []=>[(k,v)]
 | (a,b)::l=>if k=a then (k,v)::l else (a,b)::zd l k v
def Li (n:Nat)(l:List (List Int × Int))(k:List Int)(v:Int):Option (List (List Int × Int)):=if ss n l k=true then some (zd l k v) else none
def oO (l:List (Int × Int)):List (AV × AV):=l.map fun p=>(.int .i64 p.1,.int .i64 p.2)
def tA (l:List (List Int × Int)):List (AV × AV):=l.map fun p=>(.agg (af.l p.1),.int .i64 p.2)
theorem Am (k:Int):∀l:List (Int × Int),iB (.int .i64 k) (oO l)=some (if (xh l k).2=true then some (.int .i64 (xh l k).1) else none)
 | []=>rfl
 | (a,b)::l=>by
  simp only [oO,VU,iB,sameShape,fC,iP,xh]
  have ih:=Am k l
  simp only [oO] at ih
  by_cases h:k=a
  ·subst h; simp
  ·simp [h,ih]
theorem Eb (k v:Int):∀l:List (Int × Int),uJ (.int .i64 k) (.int .i64 v) (oO l)=some (oO (Cp l k v))
 | []=>rfl
 | (a,b)::l=>by
  have ih:=Eb k v l
  simp only [oO,VU,uJ,sameShape,fC,iP,Cp] at ih ⊢
  by_cases h:k=a
  ·subst h; simp
  ·simp [h,ih]
theorem ze (l:List Int):(af.l l).all kb=true:=by
 induction l with
 | nil=>rfl
 | cons a l ih=>rw [bM.eK,List.all_append,ih]; rfl
theorem iU (l:List Int):(af.l l).length=l.length:=by rw [bM.bK]; exact Nat.mul_one _
theorem lB:∀a b:List Int,lh (af.l a) (af.l b)=decide (a=b)
 | [],[]=>rfl
 | [],b::l=>by simp [bM.eK,bM.HO,eI,lh]
 | a::l,[]=>by simp [bM.eK,bM.HO,eI,lh]
 | a::l,b::l'=>by
  have ih:=lB l l'
  rw [bM.eK,bM.eK]
  show (iP (.int .i64 a) (.int .i64 b)&&lh (af.l l) (af.l l'))=_
  rw [ih]
  simp only [iP]
  by_cases h1:a=b<;>by_cases h2:l=l'<;>simp [h1,h2]
theorem An (n:Nat)(k:List Int)(hk:k.length=n):∀l:List (List Int × Int),(l.all fun p=>p.1.length==n)=true→iB (.agg (af.l k)) (tA l)=some (if (su l k).2=true then some (.int .i64 (su l k).1) else none)
 | [],_=>rfl
 | (a,b)::l,h=>by
  simp only [Wf,Vu,beq_iff_eq] at h
  have ih:=An n k hk l h.2
  simp only [tA,VU,iB,sameShape,fC,su,ze,iU,hk,h.1,lB,beq_self_eq_true,WZ,if_true] at ih ⊢
  by_cases Lj:k=a
  ·subst Lj; simp
  ·simp [Lj,ih]
theorem Ec (n:Nat)(k:List Int)(v:Int)(hk:k.length=n):∀l:List (List Int × Int),(l.all fun p=>p.1.length==n)=true→uJ (.agg (af.l k)) (.int .i64 v) (tA l)=some (tA (zd l k v))
 | [],_=>rfl
 | (a,b)::l,h=>by
  simp only [Wf,Vu,beq_iff_eq] at h
  have ih:=Ec n k v hk l h.2
  simp only [tA,VU,uJ,sameShape,fC,zd,ze,iU,hk,h.1,lB,beq_self_eq_true,WZ,if_true] at ih ⊢
  by_cases Lj:k=a
  ·subst Lj; simp
  ·simp [Lj,ih]
def xi (P:Program)(t:TypeId):Bool:=
 match P.underlying t with
 | some (.map kt et)=>(P.underlying kt matches some (.int .i64))&&(match iz P et with | some (.int .i64 n)=>n==0 | _=>false)
 | _=>false
def xj (P:Program)(t:TypeId)(n:Nat):Bool:=
 match P.underlying t with
 | some (.map kt et)=>(match P.underlying kt with | some (.array m e)=>m==n&&(P.underlying e matches some (.int .i64))&&fe P e==some 1 | _=>false)&&(match iz P et with | some (.int .i64 n)=>n==0 | _=>false)
 | _=>false
section
variable {P:Program}{h:AHeap}{K:Mem}{i q:Nat}{t:TypeId}{n:Nat}
theorem sv (T:xi P t=true):∃kt et,P.underlying t=some (.map kt et)∧(∀k,gk P kt (.int .i64 k)=true)∧iz P et=some (.int .i64 0):=by
 unfold xi at T
 split at T
 ·rename_i kt et ht
  simp only [Vu] at T
  obtain⟨h1,h2⟩:=T
  refine⟨kt,et,ht,fun k=>?_,?_⟩
  ·revert h1
   split
   ·rename_i hk; intro _; simp [gk,hk]
   ·intro h; cases h
  ·split at h2
   ·rename_i z hz; simp only [beq_iff_eq] at h2; subst h2; exact hz
   ·cases h2
 ·cases T
theorem sw (T:xj P t n=true):∃kt et,P.underlying t=some (.map kt et)∧(∀k:List Int,k.length=n→gk P kt (.agg (af.l k))=true)∧iz P et=some (.int .i64 0):=by
 unfold xj at T
 split at T
 ·rename_i kt et ht
  simp only [Vu] at T
  obtain⟨h1,h2⟩:=T
  refine⟨kt,et,ht,fun k hk=>?_,?_⟩
  ·split at h1
   ·rename_i m e sa
    simp only [Vu,beq_iff_eq] at h1
    obtain⟨⟨h3,h4⟩,h5⟩:=h1
    subst h3
    simp only [gk,sa,iU,hk,ze,h5,beq_self_eq_true,WZ,Bool.and_true]
    exact h4
   ·cases h1
  ·split at h2
   ·rename_i z hz; simp only [beq_iff_eq] at h2; subst h2; exact hz
   ·cases h2
 ·cases T
theorem Ed (o:Has h K):∃i h',(AV.mp h.next,h.alloc (.map []))=(AV.mp i,h')∧Has h' ((i,.mp [])::K):=
 ⟨h.next,_,rfl,o.new (fun k hk=>by rw [AHeap.alloc,cZ,if_neg (by omega)]) (Wy _) (.inr (Vv _)) (Wd _) ⟨by have:=o.pos; omega,by rw [AHeap.alloc,cZ,if_pos rfl]⟩⟩
theorem NQ {l:List (Int × Int)}{k:Int}(T:xi P t=true)(o:Has h K)(hq:K[q]? = some (i,.mp (oO l))):fU P h t (.mp i) (.int .i64 k) true=some (.tup [.int .i64 (xh l k).1,.bool (xh l k).2])∧fU P h t (.mp i) (.int .i64 k) false=some (.int .i64 (xh l k).1):=by
 obtain⟨kt,et,h1,h2,h3⟩:=sv T
 obtain⟨⟨_,h4⟩,_⟩:=o.at_ _ _ _ hq
 have hz:(xh l k).2=false→(xh l k).1=0:=by
  clear hq h4
  induction l with
  | nil=>intro _; rfl
  | cons p l ih=>
   obtain⟨a,b⟩:=p
   simp only [xh]
   split
   ·intro h; cases h
   ·exact ih
 simp only [fU,h1,Vq,h2,Bool.true_eq_false,if_false,h4,Am]
 cases hc:(xh l k).2 with
 | true=>simp
 | false=>simp [h3,hz hc]
theorem IS {l:List (List Int × Int)}{k:List Int}{r:Int × Bool}(T:xj P t n=true)(o:Has h K)(hq:K[q]? = some (i,.mp (tA l)))(hr:GK n l k=some r):fU P h t (.mp i) (.agg (af.l k)) true=some (.tup [.int .i64 r.1,.bool r.2])∧fU P h t (.mp i) (.agg (af.l k)) false=some (.int .i64 r.1):=by
 obtain⟨kt,et,h1,h2,h3⟩:=sw T
 obtain⟨⟨_,h4⟩,_⟩:=o.at_ _ _ _ hq
 unfold GK at hr
 split at hr
 rotate_left
 ·cases hr
 rename_i hg
 cases hr
 simp only [ss,Vu,beq_iff_eq] at hg
 have hz:(su l k).2=false→(su l k).1=0:=by
  clear hq h4 hg
  induction l with
  | nil=>intro _; rfl
  | cons p l ih=>
   obtain⟨a,b⟩:=p
   simp only [su]
   split
   ·intro h; cases h
   ·exact ih
 simp only [fU,h1,Vq,h2 k hg.1,Bool.true_eq_false,if_false,h4,An n k hg.1 l hg.2]
 cases hc:(su l k).2 with
 | true=>simp
 | false=>simp [h3,hz hc]
theorem NR {l:List (Int × Int)}{k v:Int}(T:xi P t=true)(o:Has h K)(hq:K[q]? = some (i,.mp (oO l))):∃h',iC P h t (.mp i) (.int .i64 k) (.int .i64 v)=some h'∧Has h' (K.set q (i,.mp (oO (Cp l k v)))):=by
 obtain⟨kt,et,h1,h2,h3⟩:=sv T
 obtain⟨⟨h5,h4⟩,_⟩:=o.at_ _ _ _ hq
 refine⟨h.put i (.map (oO (Cp l k v))),?_,jx o hq ⟨h5,by rw [cZ,if_pos rfl]⟩⟩
 simp only [iC,h1,Vq,h2]
 rw [if_neg (by simp [AV.kF])]
 simp only [h4,Vq,Eb,Vw]
theorem NS {l r:List (List Int × Int)}{k:List Int}{v:Int}(T:xj P t n=true)(o:Has h K)(hq:K[q]? = some (i,.mp (tA l)))(hr:Li n l k v=some r):∃h',iC P h t (.mp i) (.agg (af.l k)) (.int .i64 v)=some h'∧Has h' (K.set q (i,.mp (tA r))):=by
 obtain⟨kt,et,h1,h2,h3⟩:=sw T
 obtain⟨⟨h5,h4⟩,_⟩:=o.at_ _ _ _ hq
 unfold Li at hr
 split at hr
 rotate_left
 ·cases hr
 rename_i hg
 cases hr
 simp only [ss,Vu,beq_iff_eq] at hg
 refine⟨h.put i (.map (tA (zd l k v))),?_,jx o hq ⟨h5,by rw [cZ,if_pos rfl]⟩⟩
 simp only [iC,h1,Vq,h2 k hg.1]
 rw [if_neg (by simp [AV.kF])]
 simp only [h4,Vq,Ec n k v hg.1 l hg.2,Vw]
theorem Lk {es:List (AV × AV)}{kt et:TypeId}(ht:P.underlying t=some (.map kt et))(o:Has h K)(hq:K[q]? = some (i,.mp es)):rK P h t (.mp i)=some (.int .i64 es.length):=by
 obtain⟨⟨_,h4⟩,_⟩:=o.at_ _ _ _ hq
 simp only [rK,ht,Vq,h4]
theorem IT {l:List (List Int × Int)}{kt et:TypeId}(ht:P.underlying t=some (.map kt et))(o:Has h K)(hq:K[q]? = some (i,.mp (tA l))):rK P h t (.mp i)=some (.int .i64 l.length):=by
 rw [Lk ht o hq,tA,VN]
variable {l:List Int}{j:Int}{a:Int}{k:IntKind}{cs:List AV}
def Cq (P:Program)(t:TypeId)(n:Nat):Bool:=match P.underlying t with | some (.array m e)=>m==n&&fe P e==some 1&&fe P t==some n&&(fT P t==some true) | _=>false
theorem pK (T:Cq P t n=true):∃e,P.underlying t=some (.array n e)∧fe P e=some 1∧fe P t=some n∧fT P t=some true:=by
 unfold Cq at T
 split at T
 ·rename_i m e h
  simp only [Vu,beq_iff_eq] at T
  obtain⟨⟨⟨h1,h2⟩,h3⟩,h4⟩:=T
  subst h1
  exact⟨e,h,h2,h3,h4⟩
 ·cases T
theorem GL (o:Has h K)(hc:cs=af.l l)(hl:l.length≤1024:=by decide):∃i h',w7 h cs=some (.ptr i 0,h')∧Has h' ((i,.sl l.length 1 (af.l l))::K):=by
 subst hc
 refine⟨h.next,h.alloc (.cells (af.l l)),?_,o.new (fun k hk=>by rw [AHeap.alloc,cZ,if_neg (by omega)]) (Wy _) (.inr (Vv _)) (Wd _) ⟨⟨bM.bK,bM.na (by omega)⟩,.inr ⟨by have:=o.pos; omega,[],by rw [AHeap.alloc,cZ,if_pos rfl]; simp⟩⟩⟩
 unfold w7
 rw [if_pos]
 have:∀l:List Int,(af.l l).all AV.bR=true:=fun l=>by
  induction l with
  | nil=>rfl
  | cons a l ih=>rw [bM.eK,List.all_append,ih]; rfl
 exact this l
theorem IU (T:Cq P t n=true)(o:Has h K)(hq:K[q]? = some (i,.sl n 1 (af.l l)))(hj:ix l j=some a):eV P t (.ptr i 0) (.int k j)=some (.ptr i (0+j.toNat*1)):=by
 obtain⟨e,h1,h2,_,_⟩:=pK T
 have hn:=cG (E:=af) o hq
 obtain⟨g1,g2,g3⟩:=gR hj
 simp only [eV,h1,Vq,h2]
 rw [if_pos ⟨g1,by omega⟩]
 rfl
theorem ug (o:Has h K)(hq:K[q]? = some (i,.sl n 1 (af.l l)))(hn0:n≠0):i≠0∧∃rest,h.get i=some (.cells (af.l l++rest)):=by
 obtain⟨⟨_,h1⟩,_⟩:=o.at_ _ _ _ hq
 rcases h1 with⟨_,h1⟩| h1
 ·exact absurd h1 hn0
 ·exact h1
theorem vw (T:Cq P t n=true)(o:Has h K)(hq:K[q]? = some (i,.sl n 1 (af.l l)))(hn0:n≠0:=by decide):bl P h t (.ptr i 0)=some (.agg (af.l l)):=by
 obtain⟨e,h1,h2,h3,h4⟩:=pK T
 have hn:=cG (E:=af) o hq
 obtain⟨_,rest,h5⟩:=ug o hq hn0
 simp only [bl,jG,h5,Vq,iO,h4,if_true,h3]
 rw [if_pos (by rw [VA,iU]; omega),Wa,VW (by rw [iU]; omega),V4 (by rw [iU]; omega)]
theorem IV {l':List Int}{x:AV}(T:Cq P t n=true)(o:Has h K)(hq:K[q]? = some (i,.sl n 1 (af.l l)))(hx:x.cells=af.l l')(hl:l'.length=n)(hn0:n≠0:=by decide):∃h',iR P h t (.ptr i 0) x=some h'∧Has h' (K.set q (i,.sl n 1 (af.l l'))):=by
 obtain⟨e,h1,h2,h3,h4⟩:=pK T
 have hn:=cG (E:=af) o hq
 obtain⟨h6,rest,h5⟩:=ug o hq hn0
 have n9:(af.l l').all AV.bR=true:=by
  clear hx hl
  induction l' with
  | nil=>rfl
  | cons a l ih=>rw [bM.eK,List.all_append,ih]; rfl
 have qH:=(o.at_ _ _ _ hq).1.1.2
 refine⟨h.put i (.cells (af.l l'++rest)),?_,jx o hq ⟨⟨by rw [iU,hl,Nat.mul_one],by rw [iU,hl,hn,←iU]; exact qH⟩,.inr ⟨h6,rest,by rw [cZ,if_pos rfl]⟩⟩⟩
 simp only [iR,h5,Vq,gO,h3,hx]
 rw [if_pos ⟨by rw [iU,hl],n9,by rw [VA,iU]; omega⟩,Vw]
 have:=hU (af.l l) (af.l l') [] rest (by rw [iU,iU]; omega)
 simp only [V7,VT] at this
 rw [this]
end
end Go.R
