/- Part of the proof: RG8. -/
import Derived.Test.YtifafejidnjckaaGreatK4
set_option linter.unusedVariables false
set_option linter.unusedSimpArgs false
set_option maxRecDepth 100000
open Bool renaming and_eq_true → ae3, true_and → afP
open List renaming length_append → afb, length_nil → afi, length_map → afl, map_cons → afs, drop_zero → afw, take_append_of_le_length → afy, nil_append → afz, take_of_length_le → afA, all_cons → afQ
open Nat renaming le_refl → ae4, lt_succ_self → afL, le_succ → agb, mul_one → agI
open Option renaming bind_some → aeZ, map_some → ae6
namespace Go.R
open Go
def mn (x y:Int):Int:=if y<x then y else x
def mx (x y:Int):Int:=if y > x then y else x
def Dz (l:List (Int × Int))(k:Int):Int × Bool:=
 match l with
 | []=>(0,false)
 | (a,b)::l=>if k=a then (b,true) else Dz l k
def Ja (l:List (Int × Int))(k v:Int):List (Int × Int):=
 match l with
 | []=>[(k,v)]
 | (a,b)::l=>if k=a then (k,v)::l else (a,b)::Ja l k v
def yd (n:Nat)(l:List (List Int × Int))(k:List Int):Bool:=k.length==n&&l.all fun p=>p.1.length==n
def ye (l:List (List Int × Int))(k:List Int):Int × Bool:=
 match l with
 | []=>(0,false)
 | (a,b)::l=>if k=a then (b,true) else ye l k
def On (n:Nat)(l:List (List Int × Int))(k:List Int):Option (Int × Bool):=if yd n l k=true then some (ye l k) else none
def FD (l:List (List Int × Int))(k:List Int)(v:Int):List (List Int × Int):=
 match l with
 | []=>[(k,v)]
 | (a,b)::l=>if k=a then (k,v)::l else (a,b)::FD l k v
def Uh (n:Nat)(l:List (List Int × Int))(k:List Int)(v:Int):Option (List (List Int × Int)):=if yd n l k=true then some (FD l k v) else none
def ug (l:List (Int × Int)):List (AV × AV):=l.map fun p=>(.int .i64 p.1,.int .i64 p.2)
def BG (l:List (List Int × Int)):List (AV × AV):=l.map fun p=>(.agg (ae.l p.1),.int .i64 p.2)
theorem G1 (k:Int):∀l:List (Int × Int),kN (.int .i64 k) (ug l)=some (if (Dz l k).2=true then some (.int .i64 (Dz l k).1) else none)
 | []=>rfl
 | (a,b)::l=>by
  simp only [ug,afs,kN,sameShape,iw,lu,Dz]
  have ih:=G1 k l
  simp only [ug] at ih
  by_cases h:k=a
  ·subst h; simp
  ·simp [h,ih]
theorem KW (k v:Int):∀l:List (Int × Int),A0 (.int .i64 k) (.int .i64 v) (ug l)=some (ug (Ja l k v))
 | []=>rfl
 | (a,b)::l=>by
  have ih:=KW k v l
  simp only [ug,afs,A0,sameShape,iw,lu,Ja] at ih ⊢
  by_cases h:k=a
  ·subst h; simp
  ·simp [h,ih]
theorem FE (l:List Int):(ae.l l).all mZ=true:=by
 induction l with
 | nil=>rfl
 | cons a l ih=>rw [bY.gy,List.all_append,ih]; rfl
theorem lz (l:List Int):(ae.l l).length=l.length:=by rw [bY.b9]; exact agI _
theorem oS:∀a b:List Int,oA (ae.l a) (ae.l b)=decide (a=b)
 | [],[]=>rfl
 | [],b::l=>by simp [bY.gy,bY.PM,eI,oA]
 | a::l,[]=>by simp [bY.gy,bY.PM,eI,oA]
 | a::l,b::l'=>by
  have ih:=oS l l'
  rw [bY.gy,bY.gy]
  show (lu (.int .i64 a) (.int .i64 b)&&oA (ae.l l) (ae.l l'))=_
  rw [ih]
  simp only [lu]
  by_cases h1:a=b<;>by_cases h2:l=l'<;>simp [h1,h2]
theorem G2 (n:Nat)(k:List Int)(hk:k.length=n):∀l:List (List Int × Int),(l.all fun p=>p.1.length==n)=true→kN (.agg (ae.l k)) (BG l)=some (if (ye l k).2=true then some (.int .i64 (ye l k).1) else none)
 | [],_=>rfl
 | (a,b)::l,h=>by
  simp only [afQ,ae3,beq_iff_eq] at h
  have ih:=G2 n k hk l h.2
  simp only [BG,afs,kN,sameShape,iw,ye,FE,lz,hk,h.1,oS,beq_self_eq_true,afP,if_true] at ih ⊢
  by_cases Oo:k=a
  ·subst Oo; simp
  ·simp [Oo,ih]
theorem KX (n:Nat)(k:List Int)(v:Int)(hk:k.length=n):∀l:List (List Int × Int),(l.all fun p=>p.1.length==n)=true→A0 (.agg (ae.l k)) (.int .i64 v) (BG l)=some (BG (FD l k v))
 | [],_=>rfl
 | (a,b)::l,h=>by
  simp only [afQ,ae3,beq_iff_eq] at h
  have ih:=KX n k v hk l h.2
  simp only [BG,afs,A0,sameShape,iw,FD,FE,lz,hk,h.1,oS,beq_self_eq_true,afP,if_true] at ih ⊢
  by_cases Oo:k=a
  ·subst Oo; simp
  ·simp [Oo,ih]
def DA (P:Program)(t:TypeId):Bool:=
 match P.underlying t with
 | some (.map kt et)=>(P.underlying kt matches some (.int .i64))&&(match jX P et with | some (.int .i64 n)=>n==0 | _=>false)
 | _=>false
def DB (P:Program)(t:TypeId)(n:Nat):Bool:=
 match P.underlying t with
 | some (.map kt et)=>(match P.underlying kt with | some (.array m e)=>m==n&&(P.underlying e matches some (.int .i64))&&hH P e==some 1 | _=>false)&&(match jX P et with | some (.int .i64 n)=>n==0 | _=>false)
 | _=>false
section
variable {P:Program}{h:AHeap}{K:Mem}{i q:Nat}{t:TypeId}{n:Nat}
theorem yf (T:DA P t=true):∃kt et,P.underlying t=some (.map kt et)∧(∀k,ji P kt (.int .i64 k)=true)∧jX P et=some (.int .i64 0):=by
 unfold DA at T
 split at T
 ·rename_i kt et ht
  simp only [ae3] at T
  obtain⟨h1,h2⟩:=T
  refine⟨kt,et,ht,fun k=>?_,?_⟩
  ·revert h1
   split
   ·rename_i hk; intro _; simp [ji,hk]
   ·intro h; cases h
  ·split at h2
   ·rename_i z hz; simp only [beq_iff_eq] at h2; subst h2; exact hz
   ·cases h2
 ·cases T
theorem yg (T:DB P t n=true):∃kt et,P.underlying t=some (.map kt et)∧(∀k:List Int,k.length=n→ji P kt (.agg (ae.l k))=true)∧jX P et=some (.int .i64 0):=by
 unfold DB at T
 split at T
 ·rename_i kt et ht
  simp only [ae3] at T
  obtain⟨h1,h2⟩:=T
  refine⟨kt,et,ht,fun k hk=>?_,?_⟩
  ·split at h1
   ·rename_i m e uu
    simp only [ae3,beq_iff_eq] at h1
    obtain⟨⟨h3,h4⟩,h5⟩:=h1
    subst h3
    simp only [ji,uu,lz,hk,FE,h5,beq_self_eq_true,afP,Bool.and_true]
    exact h4
   ·cases h1
  ·split at h2
   ·rename_i z hz; simp only [beq_iff_eq] at h2; subst h2; exact hz
   ·cases h2
 ·cases T
theorem KY (o:Has h K):∃i h',(AV.mp h.next,h.alloc (.map []))=(AV.mp i,h')∧Has h' ((i,.mp [])::K):=
 ⟨h.next,_,rfl,o.new (fun k hk=>by rw [AHeap.alloc,dC,if_neg (by omega)]) (agb _) (.inr (ae4 _)) (afL _) ⟨by have:=o.pos; omega,by rw [AHeap.alloc,dC,if_pos rfl]⟩⟩
theorem Xi {l:List (Int × Int)}{k:Int}(T:DA P t=true)(o:Has h K)(hq:K[q]? = some (i,.mp (ug l))):iR P h t (.mp i) (.int .i64 k) true=some (.tup [.int .i64 (Dz l k).1,.bool (Dz l k).2])∧iR P h t (.mp i) (.int .i64 k) false=some (.int .i64 (Dz l k).1):=by
 obtain⟨kt,et,h1,h2,h3⟩:=yf T
 obtain⟨⟨_,h4⟩,_⟩:=o.at_ _ _ _ hq
 have hz:(Dz l k).2=false→(Dz l k).1=0:=by
  clear hq h4
  induction l with
  | nil=>intro _; rfl
  | cons p l ih=>
   obtain⟨a,b⟩:=p
   simp only [Dz]
   split
   ·intro h; cases h
   ·exact ih
 simp only [iR,h1,aeZ,h2,Bool.true_eq_false,if_false,h4,G1]
 cases hc:(Dz l k).2 with
 | true=>simp
 | false=>simp [h3,hz hc]
theorem QY {l:List (List Int × Int)}{k:List Int}{r:Int × Bool}(T:DB P t n=true)(o:Has h K)(hq:K[q]? = some (i,.mp (BG l)))(hr:On n l k=some r):iR P h t (.mp i) (.agg (ae.l k)) true=some (.tup [.int .i64 r.1,.bool r.2])∧iR P h t (.mp i) (.agg (ae.l k)) false=some (.int .i64 r.1):=by
 obtain⟨kt,et,h1,h2,h3⟩:=yg T
 obtain⟨⟨_,h4⟩,_⟩:=o.at_ _ _ _ hq
 unfold On at hr
 split at hr
 rotate_left
 ·cases hr
 rename_i hg
 cases hr
 simp only [yd,ae3,beq_iff_eq] at hg
 have hz:(ye l k).2=false→(ye l k).1=0:=by
  clear hq h4 hg
  induction l with
  | nil=>intro _; rfl
  | cons p l ih=>
   obtain⟨a,b⟩:=p
   simp only [ye]
   split
   ·intro h; cases h
   ·exact ih
 simp only [iR,h1,aeZ,h2 k hg.1,Bool.true_eq_false,if_false,h4,G2 n k hg.1 l hg.2]
 cases hc:(ye l k).2 with
 | true=>simp
 | false=>simp [h3,hz hc]
theorem Xj {l:List (Int × Int)}{k v:Int}(T:DA P t=true)(o:Has h K)(hq:K[q]? = some (i,.mp (ug l))):∃h',kO P h t (.mp i) (.int .i64 k) (.int .i64 v)=some h'∧Has h' (K.set q (i,.mp (ug (Ja l k v)))):=by
 obtain⟨kt,et,h1,h2,h3⟩:=yf T
 obtain⟨⟨h5,h4⟩,_⟩:=o.at_ _ _ _ hq
 refine⟨h.put i (.map (ug (Ja l k v))),?_,mb o hq ⟨h5,by rw [dC,if_pos rfl]⟩⟩
 simp only [kO,h1,aeZ,h2]
 rw [if_neg (by simp [AV.nI])]
 simp only [h4,aeZ,KW,ae6]
theorem Xk {l r:List (List Int × Int)}{k:List Int}{v:Int}(T:DB P t n=true)(o:Has h K)(hq:K[q]? = some (i,.mp (BG l)))(hr:Uh n l k v=some r):∃h',kO P h t (.mp i) (.agg (ae.l k)) (.int .i64 v)=some h'∧Has h' (K.set q (i,.mp (BG r))):=by
 obtain⟨kt,et,h1,h2,h3⟩:=yg T
 obtain⟨⟨h5,h4⟩,_⟩:=o.at_ _ _ _ hq
 unfold Uh at hr
 split at hr
 rotate_left
 ·cases hr
 rename_i hg
 cases hr
 simp only [yd,ae3,beq_iff_eq] at hg
 refine⟨h.put i (.map (BG (FD l k v))),?_,mb o hq ⟨h5,by rw [dC,if_pos rfl]⟩⟩
 simp only [kO,h1,aeZ,h2 k hg.1]
 rw [if_neg (by simp [AV.nI])]
 simp only [h4,aeZ,KX n k v hg.1 l hg.2,ae6]
theorem Ui {es:List (AV × AV)}{kt et:TypeId}(ht:P.underlying t=some (.map kt et))(o:Has h K)(hq:K[q]? = some (i,.mp es)):xq P h t (.mp i)=some (.int .i64 es.length):=by
 obtain⟨⟨_,h4⟩,_⟩:=o.at_ _ _ _ hq
 simp only [xq,ht,aeZ,h4]
theorem QZ {l:List (List Int × Int)}{kt et:TypeId}(ht:P.underlying t=some (.map kt et))(o:Has h K)(hq:K[q]? = some (i,.mp (BG l))):xq P h t (.mp i)=some (.int .i64 l.length):=by
 rw [Ui ht o hq,BG,afl]
variable {l:List Int}{j:Int}{a:Int}{k:IntKind}{cs:List AV}
def Jb (P:Program)(t:TypeId)(n:Nat):Bool:=match P.underlying t with | some (.array m e)=>m==n&&hH P e==some 1&&hH P t==some n&&(iQ P t==some true) | _=>false
theorem uE (T:Jb P t n=true):∃e,P.underlying t=some (.array n e)∧hH P e=some 1∧hH P t=some n∧iQ P t=some true:=by
 unfold Jb at T
 split at T
 ·rename_i m e h
  simp only [ae3,beq_iff_eq] at T
  obtain⟨⟨⟨h1,h2⟩,h3⟩,h4⟩:=T
  subst h1
  exact⟨e,h,h2,h3,h4⟩
 ·cases T
theorem Oq (o:Has h K)(hc:cs=ae.l l)(hl:l.length≤1024:=by decide):∃i h',Ds h cs=some (.ptr i 0,h')∧Has h' ((i,.sl l.length 1 (ae.l l))::K):=by
 subst hc
 refine⟨h.next,h.alloc (.cells (ae.l l)),?_,o.new (fun k hk=>by rw [AHeap.alloc,dC,if_neg (by omega)]) (agb _) (.inr (ae4 _)) (afL _) ⟨⟨bY.b9,bY.oK (by omega)⟩,.inr ⟨by have:=o.pos; omega,[],by rw [AHeap.alloc,dC,if_pos rfl]; simp⟩⟩⟩
 unfold Ds
 rw [if_pos]
 have:∀l:List Int,(ae.l l).all AV.cL=true:=fun l=>by
  induction l with
  | nil=>rfl
  | cons a l ih=>rw [bY.gy,List.all_append,ih]; rfl
 exact this l
theorem Q0 (T:Jb P t n=true)(o:Has h K)(hq:K[q]? = some (i,.sl n 1 (ae.l l)))(hj:ix l j=some a):gS P t (.ptr i 0) (.int k j)=some (.ptr i (0+j.toNat*1)):=by
 obtain⟨e,h1,h2,_,_⟩:=uE T
 have hn:=dN (E:=ae) o hq
 obtain⟨g1,g2,g3⟩:=iV hj
 simp only [gS,h1,aeZ,h2]
 rw [if_pos ⟨g1,by omega⟩]
 rfl
theorem Ai (o:Has h K)(hq:K[q]? = some (i,.sl n 1 (ae.l l)))(hn0:n≠0):i≠0∧∃rest,h.get i=some (.cells (ae.l l++rest)):=by
 obtain⟨⟨_,h1⟩,_⟩:=o.at_ _ _ _ hq
 rcases h1 with⟨_,h1⟩| h1
 ·exact absurd h1 hn0
 ·exact h1
theorem BH (T:Jb P t n=true)(o:Has h K)(hq:K[q]? = some (i,.sl n 1 (ae.l l)))(hn0:n≠0:=by decide):bB P h t (.ptr i 0)=some (.agg (ae.l l)):=by
 obtain⟨e,h1,h2,h3,h4⟩:=uE T
 have hn:=dN (E:=ae) o hq
 obtain⟨_,rest,h5⟩:=Ai o hq hn0
 simp only [bB,mr,h5,aeZ,ls,h4,if_true,h3]
 rw [if_pos (by rw [afb,lz]; omega),afw,afy (by rw [lz]; omega),afA (by rw [lz]; omega)]
theorem Q1 {l':List Int}{x:AV}(T:Jb P t n=true)(o:Has h K)(hq:K[q]? = some (i,.sl n 1 (ae.l l)))(hx:x.cells=ae.l l')(hl:l'.length=n)(hn0:n≠0:=by decide):∃h',kU P h t (.ptr i 0) x=some h'∧Has h' (K.set q (i,.sl n 1 (ae.l l'))):=by
 obtain⟨e,h1,h2,h3,h4⟩:=uE T
 have hn:=dN (E:=ae) o hq
 obtain⟨h6,rest,h5⟩:=Ai o hq hn0
 have sK:(ae.l l').all AV.cL=true:=by
  clear hx hl
  induction l' with
  | nil=>rfl
  | cons a l ih=>rw [bY.gy,List.all_append,ih]; rfl
 have uf:=(o.at_ _ _ _ hq).1.1.2
 refine⟨h.put i (.cells (ae.l l'++rest)),?_,mb o hq ⟨⟨by rw [lz,hl,agI],by rw [lz,hl,hn,←lz]; exact uf⟩,.inr ⟨h6,rest,by rw [dC,if_pos rfl]⟩⟩⟩
 simp only [kU,h5,aeZ,jM,h3,hx]
 rw [if_pos ⟨by rw [lz,hl],sK,by rw [afb,lz]; omega⟩,ae6]
 have:=ka (ae.l l) (ae.l l') [] rest (by rw [lz,lz]; omega)
 simp only [afz,afi] at this
 rw [this]
end
end Go.R
