/- Part of the proof: RG8. -/
import Derived.Test.YtifafejidnjckaaK4
set_option linter.unusedVariables false
set_option linter.unusedSimpArgs false
set_option maxRecDepth 100000
open Bool renaming and_eq_true → XN, true_and → Zg
open List renaming length_append → XU, length_map → X0, map_cons → X8, length_nil → Yf, take_append_of_le_length → Yi, take_of_length_le → Yn, nil_append → Yr, drop_zero → Ys, all_cons → YA
open Nat renaming le_refl → XP, lt_succ_self → Yx, le_succ → YT
open Option renaming bind_some → XJ, map_some → XR
namespace Go.R
open Go
def mx (x y:Int):Int:=if y > x then y else x
def mz (l:List (Int × Int))(k:Int):Int × Bool:=
 match l with
 | []=>(0,false)
 | (a,b)::l=>if k=a then (b,true) else mz l k
def xG (l:List (Int × Int))(k v:Int):List (Int × Int):=
 match l with
 | []=>[(k,v)]
 | (a,b)::l=>if k=a then (k,v)::l else (a,b)::xG l k v
def ti (n:Nat)(l:List (List Int × Int))(k:List Int):Bool:=k.length==n&&l.all fun p=>p.1.length==n
def tj (l:List (List Int × Int))(k:List Int):Int × Bool:=
 match l with
 | []=>(0,false)
 | (a,b)::l=>if k=a then (b,true) else tj l k
def Ic (n:Nat)(l:List (List Int × Int))(k:List Int):Option (Int × Bool):=if ti n l k=true then some (tj l k) else none
def Au (l:List (List Int × Int))(k:List Int)(v:Int):List (List Int × Int):=
 match l with
 | []=>[(k,v)]
 | (a,b)::l=>if k=a then (k,v)::l else (a,b)::Au l k v
def M4 (n:Nat)(l:List (List Int × Int))(k:List Int)(v:Int):Option (List (List Int × Int)):=if ti n l k=true then some (Au l k v) else none
def lL (l:List (Int × Int)):List (AV × AV):=l.map fun p=>(.int .i64 p.1,.int .i64 p.2)
def uG (l:List (List Int × Int)):List (AV × AV):=l.map fun p=>(.agg (af.l p.1),.int .i64 p.2)
theorem BJ (k:Int):∀l:List (Int × Int),ij (.int .i64 k) (lL l)=some (if (mz l k).2=true then some (.int .i64 (mz l k).1) else none)
 | []=>rfl
 | (a,b)::l=>by
  simp only [lL,X8,ij,sameShape,fE,iC,mz]
  have ih:=BJ k l
  simp only [lL] at ih
  by_cases h:k=a
  ·subst h; simp
  ·simp [h,ih]
theorem FC (k v:Int):∀l:List (Int × Int),su (.int .i64 k) (.int .i64 v) (lL l)=some (lL (xG l k v))
 | []=>rfl
 | (a,b)::l=>by
  have ih:=FC k v l
  simp only [lL,X8,su,sameShape,fE,iC,xG] at ih ⊢
  by_cases h:k=a
  ·subst h; simp
  ·simp [h,ih]
theorem Av (l:List Int):(af.l l).all kG=true:=by
 induction l with
 | nil=>rfl
 | cons a l ih=>rw [bK.eY,List.all_append,ih]; rfl
theorem jg (l:List Int):(af.l l).length=l.length:=by rw [bK.bR]; exact Nat.mul_one _
theorem l7:∀a b:List Int,lO (af.l a) (af.l b)=decide (a=b)
 | [],[]=>rfl
 | [],b::l=>by simp [bK.eY,bK.Js,eI,lO]
 | a::l,[]=>by simp [bK.eY,bK.Js,eI,lO]
 | a::l,b::l'=>by
  have ih:=l7 l l'
  rw [bK.eY,bK.eY]
  show (iC (.int .i64 a) (.int .i64 b)&&lO (af.l l) (af.l l'))=_
  rw [ih]
  simp only [iC]
  by_cases h1:a=b<;>by_cases h2:l=l'<;>simp [h1,h2]
theorem BK (n:Nat)(k:List Int)(hk:k.length=n):∀l:List (List Int × Int),(l.all fun p=>p.1.length==n)=true→ij (.agg (af.l k)) (uG l)=some (if (tj l k).2=true then some (.int .i64 (tj l k).1) else none)
 | [],_=>rfl
 | (a,b)::l,h=>by
  simp only [YA,XN,beq_iff_eq] at h
  have ih:=BK n k hk l h.2
  simp only [uG,X8,ij,sameShape,fE,tj,Av,jg,hk,h.1,l7,beq_self_eq_true,Zg,if_true] at ih ⊢
  by_cases M8:k=a
  ·subst M8; simp
  ·simp [M8,ih]
theorem FD (n:Nat)(k:List Int)(v:Int)(hk:k.length=n):∀l:List (List Int × Int),(l.all fun p=>p.1.length==n)=true→su (.agg (af.l k)) (.int .i64 v) (uG l)=some (uG (Au l k v))
 | [],_=>rfl
 | (a,b)::l,h=>by
  simp only [YA,XN,beq_iff_eq] at h
  have ih:=FD n k v hk l h.2
  simp only [uG,X8,su,sameShape,fE,Au,Av,jg,hk,h.1,l7,beq_self_eq_true,Zg,if_true] at ih ⊢
  by_cases M8:k=a
  ·subst M8; simp
  ·simp [M8,ih]
def yC (P:Program)(t:TypeId):Bool:=
 match P.underlying t with
 | some (.map kt et)=>(P.underlying kt matches some (.int .i64))&&(match iI P et with | some (.int .i64 n)=>n==0 | _=>false)
 | _=>false
def yD (P:Program)(t:TypeId)(n:Nat):Bool:=
 match P.underlying t with
 | some (.map kt et)=>(match P.underlying kt with | some (.array m e)=>m==n&&(P.underlying e matches some (.int .i64))&&fF P e==some 1 | _=>false)&&(match iI P et with | some (.int .i64 n)=>n==0 | _=>false)
 | _=>false
section
variable {P:Program}{h:AHeap}{K:Mem}{i q:Nat}{t:TypeId}{n:Nat}
theorem tk (T:yC P t=true):∃kt et,P.underlying t=some (.map kt et)∧(∀k,fV P kt (.int .i64 k)=true)∧iI P et=some (.int .i64 0):=by
 unfold yC at T
 split at T
 ·rename_i kt et ht
  simp only [XN] at T
  obtain⟨h1,h2⟩:=T
  refine⟨kt,et,ht,fun k=>?_,?_⟩
  ·revert h1
   split
   ·rename_i hk; intro _; simp [fV,hk]
   ·intro h; cases h
  ·split at h2
   ·rename_i z hz; simp only [beq_iff_eq] at h2; subst h2; exact hz
   ·cases h2
 ·cases T
theorem tl (T:yD P t n=true):∃kt et,P.underlying t=some (.map kt et)∧(∀k:List Int,k.length=n→fV P kt (.agg (af.l k))=true)∧iI P et=some (.int .i64 0):=by
 unfold yD at T
 split at T
 ·rename_i kt et ht
  simp only [XN] at T
  obtain⟨h1,h2⟩:=T
  refine⟨kt,et,ht,fun k hk=>?_,?_⟩
  ·split at h1
   ·rename_i m e sS
    simp only [XN,beq_iff_eq] at h1
    obtain⟨⟨h3,h4⟩,h5⟩:=h1
    subst h3
    simp only [fV,sS,jg,hk,Av,h5,beq_self_eq_true,Zg,Bool.and_true]
    exact h4
   ·cases h1
  ·split at h2
   ·rename_i z hz; simp only [beq_iff_eq] at h2; subst h2; exact hz
   ·cases h2
 ·cases T
theorem wS (o:Has h K):∃i h',(AV.mp h.next,h.alloc (.map []))=(AV.mp i,h')∧Has h' ((i,.mp [])::K):=
 ⟨h.next,_,rfl,o.new (fun k hk=>by rw [AHeap.alloc,dm,if_neg (by omega)]) (YT _) (.inr (XP _)) (Yx _) ⟨by have:=o.pos; omega,by rw [AHeap.alloc,dm,if_pos rfl]⟩⟩
theorem M9 {l:List (Int × Int)}{k:Int}(T:yC P t=true)(o:Has h K)(hq:K[q]? = some (i,.mp (lL l))):eR P h t (.mp i) (.int .i64 k) true=some (.tup [.int .i64 (mz l k).1,.bool (mz l k).2])∧eR P h t (.mp i) (.int .i64 k) false=some (.int .i64 (mz l k).1):=by
 obtain⟨kt,et,h1,h2,h3⟩:=tk T
 obtain⟨⟨_,h4⟩,_⟩:=o.at_ _ _ _ hq
 have hz:(mz l k).2=false→(mz l k).1=0:=by
  clear hq h4
  induction l with
  | nil=>intro _; rfl
  | cons p l ih=>
   obtain⟨a,b⟩:=p
   simp only [mz]
   split
   ·intro h; cases h
   ·exact ih
 simp only [eR,h1,XJ,h2,Bool.true_eq_false,if_false,h4,BJ]
 cases hc:(mz l k).2 with
 | true=>simp
 | false=>simp [h3,hz hc]
theorem Kl {l:List (List Int × Int)}{k:List Int}{r:Int × Bool}(T:yD P t n=true)(o:Has h K)(hq:K[q]? = some (i,.mp (uG l)))(hr:Ic n l k=some r):eR P h t (.mp i) (.agg (af.l k)) true=some (.tup [.int .i64 r.1,.bool r.2])∧eR P h t (.mp i) (.agg (af.l k)) false=some (.int .i64 r.1):=by
 obtain⟨kt,et,h1,h2,h3⟩:=tl T
 obtain⟨⟨_,h4⟩,_⟩:=o.at_ _ _ _ hq
 unfold Ic at hr
 split at hr
 rotate_left
 ·cases hr
 rename_i hg
 cases hr
 simp only [ti,XN,beq_iff_eq] at hg
 have hz:(tj l k).2=false→(tj l k).1=0:=by
  clear hq h4 hg
  induction l with
  | nil=>intro _; rfl
  | cons p l ih=>
   obtain⟨a,b⟩:=p
   simp only [tj]
   split
   ·intro h; cases h
   ·exact ih
 simp only [eR,h1,XJ,h2 k hg.1,Bool.true_eq_false,if_false,h4,BK n k hg.1 l hg.2]
 cases hc:(tj l k).2 with
 | true=>simp
 | false=>simp [h3,hz hc]
theorem Na {l:List (Int × Int)}{k v:Int}(T:yC P t=true)(o:Has h K)(hq:K[q]? = some (i,.mp (lL l))):∃h',hJ P h t (.mp i) (.int .i64 k) (.int .i64 v)=some h'∧Has h' (K.set q (i,.mp (lL (xG l k v)))):=by
 obtain⟨kt,et,h1,h2,h3⟩:=tk T
 obtain⟨⟨h5,h4⟩,_⟩:=o.at_ _ _ _ hq
 refine⟨h.put i (.map (lL (xG l k v))),?_,js o hq ⟨h5,by rw [dm,if_pos rfl]⟩⟩
 simp only [hJ,h1,XJ,h2]
 rw [if_neg (by simp [AV.kE])]
 simp only [h4,XJ,FC,XR]
theorem PC {l r:List (List Int × Int)}{k:List Int}{v:Int}(T:yD P t n=true)(o:Has h K)(hq:K[q]? = some (i,.mp (uG l)))(hr:M4 n l k v=some r):∃h',hJ P h t (.mp i) (.agg (af.l k)) (.int .i64 v)=some h'∧Has h' (K.set q (i,.mp (uG r))):=by
 obtain⟨kt,et,h1,h2,h3⟩:=tl T
 obtain⟨⟨h5,h4⟩,_⟩:=o.at_ _ _ _ hq
 unfold M4 at hr
 split at hr
 rotate_left
 ·cases hr
 rename_i hg
 cases hr
 simp only [ti,XN,beq_iff_eq] at hg
 refine⟨h.put i (.map (uG (Au l k v))),?_,js o hq ⟨h5,by rw [dm,if_pos rfl]⟩⟩
 simp only [hJ,h1,XJ,h2 k hg.1]
 rw [if_neg (by simp [AV.kE])]
 simp only [h4,XJ,FD n k v hg.1 l hg.2,XR]
theorem Nb {es:List (AV × AV)}{kt et:TypeId}(ht:P.underlying t=some (.map kt et))(o:Has h K)(hq:K[q]? = some (i,.mp es)):sv P h t (.mp i)=some (.int .i64 es.length):=by
 obtain⟨⟨_,h4⟩,_⟩:=o.at_ _ _ _ hq
 simp only [sv,ht,XJ,h4]
theorem Km {l:List (List Int × Int)}{kt et:TypeId}(ht:P.underlying t=some (.map kt et))(o:Has h K)(hq:K[q]? = some (i,.mp (uG l))):sv P h t (.mp i)=some (.int .i64 l.length):=by
 rw [Nb ht o hq,uG,X0]
variable {l:List Int}{j:Int}{a:Int}{k:IntKind}{cs:List AV}
def DQ (P:Program)(t:TypeId)(n:Nat):Bool:=match P.underlying t with | some (.array m e)=>m==n&&fF P e==some 1&&fF P t==some n&&(gp P t==some true) | _=>false
theorem qz (T:DQ P t n=true):∃e,P.underlying t=some (.array n e)∧fF P e=some 1∧fF P t=some n∧gp P t=some true:=by
 unfold DQ at T
 split at T
 ·rename_i m e h
  simp only [XN,beq_iff_eq] at T
  obtain⟨⟨⟨h1,h2⟩,h3⟩,h4⟩:=T
  subst h1
  exact⟨e,h,h2,h3,h4⟩
 ·cases T
theorem Ie (o:Has h K)(hc:cs=af.l l)(hl:l.length≤1024:=by decide):∃i h',yr h cs=some (.ptr i 0,h')∧Has h' ((i,.sl l.length 1 (af.l l))::K):=by
 subst hc
 refine⟨h.next,h.alloc (.cells (af.l l)),?_,o.new (fun k hk=>by rw [AHeap.alloc,dm,if_neg (by omega)]) (YT _) (.inr (XP _)) (Yx _) ⟨⟨bK.bR,bK.nQ (by omega)⟩,.inr ⟨by have:=o.pos; omega,[],by rw [AHeap.alloc,dm,if_pos rfl]; simp⟩⟩⟩
 unfold yr
 rw [if_pos]
 have:∀l:List Int,(af.l l).all AV.b4=true:=fun l=>by
  induction l with
  | nil=>rfl
  | cons a l ih=>rw [bK.eY,List.all_append,ih]; rfl
 exact this l
theorem Kn (T:DQ P t n=true)(o:Has h K)(hq:K[q]? = some (i,.sl n 1 (af.l l)))(hj:ix l j=some a):fo P t (.ptr i 0) (.int k j)=some (.ptr i (0+j.toNat*1)):=by
 obtain⟨e,h1,h2,_,_⟩:=qz T
 have hn:=cW (E:=af) o hq
 obtain⟨g1,g2,g3⟩:=hY hj
 simp only [fo,h1,XJ,h2]
 rw [if_pos ⟨g1,by omega⟩]
 rfl
theorem vi (o:Has h K)(hq:K[q]? = some (i,.sl n 1 (af.l l)))(hn0:n≠0):i≠0∧∃rest,h.get i=some (.cells (af.l l++rest)):=by
 obtain⟨⟨_,h1⟩,_⟩:=o.at_ _ _ _ hq
 rcases h1 with⟨_,h1⟩| h1
 ·exact absurd h1 hn0
 ·exact h1
theorem wT (T:DQ P t n=true)(o:Has h K)(hq:K[q]? = some (i,.sl n 1 (af.l l)))(hn0:n≠0:=by decide):bC P h t (.ptr i 0)=some (.agg (af.l l)):=by
 obtain⟨e,h1,h2,h3,h4⟩:=qz T
 have hn:=cW (E:=af) o hq
 obtain⟨_,rest,h5⟩:=vi o hq hn0
 simp only [bC,jZ,h5,XJ,jd,h4,if_true,h3]
 rw [if_pos (by rw [XU,jg]; omega),Ys,Yi (by rw [jg]; omega),Yn (by rw [jg]; omega)]
theorem Ko {l':List Int}{x:AV}(T:DQ P t n=true)(o:Has h K)(hq:K[q]? = some (i,.sl n 1 (af.l l)))(hx:x.cells=af.l l')(hl:l'.length=n)(hn0:n≠0:=by decide):∃h',jf P h t (.ptr i 0) x=some h'∧Has h' (K.set q (i,.sl n 1 (af.l l'))):=by
 obtain⟨e,h1,h2,h3,h4⟩:=qz T
 have hn:=cW (E:=af) o hq
 obtain⟨h6,rest,h5⟩:=vi o hq hn0
 have oX:(af.l l').all AV.b4=true:=by
  clear hx hl
  induction l' with
  | nil=>rfl
  | cons a l ih=>rw [bK.eY,List.all_append,ih]; rfl
 have qW:=(o.at_ _ _ _ hq).1.1.2
 refine⟨h.put i (.cells (af.l l'++rest)),?_,js o hq ⟨⟨by rw [jg,hl,Nat.mul_one],by rw [jg,hl,hn,←jg]; exact qW⟩,.inr ⟨h6,rest,by rw [dm,if_pos rfl]⟩⟩⟩
 simp only [jf,h5,XJ,hH,h3,hx]
 rw [if_pos ⟨by rw [jg,hl],oX,by rw [XU,jg]; omega⟩,XR]
 have:=iv (af.l l) (af.l l') [] rest (by rw [jg,jg]; omega)
 simp only [Yr,Yf] at this
 rw [this]
end
end Go.R
