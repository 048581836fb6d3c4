/- Part of the proof: RG8. -/
import Derived.Test.YtmekcfdllhphlaaGreatDoorK4
set_option linter.unusedVariables false
set_option linter.unusedSimpArgs false
set_option maxRecDepth 100000
open Bool renaming and_eq_true → Yo, true_and → Zy
open List renaming length_append → Ys, map_cons → YJ, nil_append → YO, take_of_length_le → YR, take_append_of_le_length → YX, length_map → YY, drop_zero → YZ, length_nil → Y6, all_cons → Zg
open Nat renaming le_refl → Yn, lt_succ_self → Y2, le_succ → Zr, mul_one → ZQ
open Option renaming bind_some → Yj, map_some → Yp
namespace Go.R
open Go
def mn (x y:Int):Int:=if y<x then y else x
def mx (x y:Int):Int:=if y > x then y else x
def zl (l:List (Int × Int))(k:Int):Int × Bool:=
 match l with
 | []=>(0,false)
 | (a,b)::l=>if k=a then (b,true) else zl l k
def Ga (l:List (Int × Int))(k v:Int):List (Int × Int):=
 match l with
 | []=>[(k,v)]
 | (a,b)::l=>if k=a then (k,v)::l else (a,b)::Ga l k v
def tD (n:Nat)(l:List (List Int × Int))(k:List Int):Bool:=k.length==n&&l.all fun p=>p.1.length==n
def tE (l:List (List Int × Int))(k:List Int):Int × Bool:=
 match l with
 | []=>(0,false)
 | (a,b)::l=>if k=a then (b,true) else tE l k
def I6 (n:Nat)(l:List (List Int × Int))(k:List Int):Option (Int × Bool):=if tD n l k=true then some (tE l k) else none
def Bi (l:List (List Int × Int))(k:List Int)(v:Int):List (List Int × Int):=
 match l with
 | []=>[(k,v)]
 | (a,b)::l=>if k=a then (k,v)::l else (a,b)::Bi l k v
def N9 (n:Nat)(l:List (List Int × Int))(k:List Int)(v:Int):Option (List (List Int × Int)):=if tD n l k=true then some (Bi l k v) else none
def tF (l:List (Int × Int)):List (AV × AV):=l.map fun p=>(.int .i64 p.1,.int .i64 p.2)
def vi (l:List (List Int × Int)):List (AV × AV):=l.map fun p=>(.agg (aa.l p.1),.int .i64 p.2)
theorem Cu (k:Int):∀l:List (Int × Int),iM (.int .i64 k) (tF l)=some (if (zl l k).2=true then some (.int .i64 (zl l k).1) else none)
 | []=>rfl
 | (a,b)::l=>by
  simp only [tF,YJ,iM,sameShape,gd,ji,zl]
  have ih:=Cu k l
  simp only [tF] at ih
  by_cases h:k=a
  ·subst h; simp
  ·simp [h,ih]
theorem Gb (k v:Int):∀l:List (Int × Int),wR (.int .i64 k) (.int .i64 v) (tF l)=some (tF (Ga l k v))
 | []=>rfl
 | (a,b)::l=>by
  have ih:=Gb k v l
  simp only [tF,YJ,wR,sameShape,gd,ji,Ga] at ih ⊢
  by_cases h:k=a
  ·subst h; simp
  ·simp [h,ih]
theorem Bj (l:List Int):(aa.l l).all km=true:=by
 induction l with
 | nil=>rfl
 | cons a l ih=>rw [cz.ef,List.all_append,ih]; rfl
theorem jl (l:List Int):(aa.l l).length=l.length:=by rw [cz.cH]; exact ZQ _
theorem oo:∀a b:List Int,mr (aa.l a) (aa.l b)=decide (a=b)
 | [],[]=>rfl
 | [],b::l=>by simp [cz.ef,cz.Ke,eI,mr]
 | a::l,[]=>by simp [cz.ef,cz.Ke,eI,mr]
 | a::l,b::l'=>by
  have ih:=oo l l'
  rw [cz.ef,cz.ef]
  show (ji (.int .i64 a) (.int .i64 b)&&mr (aa.l l) (aa.l l'))=_
  rw [ih]
  simp only [ji]
  by_cases h1:a=b<;>by_cases h2:l=l'<;>simp [h1,h2]
theorem Cv (n:Nat)(k:List Int)(hk:k.length=n):∀l:List (List Int × Int),(l.all fun p=>p.1.length==n)=true→iM (.agg (aa.l k)) (vi l)=some (if (tE l k).2=true then some (.int .i64 (tE l k).1) else none)
 | [],_=>rfl
 | (a,b)::l,h=>by
  simp only [Zg,Yo,beq_iff_eq] at h
  have ih:=Cv n k hk l h.2
  simp only [vi,YJ,iM,sameShape,gd,tE,Bj,jl,hk,h.1,oo,beq_self_eq_true,Zy,if_true] at ih ⊢
  by_cases I7:k=a
  ·subst I7; simp
  ·simp [I7,ih]
theorem Gc (n:Nat)(k:List Int)(v:Int)(hk:k.length=n):∀l:List (List Int × Int),(l.all fun p=>p.1.length==n)=true→wR (.agg (aa.l k)) (.int .i64 v) (vi l)=some (vi (Bi l k v))
 | [],_=>rfl
 | (a,b)::l,h=>by
  simp only [Zg,Yo,beq_iff_eq] at h
  have ih:=Gc n k v hk l h.2
  simp only [vi,YJ,wR,sameShape,gd,Bi,Bj,jl,hk,h.1,oo,beq_self_eq_true,Zy,if_true] at ih ⊢
  by_cases I7:k=a
  ·subst I7; simp
  ·simp [I7,ih]
def zm (P:Program)(t:TypeId):Bool:=
 match P.underlying t with
 | some (.map kt et)=>(P.underlying kt matches some (.int .i64))&&(match jT P et with | some (.int .i64 n)=>n==0 | _=>false)
 | _=>false
def zn (P:Program)(t:TypeId)(n:Nat):Bool:=
 match P.underlying t with
 | some (.map kt et)=>(match P.underlying kt with | some (.array m e)=>m==n&&(P.underlying e matches some (.int .i64))&&ez P e==some 1 | _=>false)&&(match jT P et with | some (.int .i64 n)=>n==0 | _=>false)
 | _=>false
section
variable {P:Program}{h:AHeap}{K:Mem}{i q:Nat}{t:TypeId}{n:Nat}
theorem tG (T:zm P t=true):∃kt et,P.underlying t=some (.map kt et)∧(∀k,gf P kt (.int .i64 k)=true)∧jT P et=some (.int .i64 0):=by
 unfold zm at T
 split at T
 ·rename_i kt et ht
  simp only [Yo] at T
  obtain⟨h1,h2⟩:=T
  refine⟨kt,et,ht,fun k=>?_,?_⟩
  ·revert h1
   split
   ·rename_i hk; intro _; simp [gf,hk]
   ·intro h; cases h
  ·split at h2
   ·rename_i z hz; simp only [beq_iff_eq] at h2; subst h2; exact hz
   ·cases h2
 ·cases T
theorem tH (T:zn P t n=true):∃kt et,P.underlying t=some (.map kt et)∧(∀k:List Int,k.length=n→gf P kt (.agg (aa.l k))=true)∧jT P et=some (.int .i64 0):=by
 unfold zn at T
 split at T
 ·rename_i kt et ht
  simp only [Yo] at T
  obtain⟨h1,h2⟩:=T
  refine⟨kt,et,ht,fun k hk=>?_,?_⟩
  ·split at h1
   ·rename_i m e qv
    simp only [Yo,beq_iff_eq] at h1
    obtain⟨⟨h3,h4⟩,h5⟩:=h1
    subst h3
    simp only [gf,qv,jl,hk,Bj,h5,beq_self_eq_true,Zy,Bool.and_true]
    exact h4
   ·cases h1
  ·split at h2
   ·rename_i z hz; simp only [beq_iff_eq] at h2; subst h2; exact hz
   ·cases h2
 ·cases T
theorem Gd (o:Has h K):∃i h',(AV.mp h.next,h.alloc (.map []))=(AV.mp i,h')∧Has h' ((i,.mp [])::K):=
 ⟨h.next,_,rfl,o.new (fun k hk=>by rw [AHeap.alloc,cD,if_neg (by omega)]) (Zr _) (.inr (Yn _)) (Y2 _) ⟨by have:=o.pos; omega,by rw [AHeap.alloc,cD,if_pos rfl]⟩⟩
theorem Q7 {l:List (Int × Int)}{k:Int}(T:zm P t=true)(o:Has h K)(hq:K[q]? = some (i,.mp (tF l))):fL P h t (.mp i) (.int .i64 k) true=some (.tup [.int .i64 (zl l k).1,.bool (zl l k).2])∧fL P h t (.mp i) (.int .i64 k) false=some (.int .i64 (zl l k).1):=by
 obtain⟨kt,et,h1,h2,h3⟩:=tG T
 obtain⟨⟨_,h4⟩,_⟩:=o.at_ _ _ _ hq
 have hz:(zl l k).2=false→(zl l k).1=0:=by
  clear hq h4
  induction l with
  | nil=>intro _; rfl
  | cons p l ih=>
   obtain⟨a,b⟩:=p
   simp only [zl]
   split
   ·intro h; cases h
   ·exact ih
 simp only [fL,h1,Yj,h2,Bool.true_eq_false,if_false,h4,Cu]
 cases hc:(zl l k).2 with
 | true=>simp
 | false=>simp [h3,hz hc]
theorem LC {l:List (List Int × Int)}{k:List Int}{r:Int × Bool}(T:zn P t n=true)(o:Has h K)(hq:K[q]? = some (i,.mp (vi l)))(hr:I6 n l k=some r):fL P h t (.mp i) (.agg (aa.l k)) true=some (.tup [.int .i64 r.1,.bool r.2])∧fL P h t (.mp i) (.agg (aa.l k)) false=some (.int .i64 r.1):=by
 obtain⟨kt,et,h1,h2,h3⟩:=tH T
 obtain⟨⟨_,h4⟩,_⟩:=o.at_ _ _ _ hq
 unfold I6 at hr
 split at hr
 rotate_left
 ·cases hr
 rename_i hg
 cases hr
 simp only [tD,Yo,beq_iff_eq] at hg
 have hz:(tE l k).2=false→(tE l k).1=0:=by
  clear hq h4 hg
  induction l with
  | nil=>intro _; rfl
  | cons p l ih=>
   obtain⟨a,b⟩:=p
   simp only [tE]
   split
   ·intro h; cases h
   ·exact ih
 simp only [fL,h1,Yj,h2 k hg.1,Bool.true_eq_false,if_false,h4,Cv n k hg.1 l hg.2]
 cases hc:(tE l k).2 with
 | true=>simp
 | false=>simp [h3,hz hc]
theorem Q8 {l:List (Int × Int)}{k v:Int}(T:zm P t=true)(o:Has h K)(hq:K[q]? = some (i,.mp (tF l))):∃h',iN P h t (.mp i) (.int .i64 k) (.int .i64 v)=some h'∧Has h' (K.set q (i,.mp (tF (Ga l k v)))):=by
 obtain⟨kt,et,h1,h2,h3⟩:=tG T
 obtain⟨⟨h5,h4⟩,_⟩:=o.at_ _ _ _ hq
 refine⟨h.put i (.map (tF (Ga l k v))),?_,jO o hq ⟨h5,by rw [cD,if_pos rfl]⟩⟩
 simp only [iN,h1,Yj,h2]
 rw [if_neg (by simp [AV.lW])]
 simp only [h4,Yj,Gb,Yp]
theorem Q9 {l r:List (List Int × Int)}{k:List Int}{v:Int}(T:zn P t n=true)(o:Has h K)(hq:K[q]? = some (i,.mp (vi l)))(hr:N9 n l k v=some r):∃h',iN P h t (.mp i) (.agg (aa.l k)) (.int .i64 v)=some h'∧Has h' (K.set q (i,.mp (vi r))):=by
 obtain⟨kt,et,h1,h2,h3⟩:=tH T
 obtain⟨⟨h5,h4⟩,_⟩:=o.at_ _ _ _ hq
 unfold N9 at hr
 split at hr
 rotate_left
 ·cases hr
 rename_i hg
 cases hr
 simp only [tD,Yo,beq_iff_eq] at hg
 refine⟨h.put i (.map (vi (Bi l k v))),?_,jO o hq ⟨h5,by rw [cD,if_pos rfl]⟩⟩
 simp only [iN,h1,Yj,h2 k hg.1]
 rw [if_neg (by simp [AV.lW])]
 simp only [h4,Yj,Gc n k v hg.1 l hg.2,Yp]
theorem Oa {es:List (AV × AV)}{kt et:TypeId}(ht:P.underlying t=some (.map kt et))(o:Has h K)(hq:K[q]? = some (i,.mp es)):sR P h t (.mp i)=some (.int .i64 es.length):=by
 obtain⟨⟨_,h4⟩,_⟩:=o.at_ _ _ _ hq
 simp only [sR,ht,Yj,h4]
theorem LD {l:List (List Int × Int)}{kt et:TypeId}(ht:P.underlying t=some (.map kt et))(o:Has h K)(hq:K[q]? = some (i,.mp (vi l))):sR P h t (.mp i)=some (.int .i64 l.length):=by
 rw [Oa ht o hq,vi,YY]
variable {l:List Int}{j:Int}{a:Int}{k:IntKind}{cs:List AV}
def Ed (P:Program)(t:TypeId)(n:Nat):Bool:=match P.underlying t with | some (.array m e)=>m==n&&ez P e==some 1&&ez P t==some n&&(eB P t==some true) | _=>false
theorem qE (T:Ed P t n=true):∃e,P.underlying t=some (.array n e)∧ez P e=some 1∧ez P t=some n∧eB P t=some true:=by
 unfold Ed at T
 split at T
 ·rename_i m e h
  simp only [Yo,beq_iff_eq] at T
  obtain⟨⟨⟨h1,h2⟩,h3⟩,h4⟩:=T
  subst h1
  exact⟨e,h,h2,h3,h4⟩
 ·cases T
theorem I8 (o:Has h K)(hc:cs=aa.l l)(hl:l.length≤1024:=by decide):∃i h',zc h cs=some (.ptr i 0,h')∧Has h' ((i,.sl l.length 1 (aa.l l))::K):=by
 subst hc
 refine⟨h.next,h.alloc (.cells (aa.l l)),?_,o.new (fun k hk=>by rw [AHeap.alloc,cD,if_neg (by omega)]) (Zr _) (.inr (Yn _)) (Y2 _) ⟨⟨cz.cH,cz.ni (by omega)⟩,.inr ⟨by have:=o.pos; omega,[],by rw [AHeap.alloc,cD,if_pos rfl]; simp⟩⟩⟩
 unfold zc
 rw [if_pos]
 have:∀l:List Int,(aa.l l).all AV.cK=true:=fun l=>by
  induction l with
  | nil=>rfl
  | cons a l ih=>rw [cz.ef,List.all_append,ih]; rfl
 exact this l
theorem LF (T:Ed P t n=true)(o:Has h K)(hq:K[q]? = some (i,.sl n 1 (aa.l l)))(hj:ix l j=some a):eC P t (.ptr i 0) (.int k j)=some (.ptr i (0+j.toNat*1)):=by
 obtain⟨e,h1,h2,_,_⟩:=qE T
 have hn:=dq (E:=aa) o hq
 obtain⟨g1,g2,g3⟩:=gq hj
 simp only [eC,h1,Yj,h2]
 rw [if_pos ⟨g1,by omega⟩]
 rfl
theorem we (o:Has h K)(hq:K[q]? = some (i,.sl n 1 (aa.l l)))(hn0:n≠0):i≠0∧∃rest,h.get i=some (.cells (aa.l l++rest)):=by
 obtain⟨⟨_,h1⟩,_⟩:=o.at_ _ _ _ hq
 rcases h1 with⟨_,h1⟩| h1
 ·exact absurd h1 hn0
 ·exact h1
theorem xE (T:Ed P t n=true)(o:Has h K)(hq:K[q]? = some (i,.sl n 1 (aa.l l)))(hn0:n≠0:=by decide):bo P h t (.ptr i 0)=some (.agg (aa.l l)):=by
 obtain⟨e,h1,h2,h3,h4⟩:=qE T
 have hn:=dq (E:=aa) o hq
 obtain⟨_,rest,h5⟩:=we o hq hn0
 simp only [bo,ju,h5,Yj,jh,h4,if_true,h3]
 rw [if_pos (by rw [Ys,jl]; omega),YZ,YX (by rw [jl]; omega),YR (by rw [jl]; omega)]
theorem LG {l':List Int}{x:AV}(T:Ed P t n=true)(o:Has h K)(hq:K[q]? = some (i,.sl n 1 (aa.l l)))(hx:x.cells=aa.l l')(hl:l'.length=n)(hn0:n≠0:=by decide):∃h',jk P h t (.ptr i 0) x=some h'∧Has h' (K.set q (i,.sl n 1 (aa.l l'))):=by
 obtain⟨e,h1,h2,h3,h4⟩:=qE T
 have hn:=dq (E:=aa) o hq
 obtain⟨h6,rest,h5⟩:=we o hq hn0
 have oN:(aa.l l').all AV.cK=true:=by
  clear hx hl
  induction l' with
  | nil=>rfl
  | cons a l ih=>rw [cz.ef,List.all_append,ih]; rfl
 have AW:=(o.at_ _ _ _ hq).1.1.2
 refine⟨h.put i (.cells (aa.l l'++rest)),?_,jO o hq ⟨⟨by rw [jl,hl,ZQ],by rw [jl,hl,hn,←jl]; exact AW⟩,.inr ⟨h6,rest,by rw [cD,if_pos rfl]⟩⟩⟩
 simp only [jk,h5,Yj,gR,h3,hx]
 rw [if_pos ⟨by rw [jl,hl],oN,by rw [Ys,jl]; omega⟩,Yp]
 have:=kH (aa.l l) (aa.l l') [] rest (by rw [jl,jl]; omega)
 simp only [YO,Y6] at this
 rw [this]
end
end Go.R
