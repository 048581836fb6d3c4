/- Part of the proof: RG8. -/
import Derived.Test.YtifafejidnjckaaGreatK4
set_option linter.unusedVariables false
set_option linter.unusedSimpArgs false
set_option maxRecDepth 100000
open Bool renaming and_eq_true → aaK, true_and → abL
open List renaming length_append → aaR, length_map → aaY, map_cons → aa3, length_nil → aba, take_append_of_le_length → abi, drop_zero → abl, take_of_length_le → abo, nil_append → abr, all_cons → abu
open Nat renaming le_refl → aaN, lt_succ_self → aby, le_succ → abV
open Option renaming bind_some → aaG, map_some → aaO
namespace Go.R
open Go
def mx (x y:Int):Int:=if y > x then y else x
def nA (l:List (Int × Int))(k:Int):Int × Bool:=
 match l with
 | []=>(0,false)
 | (a,b)::l=>if k=a then (b,true) else nA l k
def zz (l:List (Int × Int))(k v:Int):List (Int × Int):=
 match l with
 | []=>[(k,v)]
 | (a,b)::l=>if k=a then (k,v)::l else (a,b)::zz l k v
def uQ (n:Nat)(l:List (List Int × Int))(k:List Int):Bool:=k.length==n&&l.all fun p=>p.1.length==n
def uR (l:List (List Int × Int))(k:List Int):Int × Bool:=
 match l with
 | []=>(0,false)
 | (a,b)::l=>if k=a then (b,true) else uR l k
def Kp (n:Nat)(l:List (List Int × Int))(k:List Int):Option (Int × Bool):=if uQ n l k=true then some (uR l k) else none
def Cu (l:List (List Int × Int))(k:List Int)(v:Int):List (List Int × Int):=
 match l with
 | []=>[(k,v)]
 | (a,b)::l=>if k=a then (k,v)::l else (a,b)::Cu l k v
def PA (n:Nat)(l:List (List Int × Int))(k:List Int)(v:Int):Option (List (List Int × Int)):=if uQ n l k=true then some (Cu l k v) else none
def nr (l:List (Int × Int)):List (AV × AV):=l.map fun p=>(.int .i64 p.1,.int .i64 p.2)
def yD (l:List (List Int × Int)):List (AV × AV):=l.map fun p=>(.agg (af.l p.1),.int .i64 p.2)
theorem DQ (k:Int):∀l:List (Int × Int),iK (.int .i64 k) (nr l)=some (if (nA l k).2=true then some (.int .i64 (nA l k).1) else none)
 | []=>rfl
 | (a,b)::l=>by
  simp only [nr,aa3,iK,sameShape,fL,iY,nA]
  have ih:=DQ k l
  simp only [nr] at ih
  by_cases h:k=a
  ·subst h; simp
  ·simp [h,ih]
theorem HC (k v:Int):∀l:List (Int × Int),tZ (.int .i64 k) (.int .i64 v) (nr l)=some (nr (zz l k v))
 | []=>rfl
 | (a,b)::l=>by
  have ih:=HC k v l
  simp only [nr,aa3,tZ,sameShape,fL,iY,zz] at ih ⊢
  by_cases h:k=a
  ·subst h; simp
  ·simp [h,ih]
theorem Cv (l:List Int):(af.l l).all lz=true:=by
 induction l with
 | nil=>rfl
 | cons a l ih=>rw [bL.fo,List.all_append,ih]; rfl
theorem jH (l:List Int):(af.l l).length=l.length:=by rw [bL.bS]; exact Nat.mul_one _
theorem mW:∀a b:List Int,mJ (af.l a) (af.l b)=decide (a=b)
 | [],[]=>rfl
 | [],b::l=>by simp [bL.fo,bL.LN,eI,mJ]
 | a::l,[]=>by simp [bL.fo,bL.LN,eI,mJ]
 | a::l,b::l'=>by
  have ih:=mW l l'
  rw [bL.fo,bL.fo]
  show (iY (.int .i64 a) (.int .i64 b)&&mJ (af.l l) (af.l l'))=_
  rw [ih]
  simp only [iY]
  by_cases h1:a=b<;>by_cases h2:l=l'<;>simp [h1,h2]
theorem DR (n:Nat)(k:List Int)(hk:k.length=n):∀l:List (List Int × Int),(l.all fun p=>p.1.length==n)=true→iK (.agg (af.l k)) (yD l)=some (if (uR l k).2=true then some (.int .i64 (uR l k).1) else none)
 | [],_=>rfl
 | (a,b)::l,h=>by
  simp only [abu,aaK,beq_iff_eq] at h
  have ih:=DR n k hk l h.2
  simp only [yD,aa3,iK,sameShape,fL,uR,Cv,jH,hk,h.1,mW,beq_self_eq_true,abL,if_true] at ih ⊢
  by_cases PB:k=a
  ·subst PB; simp
  ·simp [PB,ih]
theorem HD (n:Nat)(k:List Int)(v:Int)(hk:k.length=n):∀l:List (List Int × Int),(l.all fun p=>p.1.length==n)=true→tZ (.agg (af.l k)) (.int .i64 v) (yD l)=some (yD (Cu l k v))
 | [],_=>rfl
 | (a,b)::l,h=>by
  simp only [abu,aaK,beq_iff_eq] at h
  have ih:=HD n k v hk l h.2
  simp only [yD,aa3,tZ,sameShape,fL,Cu,Cv,jH,hk,h.1,mW,beq_self_eq_true,abL,if_true] at ih ⊢
  by_cases PB:k=a
  ·subst PB; simp
  ·simp [PB,ih]
def Av (P:Program)(t:TypeId):Bool:=
 match P.underlying t with
 | some (.map kt et)=>(P.underlying kt matches some (.int .i64))&&(match jc P et with | some (.int .i64 n)=>n==0 | _=>false)
 | _=>false
def Aw (P:Program)(t:TypeId)(n:Nat):Bool:=
 match P.underlying t with
 | some (.map kt et)=>(match P.underlying kt with | some (.array m e)=>m==n&&(P.underlying e matches some (.int .i64))&&fM P e==some 1 | _=>false)&&(match jc P et with | some (.int .i64 n)=>n==0 | _=>false)
 | _=>false
section
variable {P:Program}{h:AHeap}{K:Mem}{i q:Nat}{t:TypeId}{n:Nat}
theorem uS (T:Av P t=true):∃kt et,P.underlying t=some (.map kt et)∧(∀k,gu P kt (.int .i64 k)=true)∧jc P et=some (.int .i64 0):=by
 unfold Av at T
 split at T
 ·rename_i kt et ht
  simp only [aaK] at T
  obtain⟨h1,h2⟩:=T
  refine⟨kt,et,ht,fun k=>?_,?_⟩
  ·revert h1
   split
   ·rename_i hk; intro _; simp [gu,hk]
   ·intro h; cases h
  ·split at h2
   ·rename_i z hz; simp only [beq_iff_eq] at h2; subst h2; exact hz
   ·cases h2
 ·cases T
theorem uT (T:Aw P t n=true):∃kt et,P.underlying t=some (.map kt et)∧(∀k:List Int,k.length=n→gu P kt (.agg (af.l k))=true)∧jc P et=some (.int .i64 0):=by
 unfold Aw at T
 split at T
 ·rename_i kt et ht
  simp only [aaK] at T
  obtain⟨h1,h2⟩:=T
  refine⟨kt,et,ht,fun k hk=>?_,?_⟩
  ·split at h1
   ·rename_i m e qh
    simp only [aaK,beq_iff_eq] at h1
    obtain⟨⟨h3,h4⟩,h5⟩:=h1
    subst h3
    simp only [gu,qh,jH,hk,Cv,h5,beq_self_eq_true,abL,Bool.and_true]
    exact h4
   ·cases h1
  ·split at h2
   ·rename_i z hz; simp only [beq_iff_eq] at h2; subst h2; exact hz
   ·cases h2
 ·cases T
theorem yE (o:Has h K):∃i h',(AV.mp h.next,h.alloc (.map []))=(AV.mp i,h')∧Has h' ((i,.mp [])::K):=
 ⟨h.next,_,rfl,o.new (fun k hk=>by rw [AHeap.alloc,dc,if_neg (by omega)]) (abV _) (.inr (aaN _)) (aby _) ⟨by have:=o.pos; omega,by rw [AHeap.alloc,dc,if_pos rfl]⟩⟩
theorem PC {l:List (Int × Int)}{k:Int}(T:Av P t=true)(o:Has h K)(hq:K[q]? = some (i,.mp (nr l))):eZ P h t (.mp i) (.int .i64 k) true=some (.tup [.int .i64 (nA l k).1,.bool (nA l k).2])∧eZ P h t (.mp i) (.int .i64 k) false=some (.int .i64 (nA l k).1):=by
 obtain⟨kt,et,h1,h2,h3⟩:=uS T
 obtain⟨⟨_,h4⟩,_⟩:=o.at_ _ _ _ hq
 have hz:(nA l k).2=false→(nA l k).1=0:=by
  clear hq h4
  induction l with
  | nil=>intro _; rfl
  | cons p l ih=>
   obtain⟨a,b⟩:=p
   simp only [nA]
   split
   ·intro h; cases h
   ·exact ih
 simp only [eZ,h1,aaG,h2,Bool.true_eq_false,if_false,h4,DQ]
 cases hc:(nA l k).2 with
 | true=>simp
 | false=>simp [h3,hz hc]
theorem MQ {l:List (List Int × Int)}{k:List Int}{r:Int × Bool}(T:Aw P t n=true)(o:Has h K)(hq:K[q]? = some (i,.mp (yD l)))(hr:Kp n l k=some r):eZ P h t (.mp i) (.agg (af.l k)) true=some (.tup [.int .i64 r.1,.bool r.2])∧eZ P h t (.mp i) (.agg (af.l k)) false=some (.int .i64 r.1):=by
 obtain⟨kt,et,h1,h2,h3⟩:=uT T
 obtain⟨⟨_,h4⟩,_⟩:=o.at_ _ _ _ hq
 unfold Kp at hr
 split at hr
 rotate_left
 ·cases hr
 rename_i hg
 cases hr
 simp only [uQ,aaK,beq_iff_eq] at hg
 have hz:(uR l k).2=false→(uR l k).1=0:=by
  clear hq h4 hg
  induction l with
  | nil=>intro _; rfl
  | cons p l ih=>
   obtain⟨a,b⟩:=p
   simp only [uR]
   split
   ·intro h; cases h
   ·exact ih
 simp only [eZ,h1,aaG,h2 k hg.1,Bool.true_eq_false,if_false,h4,DR n k hg.1 l hg.2]
 cases hc:(uR l k).2 with
 | true=>simp
 | false=>simp [h3,hz hc]
theorem PD {l:List (Int × Int)}{k v:Int}(T:Av P t=true)(o:Has h K)(hq:K[q]? = some (i,.mp (nr l))):∃h',iC P h t (.mp i) (.int .i64 k) (.int .i64 v)=some h'∧Has h' (K.set q (i,.mp (nr (zz l k v)))):=by
 obtain⟨kt,et,h1,h2,h3⟩:=uS T
 obtain⟨⟨h5,h4⟩,_⟩:=o.at_ _ _ _ hq
 refine⟨h.put i (.map (nr (zz l k v))),?_,jP o hq ⟨h5,by rw [dc,if_pos rfl]⟩⟩
 simp only [iC,h1,aaG,h2]
 rw [if_neg (by simp [AV.lu])]
 simp only [h4,aaG,HC,aaO]
theorem SW {l r:List (List Int × Int)}{k:List Int}{v:Int}(T:Aw P t n=true)(o:Has h K)(hq:K[q]? = some (i,.mp (yD l)))(hr:PA n l k v=some r):∃h',iC P h t (.mp i) (.agg (af.l k)) (.int .i64 v)=some h'∧Has h' (K.set q (i,.mp (yD r))):=by
 obtain⟨kt,et,h1,h2,h3⟩:=uT T
 obtain⟨⟨h5,h4⟩,_⟩:=o.at_ _ _ _ hq
 unfold PA at hr
 split at hr
 rotate_left
 ·cases hr
 rename_i hg
 cases hr
 simp only [uQ,aaK,beq_iff_eq] at hg
 refine⟨h.put i (.map (yD (Cu l k v))),?_,jP o hq ⟨h5,by rw [dc,if_pos rfl]⟩⟩
 simp only [iC,h1,aaG,h2 k hg.1]
 rw [if_neg (by simp [AV.lu])]
 simp only [h4,aaG,HD n k v hg.1 l hg.2,aaO]
theorem PE {es:List (AV × AV)}{kt et:TypeId}(ht:P.underlying t=some (.map kt et))(o:Has h K)(hq:K[q]? = some (i,.mp es)):ub P h t (.mp i)=some (.int .i64 es.length):=by
 obtain⟨⟨_,h4⟩,_⟩:=o.at_ _ _ _ hq
 simp only [ub,ht,aaG,h4]
theorem MR {l:List (List Int × Int)}{kt et:TypeId}(ht:P.underlying t=some (.map kt et))(o:Has h K)(hq:K[q]? = some (i,.mp (yD l))):ub P h t (.mp i)=some (.int .i64 l.length):=by
 rw [PE ht o hq,yD,aaY]
variable {l:List Int}{j:Int}{a:Int}{k:IntKind}{cs:List AV}
def FM (P:Program)(t:TypeId)(n:Nat):Bool:=match P.underlying t with | some (.array m e)=>m==n&&fM P e==some 1&&fM P t==some n&&(gG P t==some true) | _=>false
theorem rM (T:FM P t n=true):∃e,P.underlying t=some (.array n e)∧fM P e=some 1∧fM P t=some n∧gG P t=some true:=by
 unfold FM at T
 split at T
 ·rename_i m e h
  simp only [aaK,beq_iff_eq] at T
  obtain⟨⟨⟨h1,h2⟩,h3⟩,h4⟩:=T
  subst h1
  exact⟨e,h,h2,h3,h4⟩
 ·cases T
theorem Kq (o:Has h K)(hc:cs=af.l l)(hl:l.length≤1024:=by decide):∃i h',Ak h cs=some (.ptr i 0,h')∧Has h' ((i,.sl l.length 1 (af.l l))::K):=by
 subst hc
 refine⟨h.next,h.alloc (.cells (af.l l)),?_,o.new (fun k hk=>by rw [AHeap.alloc,dc,if_neg (by omega)]) (abV _) (.inr (aaN _)) (aby _) ⟨⟨bL.bS,bL.oV (by omega)⟩,.inr ⟨by have:=o.pos; omega,[],by rw [AHeap.alloc,dc,if_pos rfl]; simp⟩⟩⟩
 unfold Ak
 rw [if_pos]
 have:∀l:List Int,(af.l l).all AV.bY=true:=fun l=>by
  induction l with
  | nil=>rfl
  | cons a l ih=>rw [bL.fo,List.all_append,ih]; rfl
 exact this l
theorem MS (T:FM P t n=true)(o:Has h K)(hq:K[q]? = some (i,.sl n 1 (af.l l)))(hj:ix l j=some a):fD P t (.ptr i 0) (.int k j)=some (.ptr i (0+j.toNat*1)):=by
 obtain⟨e,h1,h2,_,_⟩:=rM T
 have hn:=cO (E:=af) o hq
 obtain⟨g1,g2,g3⟩:=ia hj
 simp only [fD,h1,aaG,h2]
 rw [if_pos ⟨g1,by omega⟩]
 rfl
theorem xf (o:Has h K)(hq:K[q]? = some (i,.sl n 1 (af.l l)))(hn0:n≠0):i≠0∧∃rest,h.get i=some (.cells (af.l l++rest)):=by
 obtain⟨⟨_,h1⟩,_⟩:=o.at_ _ _ _ hq
 rcases h1 with⟨_,h1⟩| h1
 ·exact absurd h1 hn0
 ·exact h1
theorem yF (T:FM P t n=true)(o:Has h K)(hq:K[q]? = some (i,.sl n 1 (af.l l)))(hn0:n≠0:=by decide):bw P h t (.ptr i 0)=some (.agg (af.l l)):=by
 obtain⟨e,h1,h2,h3,h4⟩:=rM T
 have hn:=cO (E:=af) o hq
 obtain⟨_,rest,h5⟩:=xf o hq hn0
 simp only [bw,kL,h5,aaG,jD,h4,if_true,h3]
 rw [if_pos (by rw [aaR,jH]; omega),abl,abi (by rw [jH]; omega),abo (by rw [jH]; omega)]
theorem MT {l':List Int}{x:AV}(T:FM P t n=true)(o:Has h K)(hq:K[q]? = some (i,.sl n 1 (af.l l)))(hx:x.cells=af.l l')(hl:l'.length=n)(hn0:n≠0:=by decide):∃h',jF P h t (.ptr i 0) x=some h'∧Has h' (K.set q (i,.sl n 1 (af.l l'))):=by
 obtain⟨e,h1,h2,h3,h4⟩:=rM T
 have hn:=cO (E:=af) o hq
 obtain⟨h6,rest,h5⟩:=xf o hq hn0
 have p4:(af.l l').all AV.bY=true:=by
  clear hx hl
  induction l' with
  | nil=>rfl
  | cons a l ih=>rw [bL.fo,List.all_append,ih]; rfl
 have sr:=(o.at_ _ _ _ hq).1.1.2
 refine⟨h.put i (.cells (af.l l'++rest)),?_,jP o hq ⟨⟨by rw [jH,hl,Nat.mul_one],by rw [jH,hl,hn,←jH]; exact sr⟩,.inr ⟨h6,rest,by rw [dc,if_pos rfl]⟩⟩⟩
 simp only [jF,h5,aaG,iB,h3,hx]
 rw [if_pos ⟨by rw [jH,hl],p4,by rw [aaR,jH]; omega⟩,aaO]
 have:=iQ (af.l l) (af.l l') [] rest (by rw [jH,jH]; omega)
 simp only [abr,aba] at this
 rw [this]
end
end Go.R
