/- Part of the proof: RG8. -/
import Derived.Test.YtifafejidnjckaaGreatK4
set_option linter.unusedVariables false
set_option linter.unusedSimpArgs false
set_option maxRecDepth 100000
open Bool renaming and_eq_true → abA, true_and → acH
open List renaming length_map → abL, length_append → abQ, length_nil → ab4, map_cons → ab5, take_append_of_le_length → aca, take_of_length_le → ach, nil_append → aci, drop_zero → acn, all_cons → acr
open Nat renaming le_refl → abB, lt_succ_self → ack, le_succ → acN
open Option renaming bind_some → abw, map_some → abE
namespace Go.R
open Go
def mn (x y:Int):Int:=if y<x then y else x
def mx (x y:Int):Int:=if y > x then y else x
def nn (l:List (Int × Int))(k:Int):Int × Bool:=
 match l with
 | []=>(0,false)
 | (a,b)::l=>if k=a then (b,true) else nn l k
def zU (l:List (Int × Int))(k v:Int):List (Int × Int):=
 match l with
 | []=>[(k,v)]
 | (a,b)::l=>if k=a then (k,v)::l else (a,b)::zU l k v
def uX (n:Nat)(l:List (List Int × Int))(k:List Int):Bool:=k.length==n&&l.all fun p=>p.1.length==n
def uY (l:List (List Int × Int))(k:List Int):Int × Bool:=
 match l with
 | []=>(0,false)
 | (a,b)::l=>if k=a then (b,true) else uY l k
def KL (n:Nat)(l:List (List Int × Int))(k:List Int):Option (Int × Bool):=if uX n l k=true then some (uY l k) else none
def CT (l:List (List Int × Int))(k:List Int)(v:Int):List (List Int × Int):=
 match l with
 | []=>[(k,v)]
 | (a,b)::l=>if k=a then (k,v)::l else (a,b)::CT l k v
def Qq (n:Nat)(l:List (List Int × Int))(k:List Int)(v:Int):Option (List (List Int × Int)):=if uX n l k=true then some (CT l k v) else none
def mz (l:List (Int × Int)):List (AV × AV):=l.map fun p=>(.int .i64 p.1,.int .i64 p.2)
def wP (l:List (List Int × Int)):List (AV × AV):=l.map fun p=>(.agg (aa.l p.1),.int .i64 p.2)
theorem D6 (k:Int):∀l:List (Int × Int),iQ (.int .i64 k) (mz l)=some (if (nn l k).2=true then some (.int .i64 (nn l k).1) else none)
 | []=>rfl
 | (a,b)::l=>by
  simp only [mz,ab5,iQ,sameShape,gK,jd,nn]
  have ih:=D6 k l
  simp only [mz] at ih
  by_cases h:k=a
  ·subst h; simp
  ·simp [h,ih]
theorem HX (k v:Int):∀l:List (Int × Int),uo (.int .i64 k) (.int .i64 v) (mz l)=some (mz (zU l k v))
 | []=>rfl
 | (a,b)::l=>by
  have ih:=HX k v l
  simp only [mz,ab5,uo,sameShape,gK,jd,zU] at ih ⊢
  by_cases h:k=a
  ·subst h; simp
  ·simp [h,ih]
theorem CU (l:List Int):(aa.l l).all lq=true:=by
 induction l with
 | nil=>rfl
 | cons a l ih=>rw [bG.fV,List.all_append,ih]; rfl
theorem jR (l:List Int):(aa.l l).length=l.length:=by rw [bG.cP]; exact Nat.mul_one _
theorem pH:∀a b:List Int,nK (aa.l a) (aa.l b)=decide (a=b)
 | [],[]=>rfl
 | [],b::l=>by simp [bG.fV,bG.Mn,eI,nK]
 | a::l,[]=>by simp [bG.fV,bG.Mn,eI,nK]
 | a::l,b::l'=>by
  have ih:=pH l l'
  rw [bG.fV,bG.fV]
  show (jd (.int .i64 a) (.int .i64 b)&&nK (aa.l l) (aa.l l'))=_
  rw [ih]
  simp only [jd]
  by_cases h1:a=b<;>by_cases h2:l=l'<;>simp [h1,h2]
theorem D7 (n:Nat)(k:List Int)(hk:k.length=n):∀l:List (List Int × Int),(l.all fun p=>p.1.length==n)=true→iQ (.agg (aa.l k)) (wP l)=some (if (uY l k).2=true then some (.int .i64 (uY l k).1) else none)
 | [],_=>rfl
 | (a,b)::l,h=>by
  simp only [acr,abA,beq_iff_eq] at h
  have ih:=D7 n k hk l h.2
  simp only [wP,ab5,iQ,sameShape,gK,uY,CU,jR,hk,h.1,pH,beq_self_eq_true,acH,if_true] at ih ⊢
  by_cases KM:k=a
  ·subst KM; simp
  ·simp [KM,ih]
theorem HY (n:Nat)(k:List Int)(v:Int)(hk:k.length=n):∀l:List (List Int × Int),(l.all fun p=>p.1.length==n)=true→uo (.agg (aa.l k)) (.int .i64 v) (wP l)=some (wP (CT l k v))
 | [],_=>rfl
 | (a,b)::l,h=>by
  simp only [acr,abA,beq_iff_eq] at h
  have ih:=HY n k v hk l h.2
  simp only [wP,ab5,uo,sameShape,gK,CT,CU,jR,hk,h.1,pH,beq_self_eq_true,acH,if_true] at ih ⊢
  by_cases KM:k=a
  ·subst KM; simp
  ·simp [KM,ih]
def AN (P:Program)(t:TypeId):Bool:=
 match P.underlying t with
 | some (.map kt et)=>(P.underlying kt matches some (.int .i64))&&(match jk P et with | some (.int .i64 n)=>n==0 | _=>false)
 | _=>false
def AO (P:Program)(t:TypeId)(n:Nat):Bool:=
 match P.underlying t with
 | some (.map kt et)=>(match P.underlying kt with | some (.array m e)=>m==n&&(P.underlying e matches some (.int .i64))&&gh P e==some 1 | _=>false)&&(match jk P et with | some (.int .i64 n)=>n==0 | _=>false)
 | _=>false
section
variable {P:Program}{h:AHeap}{K:Mem}{i q:Nat}{t:TypeId}{n:Nat}
theorem uZ (T:AN P t=true):∃kt et,P.underlying t=some (.map kt et)∧(∀k,gL P kt (.int .i64 k)=true)∧jk P et=some (.int .i64 0):=by
 unfold AN at T
 split at T
 ·rename_i kt et ht
  simp only [abA] at T
  obtain⟨h1,h2⟩:=T
  refine⟨kt,et,ht,fun k=>?_,?_⟩
  ·revert h1
   split
   ·rename_i hk; intro _; simp [gL,hk]
   ·intro h; cases h
  ·split at h2
   ·rename_i z hz; simp only [beq_iff_eq] at h2; subst h2; exact hz
   ·cases h2
 ·cases T
theorem u3 (T:AO P t n=true):∃kt et,P.underlying t=some (.map kt et)∧(∀k:List Int,k.length=n→gL P kt (.agg (aa.l k))=true)∧jk P et=some (.int .i64 0):=by
 unfold AO at T
 split at T
 ·rename_i kt et ht
  simp only [abA] at T
  obtain⟨h1,h2⟩:=T
  refine⟨kt,et,ht,fun k hk=>?_,?_⟩
  ·split at h1
   ·rename_i m e rK
    simp only [abA,beq_iff_eq] at h1
    obtain⟨⟨h3,h4⟩,h5⟩:=h1
    subst h3
    simp only [gL,rK,jR,hk,CU,h5,beq_self_eq_true,acH,Bool.and_true]
    exact h4
   ·cases h1
  ·split at h2
   ·rename_i z hz; simp only [beq_iff_eq] at h2; subst h2; exact hz
   ·cases h2
 ·cases T
theorem yY (o:Has h K):∃i h',(AV.mp h.next,h.alloc (.map []))=(AV.mp i,h')∧Has h' ((i,.mp [])::K):=
 ⟨h.next,_,rfl,o.new (fun k hk=>by rw [AHeap.alloc,dB,if_neg (by omega)]) (acN _) (.inr (abB _)) (ack _) ⟨by have:=o.pos; omega,by rw [AHeap.alloc,dB,if_pos rfl]⟩⟩
theorem Qs {l:List (Int × Int)}{k:Int}(T:AN P t=true)(o:Has h K)(hq:K[q]? = some (i,.mp (mz l))):fD P h t (.mp i) (.int .i64 k) true=some (.tup [.int .i64 (nn l k).1,.bool (nn l k).2])∧fD P h t (.mp i) (.int .i64 k) false=some (.int .i64 (nn l k).1):=by
 obtain⟨kt,et,h1,h2,h3⟩:=uZ T
 obtain⟨⟨_,h4⟩,_⟩:=o.at_ _ _ _ hq
 have hz:(nn l k).2=false→(nn l k).1=0:=by
  clear hq h4
  induction l with
  | nil=>intro _; rfl
  | cons p l ih=>
   obtain⟨a,b⟩:=p
   simp only [nn]
   split
   ·intro h; cases h
   ·exact ih
 simp only [fD,h1,abw,h2,Bool.true_eq_false,if_false,h4,D6]
 cases hc:(nn l k).2 with
 | true=>simp
 | false=>simp [h3,hz hc]
theorem NC {l:List (List Int × Int)}{k:List Int}{r:Int × Bool}(T:AO P t n=true)(o:Has h K)(hq:K[q]? = some (i,.mp (wP l)))(hr:KL n l k=some r):fD P h t (.mp i) (.agg (aa.l k)) true=some (.tup [.int .i64 r.1,.bool r.2])∧fD P h t (.mp i) (.agg (aa.l k)) false=some (.int .i64 r.1):=by
 obtain⟨kt,et,h1,h2,h3⟩:=u3 T
 obtain⟨⟨_,h4⟩,_⟩:=o.at_ _ _ _ hq
 unfold KL at hr
 split at hr
 rotate_left
 ·cases hr
 rename_i hg
 cases hr
 simp only [uX,abA,beq_iff_eq] at hg
 have hz:(uY l k).2=false→(uY l k).1=0:=by
  clear hq h4 hg
  induction l with
  | nil=>intro _; rfl
  | cons p l ih=>
   obtain⟨a,b⟩:=p
   simp only [uY]
   split
   ·intro h; cases h
   ·exact ih
 simp only [fD,h1,abw,h2 k hg.1,Bool.true_eq_false,if_false,h4,D7 n k hg.1 l hg.2]
 cases hc:(uY l k).2 with
 | true=>simp
 | false=>simp [h3,hz hc]
theorem Qt {l:List (Int × Int)}{k v:Int}(T:AN P t=true)(o:Has h K)(hq:K[q]? = some (i,.mp (mz l))):∃h',iI P h t (.mp i) (.int .i64 k) (.int .i64 v)=some h'∧Has h' (K.set q (i,.mp (mz (zU l k v)))):=by
 obtain⟨kt,et,h1,h2,h3⟩:=uZ T
 obtain⟨⟨h5,h4⟩,_⟩:=o.at_ _ _ _ hq
 refine⟨h.put i (.map (mz (zU l k v))),?_,ky o hq ⟨h5,by rw [dB,if_pos rfl]⟩⟩
 simp only [iI,h1,abw,h2]
 rw [if_neg (by simp [AV.lk])]
 simp only [h4,abw,HX,abE]
theorem T9 {l r:List (List Int × Int)}{k:List Int}{v:Int}(T:AO P t n=true)(o:Has h K)(hq:K[q]? = some (i,.mp (wP l)))(hr:Qq n l k v=some r):∃h',iI P h t (.mp i) (.agg (aa.l k)) (.int .i64 v)=some h'∧Has h' (K.set q (i,.mp (wP r))):=by
 obtain⟨kt,et,h1,h2,h3⟩:=u3 T
 obtain⟨⟨h5,h4⟩,_⟩:=o.at_ _ _ _ hq
 unfold Qq at hr
 split at hr
 rotate_left
 ·cases hr
 rename_i hg
 cases hr
 simp only [uX,abA,beq_iff_eq] at hg
 refine⟨h.put i (.map (wP (CT l k v))),?_,ky o hq ⟨h5,by rw [dB,if_pos rfl]⟩⟩
 simp only [iI,h1,abw,h2 k hg.1]
 rw [if_neg (by simp [AV.lk])]
 simp only [h4,abw,HY n k v hg.1 l hg.2,abE]
theorem Qu {es:List (AV × AV)}{kt et:TypeId}(ht:P.underlying t=some (.map kt et))(o:Has h K)(hq:K[q]? = some (i,.mp es)):uq P h t (.mp i)=some (.int .i64 es.length):=by
 obtain⟨⟨_,h4⟩,_⟩:=o.at_ _ _ _ hq
 simp only [uq,ht,abw,h4]
theorem ND {l:List (List Int × Int)}{kt et:TypeId}(ht:P.underlying t=some (.map kt et))(o:Has h K)(hq:K[q]? = some (i,.mp (wP l))):uq P h t (.mp i)=some (.int .i64 l.length):=by
 rw [Qu ht o hq,wP,abL]
variable {l:List Int}{j:Int}{a:Int}{k:IntKind}{cs:List AV}
def FY (P:Program)(t:TypeId)(n:Nat):Bool:=match P.underlying t with | some (.array m e)=>m==n&&gh P e==some 1&&gh P t==some n&&(iq P t==some true) | _=>false
theorem rV (T:FY P t n=true):∃e,P.underlying t=some (.array n e)∧gh P e=some 1∧gh P t=some n∧iq P t=some true:=by
 unfold FY at T
 split at T
 ·rename_i m e h
  simp only [abA,beq_iff_eq] at T
  obtain⟨⟨⟨h1,h2⟩,h3⟩,h4⟩:=T
  subst h1
  exact⟨e,h,h2,h3,h4⟩
 ·cases T
theorem KN (o:Has h K)(hc:cs=aa.l l)(hl:l.length≤1024:=by decide):∃i h',AG h cs=some (.ptr i 0,h')∧Has h' ((i,.sl l.length 1 (aa.l l))::K):=by
 subst hc
 refine⟨h.next,h.alloc (.cells (aa.l l)),?_,o.new (fun k hk=>by rw [AHeap.alloc,dB,if_neg (by omega)]) (acN _) (.inr (abB _)) (ack _) ⟨⟨bG.cP,bG.mM (by omega)⟩,.inr ⟨by have:=o.pos; omega,[],by rw [AHeap.alloc,dB,if_pos rfl]; simp⟩⟩⟩
 unfold AG
 rw [if_pos]
 have:∀l:List Int,(aa.l l).all AV.cK=true:=fun l=>by
  induction l with
  | nil=>rfl
  | cons a l ih=>rw [bG.fV,List.all_append,ih]; rfl
 exact this l
theorem NF (T:FY P t n=true)(o:Has h K)(hq:K[q]? = some (i,.sl n 1 (aa.l l)))(hj:ix l j=some a):fU P t (.ptr i 0) (.int k j)=some (.ptr i (0+j.toNat*1)):=by
 obtain⟨e,h1,h2,_,_⟩:=rV T
 have hn:=dK (E:=aa) o hq
 obtain⟨g1,g2,g3⟩:=ir hj
 simp only [fU,h1,abw,h2]
 rw [if_pos ⟨g1,by omega⟩]
 rfl
theorem xC (o:Has h K)(hq:K[q]? = some (i,.sl n 1 (aa.l l)))(hn0:n≠0):i≠0∧∃rest,h.get i=some (.cells (aa.l l++rest)):=by
 obtain⟨⟨_,h1⟩,_⟩:=o.at_ _ _ _ hq
 rcases h1 with⟨_,h1⟩| h1
 ·exact absurd h1 hn0
 ·exact h1
theorem yZ (T:FY P t n=true)(o:Has h K)(hq:K[q]? = some (i,.sl n 1 (aa.l l)))(hn0:n≠0:=by decide):b7 P h t (.ptr i 0)=some (.agg (aa.l l)):=by
 obtain⟨e,h1,h2,h3,h4⟩:=rV T
 have hn:=dK (E:=aa) o hq
 obtain⟨_,rest,h5⟩:=xC o hq hn0
 simp only [b7,kK,h5,abw,jP,h4,if_true,h3]
 rw [if_pos (by rw [abQ,jR]; omega),acn,aca (by rw [jR]; omega),ach (by rw [jR]; omega)]
theorem NG {l':List Int}{x:AV}(T:FY P t n=true)(o:Has h K)(hq:K[q]? = some (i,.sl n 1 (aa.l l)))(hx:x.cells=aa.l l')(hl:l'.length=n)(hn0:n≠0:=by decide):∃h',jE P h t (.ptr i 0) x=some h'∧Has h' (K.set q (i,.sl n 1 (aa.l l'))):=by
 obtain⟨e,h1,h2,h3,h4⟩:=rV T
 have hn:=dK (E:=aa) o hq
 obtain⟨h6,rest,h5⟩:=xC o hq hn0
 have qf:(aa.l l').all AV.cK=true:=by
  clear hx hl
  induction l' with
  | nil=>rfl
  | cons a l ih=>rw [bG.fV,List.all_append,ih]; rfl
 have zR:=(o.at_ _ _ _ hq).1.1.2
 refine⟨h.put i (.cells (aa.l l'++rest)),?_,ky o hq ⟨⟨by rw [jR,hl,Nat.mul_one],by rw [jR,hl,hn,←jR]; exact zR⟩,.inr ⟨h6,rest,by rw [dB,if_pos rfl]⟩⟩⟩
 simp only [jE,h5,abw,iH,h3,hx]
 rw [if_pos ⟨by rw [jR,hl],qf,by rw [abQ,jR]; omega⟩,abE]
 have:=jZ (aa.l l) (aa.l l') [] rest (by rw [jR,jR]; omega)
 simp only [aci,ab4] at this
 rw [this]
end
end Go.R
