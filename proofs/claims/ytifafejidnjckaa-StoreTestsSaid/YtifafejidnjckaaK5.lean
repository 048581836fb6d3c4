/- Part of the proof: RG8. -/
import Derived.Test.YtifafejidnjckaaK4
set_option linter.unusedVariables false
set_option linter.unusedSimpArgs false
set_option maxRecDepth 100000
open Bool renaming and_eq_true → ZF, true_and → aba
open List renaming length_append → ZM, length_map → ZR, map_cons → Z0, length_nil → Z8, take_append_of_le_length → Z9, take_of_length_le → aae, nil_append → aal, drop_zero → aam, all_cons → aao
open Nat renaming le_refl → ZI, lt_succ_self → aas, le_succ → aaM
open Option renaming bind_some → ZB, map_some → ZJ
namespace Go.R
open Go
def mx (x y:Int):Int:=if y > x then y else x
def mK (l:List (Int × Int))(k:Int):Int × Bool:=
 match l with
 | []=>(0,false)
 | (a,b)::l=>if k=a then (b,true) else mK l k
def yc (l:List (Int × Int))(k v:Int):List (Int × Int):=
 match l with
 | []=>[(k,v)]
 | (a,b)::l=>if k=a then (k,v)::l else (a,b)::yc l k v
def tC (n:Nat)(l:List (List Int × Int))(k:List Int):Bool:=k.length==n&&l.all fun p=>p.1.length==n
def tD (l:List (List Int × Int))(k:List Int):Int × Bool:=
 match l with
 | []=>(0,false)
 | (a,b)::l=>if k=a then (b,true) else tD l k
def IL (n:Nat)(l:List (List Int × Int))(k:List Int):Option (Int × Bool):=if tC n l k=true then some (tD l k) else none
def AW (l:List (List Int × Int))(k:List Int)(v:Int):List (List Int × Int):=
 match l with
 | []=>[(k,v)]
 | (a,b)::l=>if k=a then (k,v)::l else (a,b)::AW l k v
def Nz (n:Nat)(l:List (List Int × Int))(k:List Int)(v:Int):Option (List (List Int × Int)):=if tC n l k=true then some (AW l k v) else none
def lW (l:List (Int × Int)):List (AV × AV):=l.map fun p=>(.int .i64 p.1,.int .i64 p.2)
def uR (l:List (List Int × Int)):List (AV × AV):=l.map fun p=>(.agg (af.l p.1),.int .i64 p.2)
theorem Ce (k:Int):∀l:List (Int × Int),iB (.int .i64 k) (lW l)=some (if (mK l k).2=true then some (.int .i64 (mK l k).1) else none)
 | []=>rfl
 | (a,b)::l=>by
  simp only [lW,Z0,iB,sameShape,fQ,iN,mK]
  have ih:=Ce k l
  simp only [lW] at ih
  by_cases h:k=a
  ·subst h; simp
  ·simp [h,ih]
theorem Gc (k v:Int):∀l:List (Int × Int),sK (.int .i64 k) (.int .i64 v) (lW l)=some (lW (yc l k v))
 | []=>rfl
 | (a,b)::l=>by
  have ih:=Gc k v l
  simp only [lW,Z0,sK,sameShape,fQ,iN,yc] at ih ⊢
  by_cases h:k=a
  ·subst h; simp
  ·simp [h,ih]
theorem AX (l:List Int):(af.l l).all kO=true:=by
 induction l with
 | nil=>rfl
 | cons a l ih=>rw [bQ.fB,List.all_append,ih]; rfl
theorem jq (l:List Int):(af.l l).length=l.length:=by rw [bQ.bW]; exact Nat.mul_one _
theorem mj:∀a b:List Int,l7 (af.l a) (af.l b)=decide (a=b)
 | [],[]=>rfl
 | [],b::l=>by simp [bQ.fB,bQ.JY,eI,l7]
 | a::l,[]=>by simp [bQ.fB,bQ.JY,eI,l7]
 | a::l,b::l'=>by
  have ih:=mj l l'
  rw [bQ.fB,bQ.fB]
  show (iN (.int .i64 a) (.int .i64 b)&&l7 (af.l l) (af.l l'))=_
  rw [ih]
  simp only [iN]
  by_cases h1:a=b<;>by_cases h2:l=l'<;>simp [h1,h2]
theorem Cf (n:Nat)(k:List Int)(hk:k.length=n):∀l:List (List Int × Int),(l.all fun p=>p.1.length==n)=true→iB (.agg (af.l k)) (uR l)=some (if (tD l k).2=true then some (.int .i64 (tD l k).1) else none)
 | [],_=>rfl
 | (a,b)::l,h=>by
  simp only [aao,ZF,beq_iff_eq] at h
  have ih:=Cf n k hk l h.2
  simp only [uR,Z0,iB,sameShape,fQ,tD,AX,jq,hk,h.1,mj,beq_self_eq_true,aba,if_true] at ih ⊢
  by_cases NA:k=a
  ·subst NA; simp
  ·simp [NA,ih]
theorem Gd (n:Nat)(k:List Int)(v:Int)(hk:k.length=n):∀l:List (List Int × Int),(l.all fun p=>p.1.length==n)=true→sK (.agg (af.l k)) (.int .i64 v) (uR l)=some (uR (AW l k v))
 | [],_=>rfl
 | (a,b)::l,h=>by
  simp only [aao,ZF,beq_iff_eq] at h
  have ih:=Gd n k v hk l h.2
  simp only [uR,Z0,sK,sameShape,fQ,AW,AX,jq,hk,h.1,mj,beq_self_eq_true,aba,if_true] at ih ⊢
  by_cases NA:k=a
  ·subst NA; simp
  ·simp [NA,ih]
def yX (P:Program)(t:TypeId):Bool:=
 match P.underlying t with
 | some (.map kt et)=>(P.underlying kt matches some (.int .i64))&&(match iS P et with | some (.int .i64 n)=>n==0 | _=>false)
 | _=>false
def yY (P:Program)(t:TypeId)(n:Nat):Bool:=
 match P.underlying t with
 | some (.map kt et)=>(match P.underlying kt with | some (.array m e)=>m==n&&(P.underlying e matches some (.int .i64))&&fR P e==some 1 | _=>false)&&(match iS P et with | some (.int .i64 n)=>n==0 | _=>false)
 | _=>false
section
variable {P:Program}{h:AHeap}{K:Mem}{i q:Nat}{t:TypeId}{n:Nat}
theorem tE (T:yX P t=true):∃kt et,P.underlying t=some (.map kt et)∧(∀k,gp P kt (.int .i64 k)=true)∧iS P et=some (.int .i64 0):=by
 unfold yX at T
 split at T
 ·rename_i kt et ht
  simp only [ZF] at T
  obtain⟨h1,h2⟩:=T
  refine⟨kt,et,ht,fun k=>?_,?_⟩
  ·revert h1
   split
   ·rename_i hk; intro _; simp [gp,hk]
   ·intro h; cases h
  ·split at h2
   ·rename_i z hz; simp only [beq_iff_eq] at h2; subst h2; exact hz
   ·cases h2
 ·cases T
theorem tF (T:yY P t n=true):∃kt et,P.underlying t=some (.map kt et)∧(∀k:List Int,k.length=n→gp P kt (.agg (af.l k))=true)∧iS P et=some (.int .i64 0):=by
 unfold yY at T
 split at T
 ·rename_i kt et ht
  simp only [ZF] at T
  obtain⟨h1,h2⟩:=T
  refine⟨kt,et,ht,fun k hk=>?_,?_⟩
  ·split at h1
   ·rename_i m e qA
    simp only [ZF,beq_iff_eq] at h1
    obtain⟨⟨h3,h4⟩,h5⟩:=h1
    subst h3
    simp only [gp,qA,jq,hk,AX,h5,beq_self_eq_true,aba,Bool.and_true]
    exact h4
   ·cases h1
  ·split at h2
   ·rename_i z hz; simp only [beq_iff_eq] at h2; subst h2; exact hz
   ·cases h2
 ·cases T
theorem xd (o:Has h K):∃i h',(AV.mp h.next,h.alloc (.map []))=(AV.mp i,h')∧Has h' ((i,.mp [])::K):=
 ⟨h.next,_,rfl,o.new (fun k hk=>by rw [AHeap.alloc,dB,if_neg (by omega)]) (aaM _) (.inr (ZI _)) (aas _) ⟨by have:=o.pos; omega,by rw [AHeap.alloc,dB,if_pos rfl]⟩⟩
theorem NB {l:List (Int × Int)}{k:Int}(T:yX P t=true)(o:Has h K)(hq:K[q]? = some (i,.mp (lW l))):fh P h t (.mp i) (.int .i64 k) true=some (.tup [.int .i64 (mK l k).1,.bool (mK l k).2])∧fh P h t (.mp i) (.int .i64 k) false=some (.int .i64 (mK l k).1):=by
 obtain⟨kt,et,h1,h2,h3⟩:=tE T
 obtain⟨⟨_,h4⟩,_⟩:=o.at_ _ _ _ hq
 have hz:(mK l k).2=false→(mK l k).1=0:=by
  clear hq h4
  induction l with
  | nil=>intro _; rfl
  | cons p l ih=>
   obtain⟨a,b⟩:=p
   simp only [mK]
   split
   ·intro h; cases h
   ·exact ih
 simp only [fh,h1,ZB,h2,Bool.true_eq_false,if_false,h4,Ce]
 cases hc:(mK l k).2 with
 | true=>simp
 | false=>simp [h3,hz hc]
theorem KP {l:List (List Int × Int)}{k:List Int}{r:Int × Bool}(T:yY P t n=true)(o:Has h K)(hq:K[q]? = some (i,.mp (uR l)))(hr:IL n l k=some r):fh P h t (.mp i) (.agg (af.l k)) true=some (.tup [.int .i64 r.1,.bool r.2])∧fh P h t (.mp i) (.agg (af.l k)) false=some (.int .i64 r.1):=by
 obtain⟨kt,et,h1,h2,h3⟩:=tF T
 obtain⟨⟨_,h4⟩,_⟩:=o.at_ _ _ _ hq
 unfold IL at hr
 split at hr
 rotate_left
 ·cases hr
 rename_i hg
 cases hr
 simp only [tC,ZF,beq_iff_eq] at hg
 have hz:(tD l k).2=false→(tD l k).1=0:=by
  clear hq h4 hg
  induction l with
  | nil=>intro _; rfl
  | cons p l ih=>
   obtain⟨a,b⟩:=p
   simp only [tD]
   split
   ·intro h; cases h
   ·exact ih
 simp only [fh,h1,ZB,h2 k hg.1,Bool.true_eq_false,if_false,h4,Cf n k hg.1 l hg.2]
 cases hc:(tD l k).2 with
 | true=>simp
 | false=>simp [h3,hz hc]
theorem NC {l:List (Int × Int)}{k v:Int}(T:yX P t=true)(o:Has h K)(hq:K[q]? = some (i,.mp (lW l))):∃h',ij P h t (.mp i) (.int .i64 k) (.int .i64 v)=some h'∧Has h' (K.set q (i,.mp (lW (yc l k v)))):=by
 obtain⟨kt,et,h1,h2,h3⟩:=tE T
 obtain⟨⟨h5,h4⟩,_⟩:=o.at_ _ _ _ hq
 refine⟨h.put i (.map (lW (yc l k v))),?_,jA o hq ⟨h5,by rw [dB,if_pos rfl]⟩⟩
 simp only [ij,h1,ZB,h2]
 rw [if_neg (by simp [AV.kM])]
 simp only [h4,ZB,Gc,ZJ]
theorem Qk {l r:List (List Int × Int)}{k:List Int}{v:Int}(T:yY P t n=true)(o:Has h K)(hq:K[q]? = some (i,.mp (uR l)))(hr:Nz n l k v=some r):∃h',ij P h t (.mp i) (.agg (af.l k)) (.int .i64 v)=some h'∧Has h' (K.set q (i,.mp (uR r))):=by
 obtain⟨kt,et,h1,h2,h3⟩:=tF T
 obtain⟨⟨h5,h4⟩,_⟩:=o.at_ _ _ _ hq
 unfold Nz at hr
 split at hr
 rotate_left
 ·cases hr
 rename_i hg
 cases hr
 simp only [tC,ZF,beq_iff_eq] at hg
 refine⟨h.put i (.map (uR (AW l k v))),?_,jA o hq ⟨h5,by rw [dB,if_pos rfl]⟩⟩
 simp only [ij,h1,ZB,h2 k hg.1]
 rw [if_neg (by simp [AV.kM])]
 simp only [h4,ZB,Gd n k v hg.1 l hg.2,ZJ]
theorem ND {es:List (AV × AV)}{kt et:TypeId}(ht:P.underlying t=some (.map kt et))(o:Has h K)(hq:K[q]? = some (i,.mp es)):sL P h t (.mp i)=some (.int .i64 es.length):=by
 obtain⟨⟨_,h4⟩,_⟩:=o.at_ _ _ _ hq
 simp only [sL,ht,ZB,h4]
theorem KQ {l:List (List Int × Int)}{kt et:TypeId}(ht:P.underlying t=some (.map kt et))(o:Has h K)(hq:K[q]? = some (i,.mp (uR l))):sL P h t (.mp i)=some (.int .i64 l.length):=by
 rw [ND ht o hq,uR,ZR]
variable {l:List Int}{j:Int}{a:Int}{k:IntKind}{cs:List AV}
def Em (P:Program)(t:TypeId)(n:Nat):Bool:=match P.underlying t with | some (.array m e)=>m==n&&fR P e==some 1&&fR P t==some n&&(gF P t==some true) | _=>false
theorem qM (T:Em P t n=true):∃e,P.underlying t=some (.array n e)∧fR P e=some 1∧fR P t=some n∧gF P t=some true:=by
 unfold Em at T
 split at T
 ·rename_i m e h
  simp only [ZF,beq_iff_eq] at T
  obtain⟨⟨⟨h1,h2⟩,h3⟩,h4⟩:=T
  subst h1
  exact⟨e,h,h2,h3,h4⟩
 ·cases T
theorem IM (o:Has h K)(hc:cs=af.l l)(hl:l.length≤1024:=by decide):∃i h',yN h cs=some (.ptr i 0,h')∧Has h' ((i,.sl l.length 1 (af.l l))::K):=by
 subst hc
 refine⟨h.next,h.alloc (.cells (af.l l)),?_,o.new (fun k hk=>by rw [AHeap.alloc,dB,if_neg (by omega)]) (aaM _) (.inr (ZI _)) (aas _) ⟨⟨bQ.bW,bQ.n9 (by omega)⟩,.inr ⟨by have:=o.pos; omega,[],by rw [AHeap.alloc,dB,if_pos rfl]; simp⟩⟩⟩
 unfold yN
 rw [if_pos]
 have:∀l:List Int,(af.l l).all AV.cg=true:=fun l=>by
  induction l with
  | nil=>rfl
  | cons a l ih=>rw [bQ.fB,List.all_append,ih]; rfl
 exact this l
theorem KR (T:Em P t n=true)(o:Has h K)(hq:K[q]? = some (i,.sl n 1 (af.l l)))(hj:ix l j=some a):fJ P t (.ptr i 0) (.int k j)=some (.ptr i (0+j.toNat*1)):=by
 obtain⟨e,h1,h2,_,_⟩:=qM T
 have hn:=dh (E:=af) o hq
 obtain⟨g1,g2,g3⟩:=iq hj
 simp only [fJ,h1,ZB,h2]
 rw [if_pos ⟨g1,by omega⟩]
 rfl
theorem vE (o:Has h K)(hq:K[q]? = some (i,.sl n 1 (af.l l)))(hn0:n≠0):i≠0∧∃rest,h.get i=some (.cells (af.l l++rest)):=by
 obtain⟨⟨_,h1⟩,_⟩:=o.at_ _ _ _ hq
 rcases h1 with⟨_,h1⟩| h1
 ·exact absurd h1 hn0
 ·exact h1
theorem xe (T:Em P t n=true)(o:Has h K)(hq:K[q]? = some (i,.sl n 1 (af.l l)))(hn0:n≠0:=by decide):bE P h t (.ptr i 0)=some (.agg (af.l l)):=by
 obtain⟨e,h1,h2,h3,h4⟩:=qM T
 have hn:=dh (E:=af) o hq
 obtain⟨_,rest,h5⟩:=vE o hq hn0
 simp only [bE,kh,h5,ZB,jl,h4,if_true,h3]
 rw [if_pos (by rw [ZM,jq]; omega),aam,Z9 (by rw [jq]; omega),aae (by rw [jq]; omega)]
theorem KS {l':List Int}{x:AV}(T:Em P t n=true)(o:Has h K)(hq:K[q]? = some (i,.sl n 1 (af.l l)))(hx:x.cells=af.l l')(hl:l'.length=n)(hn0:n≠0:=by decide):∃h',jo P h t (.ptr i 0) x=some h'∧Has h' (K.set q (i,.sl n 1 (af.l l'))):=by
 obtain⟨e,h1,h2,h3,h4⟩:=qM T
 have hn:=dh (E:=af) o hq
 obtain⟨h6,rest,h5⟩:=vE o hq hn0
 have pq:(af.l l').all AV.cg=true:=by
  clear hx hl
  induction l' with
  | nil=>rfl
  | cons a l ih=>rw [bQ.fB,List.all_append,ih]; rfl
 have rq:=(o.at_ _ _ _ hq).1.1.2
 refine⟨h.put i (.cells (af.l l'++rest)),?_,jA o hq ⟨⟨by rw [jq,hl,Nat.mul_one],by rw [jq,hl,hn,←jq]; exact rq⟩,.inr ⟨h6,rest,by rw [dB,if_pos rfl]⟩⟩⟩
 simp only [jo,h5,ZB,ig,h3,hx]
 rw [if_pos ⟨by rw [jq,hl],pq,by rw [ZM,jq]; omega⟩,ZJ]
 have:=iH (af.l l) (af.l l') [] rest (by rw [jq,jq]; omega)
 simp only [aal,Z8] at this
 rw [this]
end
end Go.R
