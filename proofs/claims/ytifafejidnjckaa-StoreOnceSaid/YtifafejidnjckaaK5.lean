/- Part of the proof: RG8. -/
import Derived.Test.YtifafejidnjckaaK4
set_option linter.unusedVariables false
set_option linter.unusedSimpArgs false
set_option maxRecDepth 100000
open Bool renaming and_eq_true → Ud, true_and → VI
open List renaming length_append → Uk, length_map → Ux, map_cons → UC, length_nil → UD, take_append_of_le_length → UK, nil_append → UN, take_of_length_le → UP, drop_zero → US, all_cons → UZ
open Nat renaming le_refl → Ue, lt_succ_self → UY, le_succ → Vi
open Option renaming bind_some → Ua, map_some → Ug
namespace Go.R
open Go
def mx (x y:Int):Int:=if y > x then y else x
def wK (l:List (Int × Int))(k:Int):Int × Bool:=
 match l with
 | []=>(0,false)
 | (a,b)::l=>if k=a then (b,true) else wK l k
def BK (l:List (Int × Int))(k v:Int):List (Int × Int):=
 match l with
 | []=>[(k,v)]
 | (a,b)::l=>if k=a then (k,v)::l else (a,b)::BK l k v
def rR (n:Nat)(l:List (List Int × Int))(k:List Int):Bool:=k.length==n&&l.all fun p=>p.1.length==n
def rS (l:List (List Int × Int))(k:List Int):Int × Bool:=
 match l with
 | []=>(0,false)
 | (a,b)::l=>if k=a then (b,true) else rS l k
def FR (n:Nat)(l:List (List Int × Int))(k:List Int):Option (Int × Bool):=if rR n l k=true then some (rS l k) else none
def yu (l:List (List Int × Int))(k:List Int)(v:Int):List (List Int × Int):=
 match l with
 | []=>[(k,v)]
 | (a,b)::l=>if k=a then (k,v)::l else (a,b)::yu l k v
def Kl (n:Nat)(l:List (List Int × Int))(k:List Int)(v:Int):Option (List (List Int × Int)):=if rR n l k=true then some (yu l k v) else none
def ou (l:List (Int × Int)):List (AV × AV):=l.map fun p=>(.int .i64 p.1,.int .i64 p.2)
def sP (l:List (List Int × Int)):List (AV × AV):=l.map fun p=>(.agg (af.l p.1),.int .i64 p.2)
theorem zG (k:Int):∀l:List (Int × Int),ig (.int .i64 k) (ou l)=some (if (wK l k).2=true then some (.int .i64 (wK l k).1) else none)
 | []=>rfl
 | (a,b)::l=>by
  simp only [ou,UC,ig,sameShape,eY,iD,wK]
  have ih:=zG k l
  simp only [ou] at ih
  by_cases h:k=a
  ·subst h; simp
  ·simp [h,ih]
theorem Ds (k v:Int):∀l:List (Int × Int),uc (.int .i64 k) (.int .i64 v) (ou l)=some (ou (BK l k v))
 | []=>rfl
 | (a,b)::l=>by
  have ih:=Ds k v l
  simp only [ou,UC,uc,sameShape,eY,iD,BK] at ih ⊢
  by_cases h:k=a
  ·subst h; simp
  ·simp [h,ih]
theorem yv (l:List Int):(af.l l).all jL=true:=by
 induction l with
 | nil=>rfl
 | cons a l ih=>rw [bL.eo,List.all_append,ih]; rfl
theorem iG (l:List Int):(af.l l).length=l.length:=by rw [bL.bJ]; exact Nat.mul_one _
theorem kZ:∀a b:List Int,kP (af.l a) (af.l b)=decide (a=b)
 | [],[]=>rfl
 | [],b::l=>by simp [bL.eo,bL.G2,eI,kP]
 | a::l,[]=>by simp [bL.eo,bL.G2,eI,kP]
 | a::l,b::l'=>by
  have ih:=kZ l l'
  rw [bL.eo,bL.eo]
  show (iD (.int .i64 a) (.int .i64 b)&&kP (af.l l) (af.l l'))=_
  rw [ih]
  simp only [iD]
  by_cases h1:a=b<;>by_cases h2:l=l'<;>simp [h1,h2]
theorem zH (n:Nat)(k:List Int)(hk:k.length=n):∀l:List (List Int × Int),(l.all fun p=>p.1.length==n)=true→ig (.agg (af.l k)) (sP l)=some (if (rS l k).2=true then some (.int .i64 (rS l k).1) else none)
 | [],_=>rfl
 | (a,b)::l,h=>by
  simp only [UZ,Ud,beq_iff_eq] at h
  have ih:=zH n k hk l h.2
  simp only [sP,UC,ig,sameShape,eY,rS,yv,iG,hk,h.1,kZ,beq_self_eq_true,VI,if_true] at ih ⊢
  by_cases Km:k=a
  ·subst Km; simp
  ·simp [Km,ih]
theorem Dt (n:Nat)(k:List Int)(v:Int)(hk:k.length=n):∀l:List (List Int × Int),(l.all fun p=>p.1.length==n)=true→uc (.agg (af.l k)) (.int .i64 v) (sP l)=some (sP (yu l k v))
 | [],_=>rfl
 | (a,b)::l,h=>by
  simp only [UZ,Ud,beq_iff_eq] at h
  have ih:=Dt n k v hk l h.2
  simp only [sP,UC,uc,sameShape,eY,yu,yv,iG,hk,h.1,kZ,beq_self_eq_true,VI,if_true] at ih ⊢
  by_cases Km:k=a
  ·subst Km; simp
  ·simp [Km,ih]
def wL (P:Program)(t:TypeId):Bool:=
 match P.underlying t with
 | some (.map kt et)=>(P.underlying kt matches some (.int .i64))&&(match ic P et with | some (.int .i64 n)=>n==0 | _=>false)
 | _=>false
def wM (P:Program)(t:TypeId)(n:Nat):Bool:=
 match P.underlying t with
 | some (.map kt et)=>(match P.underlying kt with | some (.array m e)=>m==n&&(P.underlying e matches some (.int .i64))&&eL P e==some 1 | _=>false)&&(match ic P et with | some (.int .i64 n)=>n==0 | _=>false)
 | _=>false
section
variable {P:Program}{h:AHeap}{K:Mem}{i q:Nat}{t:TypeId}{n:Nat}
theorem rT (T:wL P t=true):∃kt et,P.underlying t=some (.map kt et)∧(∀k,fO P kt (.int .i64 k)=true)∧ic P et=some (.int .i64 0):=by
 unfold wL at T
 split at T
 ·rename_i kt et ht
  simp only [Ud] at T
  obtain⟨h1,h2⟩:=T
  refine⟨kt,et,ht,fun k=>?_,?_⟩
  ·revert h1
   split
   ·rename_i hk; intro _; simp [fO,hk]
   ·intro h; cases h
  ·split at h2
   ·rename_i z hz; simp only [beq_iff_eq] at h2; subst h2; exact hz
   ·cases h2
 ·cases T
theorem rU (T:wM P t n=true):∃kt et,P.underlying t=some (.map kt et)∧(∀k:List Int,k.length=n→fO P kt (.agg (af.l k))=true)∧ic P et=some (.int .i64 0):=by
 unfold wM at T
 split at T
 ·rename_i kt et ht
  simp only [Ud] at T
  obtain⟨h1,h2⟩:=T
  refine⟨kt,et,ht,fun k hk=>?_,?_⟩
  ·split at h1
   ·rename_i m e rC
    simp only [Ud,beq_iff_eq] at h1
    obtain⟨⟨h3,h4⟩,h5⟩:=h1
    subst h3
    simp only [fO,rC,iG,hk,yv,h5,beq_self_eq_true,VI,Bool.and_true]
    exact h4
   ·cases h1
  ·split at h2
   ·rename_i z hz; simp only [beq_iff_eq] at h2; subst h2; exact hz
   ·cases h2
 ·cases T
theorem Du (o:Has h K):∃i h',(AV.mp h.next,h.alloc (.map []))=(AV.mp i,h')∧Has h' ((i,.mp [])::K):=
 ⟨h.next,_,rfl,o.new (fun k hk=>by rw [AHeap.alloc,cO,if_neg (by omega)]) (Vi _) (.inr (Ue _)) (UY _) ⟨by have:=o.pos; omega,by rw [AHeap.alloc,cO,if_pos rfl]⟩⟩
theorem MM {l:List (Int × Int)}{k:Int}(T:wL P t=true)(o:Has h K)(hq:K[q]? = some (i,.mp (ou l))):fD P h t (.mp i) (.int .i64 k) true=some (.tup [.int .i64 (wK l k).1,.bool (wK l k).2])∧fD P h t (.mp i) (.int .i64 k) false=some (.int .i64 (wK l k).1):=by
 obtain⟨kt,et,h1,h2,h3⟩:=rT T
 obtain⟨⟨_,h4⟩,_⟩:=o.at_ _ _ _ hq
 have hz:(wK l k).2=false→(wK l k).1=0:=by
  clear hq h4
  induction l with
  | nil=>intro _; rfl
  | cons p l ih=>
   obtain⟨a,b⟩:=p
   simp only [wK]
   split
   ·intro h; cases h
   ·exact ih
 simp only [fD,h1,Ua,h2,Bool.true_eq_false,if_false,h4,zG]
 cases hc:(wK l k).2 with
 | true=>simp
 | false=>simp [h3,hz hc]
theorem HY {l:List (List Int × Int)}{k:List Int}{r:Int × Bool}(T:wM P t n=true)(o:Has h K)(hq:K[q]? = some (i,.mp (sP l)))(hr:FR n l k=some r):fD P h t (.mp i) (.agg (af.l k)) true=some (.tup [.int .i64 r.1,.bool r.2])∧fD P h t (.mp i) (.agg (af.l k)) false=some (.int .i64 r.1):=by
 obtain⟨kt,et,h1,h2,h3⟩:=rU T
 obtain⟨⟨_,h4⟩,_⟩:=o.at_ _ _ _ hq
 unfold FR at hr
 split at hr
 rotate_left
 ·cases hr
 rename_i hg
 cases hr
 simp only [rR,Ud,beq_iff_eq] at hg
 have hz:(rS l k).2=false→(rS l k).1=0:=by
  clear hq h4 hg
  induction l with
  | nil=>intro _; rfl
  | cons p l ih=>
   obtain⟨a,b⟩:=p
   simp only [rS]
   split
   ·intro h; cases h
   ·exact ih
 simp only [fD,h1,Ua,h2 k hg.1,Bool.true_eq_false,if_false,h4,zH n k hg.1 l hg.2]
 cases hc:(rS l k).2 with
 | true=>simp
 | false=>simp [h3,hz hc]
theorem MN {l:List (Int × Int)}{k v:Int}(T:wL P t=true)(o:Has h K)(hq:K[q]? = some (i,.mp (ou l))):∃h',ij P h t (.mp i) (.int .i64 k) (.int .i64 v)=some h'∧Has h' (K.set q (i,.mp (ou (BK l k v)))):=by
 obtain⟨kt,et,h1,h2,h3⟩:=rT T
 obtain⟨⟨h5,h4⟩,_⟩:=o.at_ _ _ _ hq
 refine⟨h.put i (.map (ou (BK l k v))),?_,ja o hq ⟨h5,by rw [cO,if_pos rfl]⟩⟩
 simp only [ij,h1,Ua,h2]
 rw [if_neg (by simp [AV.kh])]
 simp only [h4,Ua,Ds,Ug]
theorem MO {l r:List (List Int × Int)}{k:List Int}{v:Int}(T:wM P t n=true)(o:Has h K)(hq:K[q]? = some (i,.mp (sP l)))(hr:Kl n l k v=some r):∃h',ij P h t (.mp i) (.agg (af.l k)) (.int .i64 v)=some h'∧Has h' (K.set q (i,.mp (sP r))):=by
 obtain⟨kt,et,h1,h2,h3⟩:=rU T
 obtain⟨⟨h5,h4⟩,_⟩:=o.at_ _ _ _ hq
 unfold Kl at hr
 split at hr
 rotate_left
 ·cases hr
 rename_i hg
 cases hr
 simp only [rR,Ud,beq_iff_eq] at hg
 refine⟨h.put i (.map (sP (yu l k v))),?_,ja o hq ⟨h5,by rw [cO,if_pos rfl]⟩⟩
 simp only [ij,h1,Ua,h2 k hg.1]
 rw [if_neg (by simp [AV.kh])]
 simp only [h4,Ua,Dt n k v hg.1 l hg.2,Ug]
theorem Kn {es:List (AV × AV)}{kt et:TypeId}(ht:P.underlying t=some (.map kt et))(o:Has h K)(hq:K[q]? = some (i,.mp es)):qY P h t (.mp i)=some (.int .i64 es.length):=by
 obtain⟨⟨_,h4⟩,_⟩:=o.at_ _ _ _ hq
 simp only [qY,ht,Ua,h4]
theorem HZ {l:List (List Int × Int)}{kt et:TypeId}(ht:P.underlying t=some (.map kt et))(o:Has h K)(hq:K[q]? = some (i,.mp (sP l))):qY P h t (.mp i)=some (.int .i64 l.length):=by
 rw [Kn ht o hq,sP,Ux]
variable {l:List Int}{j:Int}{a:Int}{k:IntKind}{cs:List AV}
def BL (P:Program)(t:TypeId)(n:Nat):Bool:=match P.underlying t with | some (.array m e)=>m==n&&eL P e==some 1&&eL P t==some n&&(fC P t==some true) | _=>false
theorem pj (T:BL P t n=true):∃e,P.underlying t=some (.array n e)∧eL P e=some 1∧eL P t=some n∧fC P t=some true:=by
 unfold BL at T
 split at T
 ·rename_i m e h
  simp only [Ud,beq_iff_eq] at T
  obtain⟨⟨⟨h1,h2⟩,h3⟩,h4⟩:=T
  subst h1
  exact⟨e,h,h2,h3,h4⟩
 ·cases T
theorem FT (o:Has h K)(hc:cs=af.l l)(hl:l.length≤1024:=by decide):∃i h',wB h cs=some (.ptr i 0,h')∧Has h' ((i,.sl l.length 1 (af.l l))::K):=by
 subst hc
 refine⟨h.next,h.alloc (.cells (af.l l)),?_,o.new (fun k hk=>by rw [AHeap.alloc,cO,if_neg (by omega)]) (Vi _) (.inr (Ue _)) (UY _) ⟨⟨bL.bJ,bL.mJ (by omega)⟩,.inr ⟨by have:=o.pos; omega,[],by rw [AHeap.alloc,cO,if_pos rfl]; simp⟩⟩⟩
 unfold wB
 rw [if_pos]
 have:∀l:List Int,(af.l l).all AV.bP=true:=fun l=>by
  induction l with
  | nil=>rfl
  | cons a l ih=>rw [bL.eo,List.all_append,ih]; rfl
 exact this l
theorem H0 (T:BL P t n=true)(o:Has h K)(hq:K[q]? = some (i,.sl n 1 (af.l l)))(hj:ix l j=some a):eD P t (.ptr i 0) (.int k j)=some (.ptr i (0+j.toNat*1)):=by
 obtain⟨e,h1,h2,_,_⟩:=pj T
 have hn:=cD (E:=af) o hq
 obtain⟨g1,g2,g3⟩:=gG hj
 simp only [eD,h1,Ua,h2]
 rw [if_pos ⟨g1,by omega⟩]
 rfl
theorem tD (o:Has h K)(hq:K[q]? = some (i,.sl n 1 (af.l l)))(hn0:n≠0):i≠0∧∃rest,h.get i=some (.cells (af.l l++rest)):=by
 obtain⟨⟨_,h1⟩,_⟩:=o.at_ _ _ _ hq
 rcases h1 with⟨_,h1⟩| h1
 ·exact absurd h1 hn0
 ·exact h1
theorem uU (T:BL P t n=true)(o:Has h K)(hq:K[q]? = some (i,.sl n 1 (af.l l)))(hn0:n≠0:=by decide):bn P h t (.ptr i 0)=some (.agg (af.l l)):=by
 obtain⟨e,h1,h2,h3,h4⟩:=pj T
 have hn:=cD (E:=af) o hq
 obtain⟨_,rest,h5⟩:=tD o hq hn0
 simp only [bn,jj,h5,Ua,iC,h4,if_true,h3]
 rw [if_pos (by rw [Uk,iG]; omega),US,UK (by rw [iG]; omega),UP (by rw [iG]; omega)]
theorem H2 {l':List Int}{x:AV}(T:BL P t n=true)(o:Has h K)(hq:K[q]? = some (i,.sl n 1 (af.l l)))(hx:x.cells=af.l l')(hl:l'.length=n)(hn0:n≠0:=by decide):∃h',iF P h t (.ptr i 0) x=some h'∧Has h' (K.set q (i,.sl n 1 (af.l l'))):=by
 obtain⟨e,h1,h2,h3,h4⟩:=pj T
 have hn:=cD (E:=af) o hq
 obtain⟨h6,rest,h5⟩:=tD o hq hn0
 have nI:(af.l l').all AV.bP=true:=by
  clear hx hl
  induction l' with
  | nil=>rfl
  | cons a l ih=>rw [bL.eo,List.all_append,ih]; rfl
 have qf:=(o.at_ _ _ _ hq).1.1.2
 refine⟨h.put i (.cells (af.l l'++rest)),?_,ja o hq ⟨⟨by rw [iG,hl,Nat.mul_one],by rw [iG,hl,hn,←iG]; exact qf⟩,.inr ⟨h6,rest,by rw [cO,if_pos rfl]⟩⟩⟩
 simp only [iF,h5,Ua,gD,h3,hx]
 rw [if_pos ⟨by rw [iG,hl],nI,by rw [Uk,iG]; omega⟩,Ug]
 have:=gS (af.l l) (af.l l') [] rest (by rw [iG,iG]; omega)
 simp only [UN,UD] at this
 rw [this]
end
end Go.R
