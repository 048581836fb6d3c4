/- Part of the proof: RG8. -/
import Derived.Test.YtifafejidnjckaaGreatK4
set_option linter.unusedVariables false
set_option linter.unusedSimpArgs false
set_option maxRecDepth 100000
open Bool renaming and_eq_true → aiM, true_and → ajC
open List renaming length_append → aiT, length_map → aiY, length_nil → ai4, map_cons → ai9, drop_zero → aji, nil_append → ajj, take_append_of_le_length → ajl, take_of_length_le → ajp, all_cons → ajB
open Nat renaming le_refl → aiQ, lt_succ_self → ajz, le_succ → aj5
open Option renaming bind_some → aiI, map_some → aiR
namespace Go.R
open Go
def mn (x y:Int):Int:=if y<x then y else x
def mx (x y:Int):Int:=if y > x then y else x
def qX (l:List (Int × Int))(k:Int):Int × Bool:=
 match l with
 | []=>(0,false)
 | (a,b)::l=>if k=a then (b,true) else qX l k
def Es (l:List (Int × Int))(k v:Int):List (Int × Int):=
 match l with
 | []=>[(k,v)]
 | (a,b)::l=>if k=a then (k,v)::l else (a,b)::Es l k v
def zJ (n:Nat)(l:List (List Int × Int))(k:List Int):Bool:=k.length==n&&l.all fun p=>p.1.length==n
def zK (l:List (List Int × Int))(k:List Int):Int × Bool:=
 match l with
 | []=>(0,false)
 | (a,b)::l=>if k=a then (b,true) else zK l k
def Q3 (n:Nat)(l:List (List Int × Int))(k:List Int):Option (Int × Bool):=if zJ n l k=true then some (zK l k) else none
def HA (l:List (List Int × Int))(k:List Int)(v:Int):List (List Int × Int):=
 match l with
 | []=>[(k,v)]
 | (a,b)::l=>if k=a then (k,v)::l else (a,b)::HA l k v
def Xc (n:Nat)(l:List (List Int × Int))(k:List Int)(v:Int):Option (List (List Int × Int)):=if zJ n l k=true then some (HA l k v) else none
def qO (l:List (Int × Int)):List (AV × AV):=l.map fun p=>(.int .i64 p.1,.int .i64 p.2)
def Dl (l:List (List Int × Int)):List (AV × AV):=l.map fun p=>(.agg (ab.l p.1),.int .i64 p.2)
theorem I6 (k:Int):∀l:List (Int × Int),kQ (.int .i64 k) (qO l)=some (if (qX l k).2=true then some (.int .i64 (qX l k).1) else none)
 | []=>rfl
 | (a,b)::l=>by
  simp only [qO,ai9,kQ,sameShape,iY,lg,qX]
  have ih:=I6 k l
  simp only [qO] at ih
  by_cases h:k=a
  ·subst h; simp
  ·simp [h,ih]
theorem NH (k v:Int):∀l:List (Int × Int),y9 (.int .i64 k) (.int .i64 v) (qO l)=some (qO (Es l k v))
 | []=>rfl
 | (a,b)::l=>by
  have ih:=NH k v l
  simp only [qO,ai9,y9,sameShape,iY,lg,Es] at ih ⊢
  by_cases h:k=a
  ·subst h; simp
  ·simp [h,ih]
theorem HB (l:List Int):(ab.l l).all n6=true:=by
 induction l with
 | nil=>rfl
 | cons a l ih=>rw [bM.iA,List.all_append,ih]; rfl
theorem mh (l:List Int):(ab.l l).length=l.length:=by rw [bM.cN]; exact Nat.mul_one _
theorem pW:∀a b:List Int,pG (ab.l a) (ab.l b)=decide (a=b)
 | [],[]=>rfl
 | [],b::l=>by simp [bM.iA,bM.SV,eI,pG]
 | a::l,[]=>by simp [bM.iA,bM.SV,eI,pG]
 | a::l,b::l'=>by
  have ih:=pW l l'
  rw [bM.iA,bM.iA]
  show (lg (.int .i64 a) (.int .i64 b)&&pG (ab.l l) (ab.l l'))=_
  rw [ih]
  simp only [lg]
  by_cases h1:a=b<;>by_cases h2:l=l'<;>simp [h1,h2]
theorem I7 (n:Nat)(k:List Int)(hk:k.length=n):∀l:List (List Int × Int),(l.all fun p=>p.1.length==n)=true→kQ (.agg (ab.l k)) (Dl l)=some (if (zK l k).2=true then some (.int .i64 (zK l k).1) else none)
 | [],_=>rfl
 | (a,b)::l,h=>by
  simp only [ajB,aiM,beq_iff_eq] at h
  have ih:=I7 n k hk l h.2
  simp only [Dl,ai9,kQ,sameShape,iY,zK,HB,mh,hk,h.1,pW,beq_self_eq_true,ajC,if_true] at ih ⊢
  by_cases Q9:k=a
  ·subst Q9; simp
  ·simp [Q9,ih]
theorem NI (n:Nat)(k:List Int)(v:Int)(hk:k.length=n):∀l:List (List Int × Int),(l.all fun p=>p.1.length==n)=true→y9 (.agg (ab.l k)) (.int .i64 v) (Dl l)=some (Dl (HA l k v))
 | [],_=>rfl
 | (a,b)::l,h=>by
  simp only [ajB,aiM,beq_iff_eq] at h
  have ih:=NI n k v hk l h.2
  simp only [Dl,ai9,y9,sameShape,iY,HA,HB,mh,hk,h.1,pW,beq_self_eq_true,ajC,if_true] at ih ⊢
  by_cases Q9:k=a
  ·subst Q9; simp
  ·simp [Q9,ih]
def Fe (P:Program)(t:TypeId):Bool:=
 match P.underlying t with
 | some (.map kt et)=>(P.underlying kt matches some (.int .i64))&&(match ls P et with | some (.int .i64 n)=>n==0 | _=>false)
 | _=>false
def Ff (P:Program)(t:TypeId)(n:Nat):Bool:=
 match P.underlying t with
 | some (.map kt et)=>(match P.underlying kt with | some (.array m e)=>m==n&&(P.underlying e matches some (.int .i64))&&iR P e==some 1 | _=>false)&&(match ls P et with | some (.int .i64 n)=>n==0 | _=>false)
 | _=>false
section
variable {P:Program}{h:AHeap}{K:Mem}{i q:Nat}{t:TypeId}{n:Nat}
theorem zL (T:Fe P t=true):∃kt et,P.underlying t=some (.map kt et)∧(∀k,jx P kt (.int .i64 k)=true)∧ls P et=some (.int .i64 0):=by
 unfold Fe at T
 split at T
 ·rename_i kt et ht
  simp only [aiM] at T
  obtain⟨h1,h2⟩:=T
  refine⟨kt,et,ht,fun k=>?_,?_⟩
  ·revert h1
   split
   ·rename_i hk; intro _; simp [jx,hk]
   ·intro h; cases h
  ·split at h2
   ·rename_i z hz; simp only [beq_iff_eq] at h2; subst h2; exact hz
   ·cases h2
 ·cases T
theorem zM (T:Ff P t n=true):∃kt et,P.underlying t=some (.map kt et)∧(∀k:List Int,k.length=n→jx P kt (.agg (ab.l k))=true)∧ls P et=some (.int .i64 0):=by
 unfold Ff at T
 split at T
 ·rename_i kt et ht
  simp only [aiM] at T
  obtain⟨h1,h2⟩:=T
  refine⟨kt,et,ht,fun k hk=>?_,?_⟩
  ·split at h1
   ·rename_i m e wk
    simp only [aiM,beq_iff_eq] at h1
    obtain⟨⟨h3,h4⟩,h5⟩:=h1
    subst h3
    simp only [jx,wk,mh,hk,HB,h5,beq_self_eq_true,ajC,Bool.and_true]
    exact h4
   ·cases h1
  ·split at h2
   ·rename_i z hz; simp only [beq_iff_eq] at h2; subst h2; exact hz
   ·cases h2
 ·cases T
theorem Dm (o:Has h K):∃i h',(AV.mp h.next,h.alloc (.map []))=(AV.mp i,h')∧Has h' ((i,.mp [])::K):=
 ⟨h.next,_,rfl,o.new (fun k hk=>by rw [AHeap.alloc,eF,if_neg (by omega)]) (aj5 _) (.inr (aiQ _)) (ajz _) ⟨by have:=o.pos; omega,by rw [AHeap.alloc,eF,if_pos rfl]⟩⟩
theorem Xd {l:List (Int × Int)}{k:Int}(T:Fe P t=true)(o:Has h K)(hq:K[q]? = some (i,.mp (qO l))):hZ P h t (.mp i) (.int .i64 k) true=some (.tup [.int .i64 (qX l k).1,.bool (qX l k).2])∧hZ P h t (.mp i) (.int .i64 k) false=some (.int .i64 (qX l k).1):=by
 obtain⟨kt,et,h1,h2,h3⟩:=zL T
 obtain⟨⟨_,h4⟩,_⟩:=o.at_ _ _ _ hq
 have hz:(qX l k).2=false→(qX l k).1=0:=by
  clear hq h4
  induction l with
  | nil=>intro _; rfl
  | cons p l ih=>
   obtain⟨a,b⟩:=p
   simp only [qX]
   split
   ·intro h; cases h
   ·exact ih
 simp only [hZ,h1,aiI,h2,Bool.true_eq_false,if_false,h4,I6]
 cases hc:(qX l k).2 with
 | true=>simp
 | false=>simp [h3,hz hc]
theorem Ug {l:List (List Int × Int)}{k:List Int}{r:Int × Bool}(T:Ff P t n=true)(o:Has h K)(hq:K[q]? = some (i,.mp (Dl l)))(hr:Q3 n l k=some r):hZ P h t (.mp i) (.agg (ab.l k)) true=some (.tup [.int .i64 r.1,.bool r.2])∧hZ P h t (.mp i) (.agg (ab.l k)) false=some (.int .i64 r.1):=by
 obtain⟨kt,et,h1,h2,h3⟩:=zM T
 obtain⟨⟨_,h4⟩,_⟩:=o.at_ _ _ _ hq
 unfold Q3 at hr
 split at hr
 rotate_left
 ·cases hr
 rename_i hg
 cases hr
 simp only [zJ,aiM,beq_iff_eq] at hg
 have hz:(zK l k).2=false→(zK l k).1=0:=by
  clear hq h4 hg
  induction l with
  | nil=>intro _; rfl
  | cons p l ih=>
   obtain⟨a,b⟩:=p
   simp only [zK]
   split
   ·intro h; cases h
   ·exact ih
 simp only [hZ,h1,aiI,h2 k hg.1,Bool.true_eq_false,if_false,h4,I7 n k hg.1 l hg.2]
 cases hc:(zK l k).2 with
 | true=>simp
 | false=>simp [h3,hz hc]
theorem Xe {l:List (Int × Int)}{k v:Int}(T:Fe P t=true)(o:Has h K)(hq:K[q]? = some (i,.mp (qO l))):∃h',kC P h t (.mp i) (.int .i64 k) (.int .i64 v)=some h'∧Has h' (K.set q (i,.mp (qO (Es l k v)))):=by
 obtain⟨kt,et,h1,h2,h3⟩:=zL T
 obtain⟨⟨h5,h4⟩,_⟩:=o.at_ _ _ _ hq
 refine⟨h.put i (.map (qO (Es l k v))),?_,mz o hq ⟨h5,by rw [eF,if_pos rfl]⟩⟩
 simp only [kC,h1,aiI,h2]
 rw [if_neg (by simp [AV.nZ])]
 simp only [h4,aiI,NH,aiR]
theorem aaf {l r:List (List Int × Int)}{k:List Int}{v:Int}(T:Ff P t n=true)(o:Has h K)(hq:K[q]? = some (i,.mp (Dl l)))(hr:Xc n l k v=some r):∃h',kC P h t (.mp i) (.agg (ab.l k)) (.int .i64 v)=some h'∧Has h' (K.set q (i,.mp (Dl r))):=by
 obtain⟨kt,et,h1,h2,h3⟩:=zM T
 obtain⟨⟨h5,h4⟩,_⟩:=o.at_ _ _ _ hq
 unfold Xc at hr
 split at hr
 rotate_left
 ·cases hr
 rename_i hg
 cases hr
 simp only [zJ,aiM,beq_iff_eq] at hg
 refine⟨h.put i (.map (Dl (HA l k v))),?_,mz o hq ⟨h5,by rw [eF,if_pos rfl]⟩⟩
 simp only [kC,h1,aiI,h2 k hg.1]
 rw [if_neg (by simp [AV.nZ])]
 simp only [h4,aiI,NI n k v hg.1 l hg.2,aiR]
theorem Xf {es:List (AV × AV)}{kt et:TypeId}(ht:P.underlying t=some (.map kt et))(o:Has h K)(hq:K[q]? = some (i,.mp es)):za P h t (.mp i)=some (.int .i64 es.length):=by
 obtain⟨⟨_,h4⟩,_⟩:=o.at_ _ _ _ hq
 simp only [za,ht,aiI,h4]
theorem Uh {l:List (List Int × Int)}{kt et:TypeId}(ht:P.underlying t=some (.map kt et))(o:Has h K)(hq:K[q]? = some (i,.mp (Dl l))):za P h t (.mp i)=some (.int .i64 l.length):=by
 rw [Xf ht o hq,Dl,aiY]
variable {l:List Int}{j:Int}{a:Int}{k:IntKind}{cs:List AV}
def LD (P:Program)(t:TypeId)(n:Nat):Bool:=match P.underlying t with | some (.array m e)=>m==n&&iR P e==some 1&&iR P t==some n&&(ju P t==some true) | _=>false
theorem wE (T:LD P t n=true):∃e,P.underlying t=some (.array n e)∧iR P e=some 1∧iR P t=some n∧ju P t=some true:=by
 unfold LD at T
 split at T
 ·rename_i m e h
  simp only [aiM,beq_iff_eq] at T
  obtain⟨⟨⟨h1,h2⟩,h3⟩,h4⟩:=T
  subst h1
  exact⟨e,h,h2,h3,h4⟩
 ·cases T
theorem Ra (o:Has h K)(hc:cs=ab.l l)(hl:l.length≤1024:=by decide):∃i h',E6 h cs=some (.ptr i 0,h')∧Has h' ((i,.sl l.length 1 (ab.l l))::K):=by
 subst hc
 refine⟨h.next,h.alloc (.cells (ab.l l)),?_,o.new (fun k hk=>by rw [AHeap.alloc,eF,if_neg (by omega)]) (aj5 _) (.inr (aiQ _)) (ajz _) ⟨⟨bM.cN,bM.pQ (by omega)⟩,.inr ⟨by have:=o.pos; omega,[],by rw [AHeap.alloc,eF,if_pos rfl]; simp⟩⟩⟩
 unfold E6
 rw [if_pos]
 have:∀l:List Int,(ab.l l).all AV.dp=true:=fun l=>by
  induction l with
  | nil=>rfl
  | cons a l ih=>rw [bM.iA,List.all_append,ih]; rfl
 exact this l
theorem Ui (T:LD P t n=true)(o:Has h K)(hq:K[q]? = some (i,.sl n 1 (ab.l l)))(hj:ix l j=some a):iS P t (.ptr i 0) (.int k j)=some (.ptr i (0+j.toNat*1)):=by
 obtain⟨e,h1,h2,_,_⟩:=wE T
 have hn:=dX (E:=ab) o hq
 obtain⟨g1,g2,g3⟩:=jQ hj
 simp only [iS,h1,aiI,h2]
 rw [if_pos ⟨g1,by omega⟩]
 rfl
theorem BZ (o:Has h K)(hq:K[q]? = some (i,.sl n 1 (ab.l l)))(hn0:n≠0):i≠0∧∃rest,h.get i=some (.cells (ab.l l++rest)):=by
 obtain⟨⟨_,h1⟩,_⟩:=o.at_ _ _ _ hq
 rcases h1 with⟨_,h1⟩| h1
 ·exact absurd h1 hn0
 ·exact h1
theorem Dn (T:LD P t n=true)(o:Has h K)(hq:K[q]? = some (i,.sl n 1 (ab.l l)))(hn0:n≠0:=by decide):bR P h t (.ptr i 0)=some (.agg (ab.l l)):=by
 obtain⟨e,h1,h2,h3,h4⟩:=wE T
 have hn:=dX (E:=ab) o hq
 obtain⟨_,rest,h5⟩:=BZ o hq hn0
 simp only [bR,nr,h5,aiI,me,h4,if_true,h3]
 rw [if_pos (by rw [aiT,mh]; omega),aji,ajl (by rw [mh]; omega),ajp (by rw [mh]; omega)]
theorem Uj {l':List Int}{x:AV}(T:LD P t n=true)(o:Has h K)(hq:K[q]? = some (i,.sl n 1 (ab.l l)))(hx:x.cells=ab.l l')(hl:l'.length=n)(hn0:n≠0:=by decide):∃h',lP P h t (.ptr i 0) x=some h'∧Has h' (K.set q (i,.sl n 1 (ab.l l'))):=by
 obtain⟨e,h1,h2,h3,h4⟩:=wE T
 have hn:=dX (E:=ab) o hq
 obtain⟨h6,rest,h5⟩:=BZ o hq hn0
 have uw:(ab.l l').all AV.dp=true:=by
  clear hx hl
  induction l' with
  | nil=>rfl
  | cons a l ih=>rw [bM.iA,List.all_append,ih]; rfl
 have wj:=(o.at_ _ _ _ hq).1.1.2
 refine⟨h.put i (.cells (ab.l l'++rest)),?_,mz o hq ⟨⟨by rw [mh,hl,Nat.mul_one],by rw [mh,hl,hn,←mh]; exact wj⟩,.inr ⟨h6,rest,by rw [eF,if_pos rfl]⟩⟩⟩
 simp only [lP,h5,aiI,kB,h3,hx]
 rw [if_pos ⟨by rw [mh,hl],uw,by rw [aiT,mh]; omega⟩,aiR]
 have:=kW (ab.l l) (ab.l l') [] rest (by rw [mh,mh]; omega)
 simp only [ajj,ai4] at this
 rw [this]
end
end Go.R
