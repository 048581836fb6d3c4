/- Part of the proof: RG8. -/
import Derived.Test.YtifafejidnjckaaK4
set_option linter.unusedVariables false
set_option linter.unusedSimpArgs false
set_option maxRecDepth 100000
open Bool renaming and_eq_true → Vx, true_and → Xa
open List renaming length_append → VD, length_map → VL, length_nil → VS, map_cons → VX, take_append_of_le_length → V3, take_of_length_le → V6, nil_append → V9, drop_zero → Wd, all_cons → Wi
open Nat renaming le_refl → Vy, lt_succ_self → Wh, le_succ → WI
open Option renaming bind_some → Vu, map_some → VA
namespace Go.R
open Go
def mx (x y:Int):Int:=if y > x then y else x
def xl (l:List (Int × Int))(k:Int):Int × Bool:=
 match l with
 | []=>(0,false)
 | (a,b)::l=>if k=a then (b,true) else xl l k
def Cv (l:List (Int × Int))(k v:Int):List (Int × Int):=
 match l with
 | []=>[(k,v)]
 | (a,b)::l=>if k=a then (k,v)::l else (a,b)::Cv l k v
def sq (n:Nat)(l:List (List Int × Int))(k:List Int):Bool:=k.length==n&&l.all fun p=>p.1.length==n
def sr (l:List (List Int × Int))(k:List Int):Int × Bool:=
 match l with
 | []=>(0,false)
 | (a,b)::l=>if k=a then (b,true) else sr l k
def GV (n:Nat)(l:List (List Int × Int))(k:List Int):Option (Int × Bool):=if sq n l k=true then some (sr l k) else none
def zb (l:List (List Int × Int))(k:List Int)(v:Int):List (List Int × Int):=
 match l with
 | []=>[(k,v)]
 | (a,b)::l=>if k=a then (k,v)::l else (a,b)::zb l k v
def Lx (n:Nat)(l:List (List Int × Int))(k:List Int)(v:Int):Option (List (List Int × Int)):=if sq n l k=true then some (zb l k v) else none
def oQ (l:List (Int × Int)):List (AV × AV):=l.map fun p=>(.int .i64 p.1,.int .i64 p.2)
def tH (l:List (List Int × Int)):List (AV × AV):=l.map fun p=>(.agg (af.l p.1),.int .i64 p.2)
theorem An (k:Int):∀l:List (Int × Int),iE (.int .i64 k) (oQ l)=some (if (xl l k).2=true then some (.int .i64 (xl l k).1) else none)
 | []=>rfl
 | (a,b)::l=>by
  simp only [oQ,VX,iE,sameShape,fw,iT,xl]
  have ih:=An k l
  simp only [oQ] at ih
  by_cases h:k=a
  ·subst h; simp
  ·simp [h,ih]
theorem Ef (k v:Int):∀l:List (Int × Int),uN (.int .i64 k) (.int .i64 v) (oQ l)=some (oQ (Cv l k v))
 | []=>rfl
 | (a,b)::l=>by
  have ih:=Ef k v l
  simp only [oQ,VX,uN,sameShape,fw,iT,Cv] at ih ⊢
  by_cases h:k=a
  ·subst h; simp
  ·simp [h,ih]
theorem zc (l:List Int):(af.l l).all j6=true:=by
 induction l with
 | nil=>rfl
 | cons a l ih=>rw [bL.eD,List.all_append,ih]; rfl
theorem iW (l:List Int):(af.l l).length=l.length:=by rw [bL.bN]; exact Nat.mul_one _
theorem lz:∀a b:List Int,lb (af.l a) (af.l b)=decide (a=b)
 | [],[]=>rfl
 | [],b::l=>by simp [bL.eD,bL.H6,eI,lb]
 | a::l,[]=>by simp [bL.eD,bL.H6,eI,lb]
 | a::l,b::l'=>by
  have ih:=lz l l'
  rw [bL.eD,bL.eD]
  show (iT (.int .i64 a) (.int .i64 b)&&lb (af.l l) (af.l l'))=_
  rw [ih]
  simp only [iT]
  by_cases h1:a=b<;>by_cases h2:l=l'<;>simp [h1,h2]
theorem Ao (n:Nat)(k:List Int)(hk:k.length=n):∀l:List (List Int × Int),(l.all fun p=>p.1.length==n)=true→iE (.agg (af.l k)) (tH l)=some (if (sr l k).2=true then some (.int .i64 (sr l k).1) else none)
 | [],_=>rfl
 | (a,b)::l,h=>by
  simp only [Wi,Vx,beq_iff_eq] at h
  have ih:=Ao n k hk l h.2
  simp only [tH,VX,iE,sameShape,fw,sr,zc,iW,hk,h.1,lz,beq_self_eq_true,Xa,if_true] at ih ⊢
  by_cases Ly:k=a
  ·subst Ly; simp
  ·simp [Ly,ih]
theorem Eg (n:Nat)(k:List Int)(v:Int)(hk:k.length=n):∀l:List (List Int × Int),(l.all fun p=>p.1.length==n)=true→uN (.agg (af.l k)) (.int .i64 v) (tH l)=some (tH (zb l k v))
 | [],_=>rfl
 | (a,b)::l,h=>by
  simp only [Wi,Vx,beq_iff_eq] at h
  have ih:=Eg n k v hk l h.2
  simp only [tH,VX,uN,sameShape,fw,zb,zc,iW,hk,h.1,lz,beq_self_eq_true,Xa,if_true] at ih ⊢
  by_cases Ly:k=a
  ·subst Ly; simp
  ·simp [Ly,ih]
def xm (P:Program)(t:TypeId):Bool:=
 match P.underlying t with
 | some (.map kt et)=>(P.underlying kt matches some (.int .i64))&&(match iC P et with | some (.int .i64 n)=>n==0 | _=>false)
 | _=>false
def xn (P:Program)(t:TypeId)(n:Nat):Bool:=
 match P.underlying t with
 | some (.map kt et)=>(match P.underlying kt with | some (.array m e)=>m==n&&(P.underlying e matches some (.int .i64))&&eV P e==some 1 | _=>false)&&(match iC P et with | some (.int .i64 n)=>n==0 | _=>false)
 | _=>false
section
variable {P:Program}{h:AHeap}{K:Mem}{i q:Nat}{t:TypeId}{n:Nat}
theorem ss (T:xm P t=true):∃kt et,P.underlying t=some (.map kt et)∧(∀k,gf P kt (.int .i64 k)=true)∧iC P et=some (.int .i64 0):=by
 unfold xm at T
 split at T
 ·rename_i kt et ht
  simp only [Vx] at T
  obtain⟨h1,h2⟩:=T
  refine⟨kt,et,ht,fun k=>?_,?_⟩
  ·revert h1
   split
   ·rename_i hk; intro _; simp [gf,hk]
   ·intro h; cases h
  ·split at h2
   ·rename_i z hz; simp only [beq_iff_eq] at h2; subst h2; exact hz
   ·cases h2
 ·cases T
theorem su (T:xn P t n=true):∃kt et,P.underlying t=some (.map kt et)∧(∀k:List Int,k.length=n→gf P kt (.agg (af.l k))=true)∧iC P et=some (.int .i64 0):=by
 unfold xn at T
 split at T
 ·rename_i kt et ht
  simp only [Vx] at T
  obtain⟨h1,h2⟩:=T
  refine⟨kt,et,ht,fun k hk=>?_,?_⟩
  ·split at h1
   ·rename_i m e r9
    simp only [Vx,beq_iff_eq] at h1
    obtain⟨⟨h3,h4⟩,h5⟩:=h1
    subst h3
    simp only [gf,r9,iW,hk,zc,h5,beq_self_eq_true,Xa,Bool.and_true]
    exact h4
   ·cases h1
  ·split at h2
   ·rename_i z hz; simp only [beq_iff_eq] at h2; subst h2; exact hz
   ·cases h2
 ·cases T
theorem Eh (o:Has h K):∃i h',(AV.mp h.next,h.alloc (.map []))=(AV.mp i,h')∧Has h' ((i,.mp [])::K):=
 ⟨h.next,_,rfl,o.new (fun k hk=>by rw [AHeap.alloc,cY,if_neg (by omega)]) (WI _) (.inr (Vy _)) (Wh _) ⟨by have:=o.pos; omega,by rw [AHeap.alloc,cY,if_pos rfl]⟩⟩
theorem N5 {l:List (Int × Int)}{k:Int}(T:xm P t=true)(o:Has h K)(hq:K[q]? = some (i,.mp (oQ l))):fQ P h t (.mp i) (.int .i64 k) true=some (.tup [.int .i64 (xl l k).1,.bool (xl l k).2])∧fQ P h t (.mp i) (.int .i64 k) false=some (.int .i64 (xl l k).1):=by
 obtain⟨kt,et,h1,h2,h3⟩:=ss T
 obtain⟨⟨_,h4⟩,_⟩:=o.at_ _ _ _ hq
 have hz:(xl l k).2=false→(xl l k).1=0:=by
  clear hq h4
  induction l with
  | nil=>intro _; rfl
  | cons p l ih=>
   obtain⟨a,b⟩:=p
   simp only [xl]
   split
   ·intro h; cases h
   ·exact ih
 simp only [fQ,h1,Vu,h2,Bool.true_eq_false,if_false,h4,An]
 cases hc:(xl l k).2 with
 | true=>simp
 | false=>simp [h3,hz hc]
theorem I5 {l:List (List Int × Int)}{k:List Int}{r:Int × Bool}(T:xn P t n=true)(o:Has h K)(hq:K[q]? = some (i,.mp (tH l)))(hr:GV n l k=some r):fQ P h t (.mp i) (.agg (af.l k)) true=some (.tup [.int .i64 r.1,.bool r.2])∧fQ P h t (.mp i) (.agg (af.l k)) false=some (.int .i64 r.1):=by
 obtain⟨kt,et,h1,h2,h3⟩:=su T
 obtain⟨⟨_,h4⟩,_⟩:=o.at_ _ _ _ hq
 unfold GV at hr
 split at hr
 rotate_left
 ·cases hr
 rename_i hg
 cases hr
 simp only [sq,Vx,beq_iff_eq] at hg
 have hz:(sr l k).2=false→(sr l k).1=0:=by
  clear hq h4 hg
  induction l with
  | nil=>intro _; rfl
  | cons p l ih=>
   obtain⟨a,b⟩:=p
   simp only [sr]
   split
   ·intro h; cases h
   ·exact ih
 simp only [fQ,h1,Vu,h2 k hg.1,Bool.true_eq_false,if_false,h4,Ao n k hg.1 l hg.2]
 cases hc:(sr l k).2 with
 | true=>simp
 | false=>simp [h3,hz hc]
theorem N6 {l:List (Int × Int)}{k v:Int}(T:xm P t=true)(o:Has h K)(hq:K[q]? = some (i,.mp (oQ l))):∃h',iF P h t (.mp i) (.int .i64 k) (.int .i64 v)=some h'∧Has h' (K.set q (i,.mp (oQ (Cv l k v)))):=by
 obtain⟨kt,et,h1,h2,h3⟩:=ss T
 obtain⟨⟨h5,h4⟩,_⟩:=o.at_ _ _ _ hq
 refine⟨h.put i (.map (oQ (Cv l k v))),?_,jy o hq ⟨h5,by rw [cY,if_pos rfl]⟩⟩
 simp only [iF,h1,Vu,h2]
 rw [if_neg (by simp [AV.kC])]
 simp only [h4,Vu,Ef,VA]
theorem N7 {l r:List (List Int × Int)}{k:List Int}{v:Int}(T:xn P t n=true)(o:Has h K)(hq:K[q]? = some (i,.mp (tH l)))(hr:Lx n l k v=some r):∃h',iF P h t (.mp i) (.agg (af.l k)) (.int .i64 v)=some h'∧Has h' (K.set q (i,.mp (tH r))):=by
 obtain⟨kt,et,h1,h2,h3⟩:=su T
 obtain⟨⟨h5,h4⟩,_⟩:=o.at_ _ _ _ hq
 unfold Lx at hr
 split at hr
 rotate_left
 ·cases hr
 rename_i hg
 cases hr
 simp only [sq,Vx,beq_iff_eq] at hg
 refine⟨h.put i (.map (tH (zb l k v))),?_,jy o hq ⟨h5,by rw [cY,if_pos rfl]⟩⟩
 simp only [iF,h1,Vu,h2 k hg.1]
 rw [if_neg (by simp [AV.kC])]
 simp only [h4,Vu,Eg n k v hg.1 l hg.2,VA]
theorem Lz {es:List (AV × AV)}{kt et:TypeId}(ht:P.underlying t=some (.map kt et))(o:Has h K)(hq:K[q]? = some (i,.mp es)):rJ P h t (.mp i)=some (.int .i64 es.length):=by
 obtain⟨⟨_,h4⟩,_⟩:=o.at_ _ _ _ hq
 simp only [rJ,ht,Vu,h4]
theorem I6 {l:List (List Int × Int)}{kt et:TypeId}(ht:P.underlying t=some (.map kt et))(o:Has h K)(hq:K[q]? = some (i,.mp (tH l))):rJ P h t (.mp i)=some (.int .i64 l.length):=by
 rw [Lz ht o hq,tH,VL]
variable {l:List Int}{j:Int}{a:Int}{k:IntKind}{cs:List AV}
def Cw (P:Program)(t:TypeId)(n:Nat):Bool:=match P.underlying t with | some (.array m e)=>m==n&&eV P e==some 1&&eV P t==some n&&(eX P t==some true) | _=>false
theorem pL (T:Cw P t n=true):∃e,P.underlying t=some (.array n e)∧eV P e=some 1∧eV P t=some n∧eX P t=some true:=by
 unfold Cw at T
 split at T
 ·rename_i m e h
  simp only [Vx,beq_iff_eq] at T
  obtain⟨⟨⟨h1,h2⟩,h3⟩,h4⟩:=T
  subst h1
  exact⟨e,h,h2,h3,h4⟩
 ·cases T
theorem GW (o:Has h K)(hc:cs=af.l l)(hl:l.length≤1024:=by decide):∃i h',xb h cs=some (.ptr i 0,h')∧Has h' ((i,.sl l.length 1 (af.l l))::K):=by
 subst hc
 refine⟨h.next,h.alloc (.cells (af.l l)),?_,o.new (fun k hk=>by rw [AHeap.alloc,cY,if_neg (by omega)]) (WI _) (.inr (Vy _)) (Wh _) ⟨⟨bL.bN,bL.nh (by omega)⟩,.inr ⟨by have:=o.pos; omega,[],by rw [AHeap.alloc,cY,if_pos rfl]; simp⟩⟩⟩
 unfold xb
 rw [if_pos]
 have:∀l:List Int,(af.l l).all AV.bS=true:=fun l=>by
  induction l with
  | nil=>rfl
  | cons a l ih=>rw [bL.eD,List.all_append,ih]; rfl
 exact this l
theorem I7 (T:Cw P t n=true)(o:Has h K)(hq:K[q]? = some (i,.sl n 1 (af.l l)))(hj:ix l j=some a):eM P t (.ptr i 0) (.int k j)=some (.ptr i (0+j.toNat*1)):=by
 obtain⟨e,h1,h2,_,_⟩:=pL T
 have hn:=ck (E:=af) o hq
 obtain⟨g1,g2,g3⟩:=gT hj
 simp only [eM,h1,Vu,h2]
 rw [if_pos ⟨g1,by omega⟩]
 rfl
theorem um (o:Has h K)(hq:K[q]? = some (i,.sl n 1 (af.l l)))(hn0:n≠0):i≠0∧∃rest,h.get i=some (.cells (af.l l++rest)):=by
 obtain⟨⟨_,h1⟩,_⟩:=o.at_ _ _ _ hq
 rcases h1 with⟨_,h1⟩| h1
 ·exact absurd h1 hn0
 ·exact h1
theorem vB (T:Cw P t n=true)(o:Has h K)(hq:K[q]? = some (i,.sl n 1 (af.l l)))(hn0:n≠0:=by decide):bm P h t (.ptr i 0)=some (.agg (af.l l)):=by
 obtain⟨e,h1,h2,h3,h4⟩:=pL T
 have hn:=ck (E:=af) o hq
 obtain⟨_,rest,h5⟩:=um o hq hn0
 simp only [bm,jG,h5,Vu,iR,h4,if_true,h3]
 rw [if_pos (by rw [VD,iW]; omega),Wd,V3 (by rw [iW]; omega),V6 (by rw [iW]; omega)]
theorem I8 {l':List Int}{x:AV}(T:Cw P t n=true)(o:Has h K)(hq:K[q]? = some (i,.sl n 1 (af.l l)))(hx:x.cells=af.l l')(hl:l'.length=n)(hn0:n≠0:=by decide):∃h',iV P h t (.ptr i 0) x=some h'∧Has h' (K.set q (i,.sl n 1 (af.l l'))):=by
 obtain⟨e,h1,h2,h3,h4⟩:=pL T
 have hn:=ck (E:=af) o hq
 obtain⟨h6,rest,h5⟩:=um o hq hn0
 have od:(af.l l').all AV.bS=true:=by
  clear hx hl
  induction l' with
  | nil=>rfl
  | cons a l ih=>rw [bL.eD,List.all_append,ih]; rfl
 have qn:=(o.at_ _ _ _ hq).1.1.2
 refine⟨h.put i (.cells (af.l l'++rest)),?_,jy o hq ⟨⟨by rw [iW,hl,Nat.mul_one],by rw [iW,hl,hn,←iW]; exact qn⟩,.inr ⟨h6,rest,by rw [cY,if_pos rfl]⟩⟩⟩
 simp only [iV,h5,Vu,gQ,h3,hx]
 rw [if_pos ⟨by rw [iW,hl],od,by rw [VD,iW]; omega⟩,VA]
 have:=hX (af.l l) (af.l l') [] rest (by rw [iW,iW]; omega)
 simp only [V9,VS] at this
 rw [this]
end
end Go.R
