/- Part of the proof: RG8. -/
import Derived.Test.YtifafejidnjckaaK4
set_option linter.unusedVariables false
set_option linter.unusedSimpArgs false
set_option maxRecDepth 100000
open Bool renaming and_eq_true → Ux, true_and → V5
open List renaming length_append → UD, length_map → UQ, length_nil → UW, map_cons → UX, take_append_of_le_length → U4, nil_append → U7, take_of_length_le → Va, drop_zero → Vd, all_cons → Vi
open Nat renaming le_refl → Uy, lt_succ_self → Vh, le_succ → VD
open Option renaming bind_some → Uu, map_some → Uz
namespace Go.R
open Go
def mx (x y:Int):Int:=if y > x then y else x
def wP (l:List (Int × Int))(k:Int):Int × Bool:=
 match l with
 | []=>(0,false)
 | (a,b)::l=>if k=a then (b,true) else wP l k
def BQ (l:List (Int × Int))(k v:Int):List (Int × Int):=
 match l with
 | []=>[(k,v)]
 | (a,b)::l=>if k=a then (k,v)::l else (a,b)::BQ l k v
def rV (n:Nat)(l:List (List Int × Int))(k:List Int):Bool:=k.length==n&&l.all fun p=>p.1.length==n
def rW (l:List (List Int × Int))(k:List Int):Int × Bool:=
 match l with
 | []=>(0,false)
 | (a,b)::l=>if k=a then (b,true) else rW l k
def Gc (n:Nat)(l:List (List Int × Int))(k:List Int):Option (Int × Bool):=if rV n l k=true then some (rW l k) else none
def yB (l:List (List Int × Int))(k:List Int)(v:Int):List (List Int × Int):=
 match l with
 | []=>[(k,v)]
 | (a,b)::l=>if k=a then (k,v)::l else (a,b)::yB l k v
def KD (n:Nat)(l:List (List Int × Int))(k:List Int)(v:Int):Option (List (List Int × Int)):=if rV n l k=true then some (yB l k v) else none
def ov (l:List (Int × Int)):List (AV × AV):=l.map fun p=>(.int .i64 p.1,.int .i64 p.2)
def sU (l:List (List Int × Int)):List (AV × AV):=l.map fun p=>(.agg (af.l p.1),.int .i64 p.2)
theorem zO (k:Int):∀l:List (Int × Int),iv (.int .i64 k) (ov l)=some (if (wP l k).2=true then some (.int .i64 (wP l k).1) else none)
 | []=>rfl
 | (a,b)::l=>by
  simp only [ov,UX,iv,sameShape,fe,iM,wP]
  have ih:=zO k l
  simp only [ov] at ih
  by_cases h:k=a
  ·subst h; simp
  ·simp [h,ih]
theorem DE (k v:Int):∀l:List (Int × Int),ui (.int .i64 k) (.int .i64 v) (ov l)=some (ov (BQ l k v))
 | []=>rfl
 | (a,b)::l=>by
  have ih:=DE k v l
  simp only [ov,UX,ui,sameShape,fe,iM,BQ] at ih ⊢
  by_cases h:k=a
  ·subst h; simp
  ·simp [h,ih]
theorem yC (l:List Int):(af.l l).all jQ=true:=by
 induction l with
 | nil=>rfl
 | cons a l ih=>rw [bL.eo,List.all_append,ih]; rfl
theorem iP (l:List Int):(af.l l).length=l.length:=by rw [bL.bK]; exact Nat.mul_one _
theorem kY:∀a b:List Int,kN (af.l a) (af.l b)=decide (a=b)
 | [],[]=>rfl
 | [],b::l=>by simp [bL.eo,bL.Hl,eI,kN]
 | a::l,[]=>by simp [bL.eo,bL.Hl,eI,kN]
 | a::l,b::l'=>by
  have ih:=kY l l'
  rw [bL.eo,bL.eo]
  show (iM (.int .i64 a) (.int .i64 b)&&kN (af.l l) (af.l l'))=_
  rw [ih]
  simp only [iM]
  by_cases h1:a=b<;>by_cases h2:l=l'<;>simp [h1,h2]
theorem zP (n:Nat)(k:List Int)(hk:k.length=n):∀l:List (List Int × Int),(l.all fun p=>p.1.length==n)=true→iv (.agg (af.l k)) (sU l)=some (if (rW l k).2=true then some (.int .i64 (rW l k).1) else none)
 | [],_=>rfl
 | (a,b)::l,h=>by
  simp only [Vi,Ux,beq_iff_eq] at h
  have ih:=zP n k hk l h.2
  simp only [sU,UX,iv,sameShape,fe,rW,yC,iP,hk,h.1,kY,beq_self_eq_true,V5,if_true] at ih ⊢
  by_cases KE:k=a
  ·subst KE; simp
  ·simp [KE,ih]
theorem DF (n:Nat)(k:List Int)(v:Int)(hk:k.length=n):∀l:List (List Int × Int),(l.all fun p=>p.1.length==n)=true→ui (.agg (af.l k)) (.int .i64 v) (sU l)=some (sU (yB l k v))
 | [],_=>rfl
 | (a,b)::l,h=>by
  simp only [Vi,Ux,beq_iff_eq] at h
  have ih:=DF n k v hk l h.2
  simp only [sU,UX,ui,sameShape,fe,yB,yC,iP,hk,h.1,kY,beq_self_eq_true,V5,if_true] at ih ⊢
  by_cases KE:k=a
  ·subst KE; simp
  ·simp [KE,ih]
def wQ (P:Program)(t:TypeId):Bool:=
 match P.underlying t with
 | some (.map kt et)=>(P.underlying kt matches some (.int .i64))&&(match ir P et with | some (.int .i64 n)=>n==0 | _=>false)
 | _=>false
def wR (P:Program)(t:TypeId)(n:Nat):Bool:=
 match P.underlying t with
 | some (.map kt et)=>(match P.underlying kt with | some (.array m e)=>m==n&&(P.underlying e matches some (.int .i64))&&eO P e==some 1 | _=>false)&&(match ir P et with | some (.int .i64 n)=>n==0 | _=>false)
 | _=>false
section
variable {P:Program}{h:AHeap}{K:Mem}{i q:Nat}{t:TypeId}{n:Nat}
theorem rX (T:wQ P t=true):∃kt et,P.underlying t=some (.map kt et)∧(∀k,fW P kt (.int .i64 k)=true)∧ir P et=some (.int .i64 0):=by
 unfold wQ at T
 split at T
 ·rename_i kt et ht
  simp only [Ux] at T
  obtain⟨h1,h2⟩:=T
  refine⟨kt,et,ht,fun k=>?_,?_⟩
  ·revert h1
   split
   ·rename_i hk; intro _; simp [fW,hk]
   ·intro h; cases h
  ·split at h2
   ·rename_i z hz; simp only [beq_iff_eq] at h2; subst h2; exact hz
   ·cases h2
 ·cases T
theorem rY (T:wR P t n=true):∃kt et,P.underlying t=some (.map kt et)∧(∀k:List Int,k.length=n→fW P kt (.agg (af.l k))=true)∧ir P et=some (.int .i64 0):=by
 unfold wR at T
 split at T
 ·rename_i kt et ht
  simp only [Ux] at T
  obtain⟨h1,h2⟩:=T
  refine⟨kt,et,ht,fun k hk=>?_,?_⟩
  ·split at h1
   ·rename_i m e rG
    simp only [Ux,beq_iff_eq] at h1
    obtain⟨⟨h3,h4⟩,h5⟩:=h1
    subst h3
    simp only [fW,rG,iP,hk,yC,h5,beq_self_eq_true,V5,Bool.and_true]
    exact h4
   ·cases h1
  ·split at h2
   ·rename_i z hz; simp only [beq_iff_eq] at h2; subst h2; exact hz
   ·cases h2
 ·cases T
theorem DG (o:Has h K):∃i h',(AV.mp h.next,h.alloc (.map []))=(AV.mp i,h')∧Has h' ((i,.mp [])::K):=
 ⟨h.next,_,rfl,o.new (fun k hk=>by rw [AHeap.alloc,cR,if_neg (by omega)]) (VD _) (.inr (Uy _)) (Vh _) ⟨by have:=o.pos; omega,by rw [AHeap.alloc,cR,if_pos rfl]⟩⟩
theorem Nh {l:List (Int × Int)}{k:Int}(T:wQ P t=true)(o:Has h K)(hq:K[q]? = some (i,.mp (ov l))):fK P h t (.mp i) (.int .i64 k) true=some (.tup [.int .i64 (wP l k).1,.bool (wP l k).2])∧fK P h t (.mp i) (.int .i64 k) false=some (.int .i64 (wP l k).1):=by
 obtain⟨kt,et,h1,h2,h3⟩:=rX T
 obtain⟨⟨_,h4⟩,_⟩:=o.at_ _ _ _ hq
 have hz:(wP l k).2=false→(wP l k).1=0:=by
  clear hq h4
  induction l with
  | nil=>intro _; rfl
  | cons p l ih=>
   obtain⟨a,b⟩:=p
   simp only [wP]
   split
   ·intro h; cases h
   ·exact ih
 simp only [fK,h1,Uu,h2,Bool.true_eq_false,if_false,h4,zO]
 cases hc:(wP l k).2 with
 | true=>simp
 | false=>simp [h3,hz hc]
theorem Ik {l:List (List Int × Int)}{k:List Int}{r:Int × Bool}(T:wR P t n=true)(o:Has h K)(hq:K[q]? = some (i,.mp (sU l)))(hr:Gc n l k=some r):fK P h t (.mp i) (.agg (af.l k)) true=some (.tup [.int .i64 r.1,.bool r.2])∧fK P h t (.mp i) (.agg (af.l k)) false=some (.int .i64 r.1):=by
 obtain⟨kt,et,h1,h2,h3⟩:=rY T
 obtain⟨⟨_,h4⟩,_⟩:=o.at_ _ _ _ hq
 unfold Gc at hr
 split at hr
 rotate_left
 ·cases hr
 rename_i hg
 cases hr
 simp only [rV,Ux,beq_iff_eq] at hg
 have hz:(rW l k).2=false→(rW l k).1=0:=by
  clear hq h4 hg
  induction l with
  | nil=>intro _; rfl
  | cons p l ih=>
   obtain⟨a,b⟩:=p
   simp only [rW]
   split
   ·intro h; cases h
   ·exact ih
 simp only [fK,h1,Uu,h2 k hg.1,Bool.true_eq_false,if_false,h4,zP n k hg.1 l hg.2]
 cases hc:(rW l k).2 with
 | true=>simp
 | false=>simp [h3,hz hc]
theorem Ni {l:List (Int × Int)}{k v:Int}(T:wQ P t=true)(o:Has h K)(hq:K[q]? = some (i,.mp (ov l))):∃h',iw P h t (.mp i) (.int .i64 k) (.int .i64 v)=some h'∧Has h' (K.set q (i,.mp (ov (BQ l k v)))):=by
 obtain⟨kt,et,h1,h2,h3⟩:=rX T
 obtain⟨⟨h5,h4⟩,_⟩:=o.at_ _ _ _ hq
 refine⟨h.put i (.map (ov (BQ l k v))),?_,jj o hq ⟨h5,by rw [cR,if_pos rfl]⟩⟩
 simp only [iw,h1,Uu,h2]
 rw [if_neg (by simp [AV.kj])]
 simp only [h4,Uu,DE,Uz]
theorem Nj {l r:List (List Int × Int)}{k:List Int}{v:Int}(T:wR P t n=true)(o:Has h K)(hq:K[q]? = some (i,.mp (sU l)))(hr:KD n l k v=some r):∃h',iw P h t (.mp i) (.agg (af.l k)) (.int .i64 v)=some h'∧Has h' (K.set q (i,.mp (sU r))):=by
 obtain⟨kt,et,h1,h2,h3⟩:=rY T
 obtain⟨⟨h5,h4⟩,_⟩:=o.at_ _ _ _ hq
 unfold KD at hr
 split at hr
 rotate_left
 ·cases hr
 rename_i hg
 cases hr
 simp only [rV,Ux,beq_iff_eq] at hg
 refine⟨h.put i (.map (sU (yB l k v))),?_,jj o hq ⟨h5,by rw [cR,if_pos rfl]⟩⟩
 simp only [iw,h1,Uu,h2 k hg.1]
 rw [if_neg (by simp [AV.kj])]
 simp only [h4,Uu,DF n k v hg.1 l hg.2,Uz]
theorem KF {es:List (AV × AV)}{kt et:TypeId}(ht:P.underlying t=some (.map kt et))(o:Has h K)(hq:K[q]? = some (i,.mp es)):q8 P h t (.mp i)=some (.int .i64 es.length):=by
 obtain⟨⟨_,h4⟩,_⟩:=o.at_ _ _ _ hq
 simp only [q8,ht,Uu,h4]
theorem Il {l:List (List Int × Int)}{kt et:TypeId}(ht:P.underlying t=some (.map kt et))(o:Has h K)(hq:K[q]? = some (i,.mp (sU l))):q8 P h t (.mp i)=some (.int .i64 l.length):=by
 rw [KF ht o hq,sU,UQ]
variable {l:List Int}{j:Int}{a:Int}{k:IntKind}{cs:List AV}
def BR (P:Program)(t:TypeId)(n:Nat):Bool:=match P.underlying t with | some (.array m e)=>m==n&&eO P e==some 1&&eO P t==some n&&(fJ P t==some true) | _=>false
theorem pn (T:BR P t n=true):∃e,P.underlying t=some (.array n e)∧eO P e=some 1∧eO P t=some n∧fJ P t=some true:=by
 unfold BR at T
 split at T
 ·rename_i m e h
  simp only [Ux,beq_iff_eq] at T
  obtain⟨⟨⟨h1,h2⟩,h3⟩,h4⟩:=T
  subst h1
  exact⟨e,h,h2,h3,h4⟩
 ·cases T
theorem Gd (o:Has h K)(hc:cs=af.l l)(hl:l.length≤1024:=by decide):∃i h',wE h cs=some (.ptr i 0,h')∧Has h' ((i,.sl l.length 1 (af.l l))::K):=by
 subst hc
 refine⟨h.next,h.alloc (.cells (af.l l)),?_,o.new (fun k hk=>by rw [AHeap.alloc,cR,if_neg (by omega)]) (VD _) (.inr (Uy _)) (Vh _) ⟨⟨bL.bK,bL.mL (by omega)⟩,.inr ⟨by have:=o.pos; omega,[],by rw [AHeap.alloc,cR,if_pos rfl]; simp⟩⟩⟩
 unfold wE
 rw [if_pos]
 have:∀l:List Int,(af.l l).all AV.bP=true:=fun l=>by
  induction l with
  | nil=>rfl
  | cons a l ih=>rw [bL.eo,List.all_append,ih]; rfl
 exact this l
theorem Im (T:BR P t n=true)(o:Has h K)(hq:K[q]? = some (i,.sl n 1 (af.l l)))(hj:ix l j=some a):eD P t (.ptr i 0) (.int k j)=some (.ptr i (0+j.toNat*1)):=by
 obtain⟨e,h1,h2,_,_⟩:=pn T
 have hn:=cG (E:=af) o hq
 obtain⟨g1,g2,g3⟩:=gL hj
 simp only [eD,h1,Uu,h2]
 rw [if_pos ⟨g1,by omega⟩]
 rfl
theorem tI (o:Has h K)(hq:K[q]? = some (i,.sl n 1 (af.l l)))(hn0:n≠0):i≠0∧∃rest,h.get i=some (.cells (af.l l++rest)):=by
 obtain⟨⟨_,h1⟩,_⟩:=o.at_ _ _ _ hq
 rcases h1 with⟨_,h1⟩| h1
 ·exact absurd h1 hn0
 ·exact h1
theorem uZ (T:BR P t n=true)(o:Has h K)(hq:K[q]? = some (i,.sl n 1 (af.l l)))(hn0:n≠0:=by decide):bm P h t (.ptr i 0)=some (.agg (af.l l)):=by
 obtain⟨e,h1,h2,h3,h4⟩:=pn T
 have hn:=cG (E:=af) o hq
 obtain⟨_,rest,h5⟩:=tI o hq hn0
 simp only [bm,jt,h5,Uu,iL,h4,if_true,h3]
 rw [if_pos (by rw [UD,iP]; omega),Vd,U4 (by rw [iP]; omega),Va (by rw [iP]; omega)]
theorem Io {l':List Int}{x:AV}(T:BR P t n=true)(o:Has h K)(hq:K[q]? = some (i,.sl n 1 (af.l l)))(hx:x.cells=af.l l')(hl:l'.length=n)(hn0:n≠0:=by decide):∃h',iO P h t (.ptr i 0) x=some h'∧Has h' (K.set q (i,.sl n 1 (af.l l'))):=by
 obtain⟨e,h1,h2,h3,h4⟩:=pn T
 have hn:=cG (E:=af) o hq
 obtain⟨h6,rest,h5⟩:=tI o hq hn0
 have nJ:(af.l l').all AV.bP=true:=by
  clear hx hl
  induction l' with
  | nil=>rfl
  | cons a l ih=>rw [bL.eo,List.all_append,ih]; rfl
 have qg:=(o.at_ _ _ _ hq).1.1.2
 refine⟨h.put i (.cells (af.l l'++rest)),?_,jj o hq ⟨⟨by rw [iP,hl,Nat.mul_one],by rw [iP,hl,hn,←iP]; exact qg⟩,.inr ⟨h6,rest,by rw [cR,if_pos rfl]⟩⟩⟩
 simp only [iO,h5,Uu,gI,h3,hx]
 rw [if_pos ⟨by rw [iP,hl],nJ,by rw [UD,iP]; omega⟩,Uz]
 have:=gX (af.l l) (af.l l') [] rest (by rw [iP,iP]; omega)
 simp only [U7,UW] at this
 rw [this]
end
end Go.R
