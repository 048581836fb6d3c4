/- Part of the proof: RG8. -/
import Derived.Test.YtifafejidnjckaaK4
set_option linter.unusedVariables false
set_option linter.unusedSimpArgs false
set_option maxRecDepth 100000
open Bool renaming and_eq_true → Ui, true_and → VN
open List renaming length_append → Uo, length_map → UB, length_nil → UG, map_cons → UH, take_append_of_le_length → UO, nil_append → UR, take_of_length_le → UT, drop_zero → UX, all_cons → U2
open Nat renaming le_refl → Uj, lt_succ_self → U0, le_succ → Vn
open Option renaming bind_some → Ue, map_some → Uk
namespace Go.R
open Go
def mx (x y:Int):Int:=if y > x then y else x
def wJ (l:List (Int × Int))(k:Int):Int × Bool:=
 match l with
 | []=>(0,false)
 | (a,b)::l=>if k=a then (b,true) else wJ l k
def BJ (l:List (Int × Int))(k v:Int):List (Int × Int):=
 match l with
 | []=>[(k,v)]
 | (a,b)::l=>if k=a then (k,v)::l else (a,b)::BJ l k v
def rT (n:Nat)(l:List (List Int × Int))(k:List Int):Bool:=k.length==n&&l.all fun p=>p.1.length==n
def rU (l:List (List Int × Int))(k:List Int):Int × Bool:=
 match l with
 | []=>(0,false)
 | (a,b)::l=>if k=a then (b,true) else rU l k
def FW (n:Nat)(l:List (List Int × Int))(k:List Int):Option (Int × Bool):=if rT n l k=true then some (rU l k) else none
def yv (l:List (List Int × Int))(k:List Int)(v:Int):List (List Int × Int):=
 match l with
 | []=>[(k,v)]
 | (a,b)::l=>if k=a then (k,v)::l else (a,b)::yv l k v
def Ko (n:Nat)(l:List (List Int × Int))(k:List Int)(v:Int):Option (List (List Int × Int)):=if rT n l k=true then some (yv l k v) else none
def oo (l:List (Int × Int)):List (AV × AV):=l.map fun p=>(.int .i64 p.1,.int .i64 p.2)
def sS (l:List (List Int × Int)):List (AV × AV):=l.map fun p=>(.agg (af.l p.1),.int .i64 p.2)
theorem zF (k:Int):∀l:List (Int × Int),ij (.int .i64 k) (oo l)=some (if (wJ l k).2=true then some (.int .i64 (wJ l k).1) else none)
 | []=>rfl
 | (a,b)::l=>by
  simp only [oo,UH,ij,sameShape,fc,iF,wJ]
  have ih:=zF k l
  simp only [oo] at ih
  by_cases h:k=a
  ·subst h; simp
  ·simp [h,ih]
theorem Dv (k v:Int):∀l:List (Int × Int),uc (.int .i64 k) (.int .i64 v) (oo l)=some (oo (BJ l k v))
 | []=>rfl
 | (a,b)::l=>by
  have ih:=Dv k v l
  simp only [oo,UH,uc,sameShape,fc,iF,BJ] at ih ⊢
  by_cases h:k=a
  ·subst h; simp
  ·simp [h,ih]
theorem yw (l:List Int):(af.l l).all jK=true:=by
 induction l with
 | nil=>rfl
 | cons a l ih=>rw [bJ.eA,List.all_append,ih]; rfl
theorem iJ (l:List Int):(af.l l).length=l.length:=by rw [bJ.bL]; exact Nat.mul_one _
theorem kU:∀a b:List Int,kK (af.l a) (af.l b)=decide (a=b)
 | [],[]=>rfl
 | [],b::l=>by simp [bJ.eA,bJ.G9,eI,kK]
 | a::l,[]=>by simp [bJ.eA,bJ.G9,eI,kK]
 | a::l,b::l'=>by
  have ih:=kU l l'
  rw [bJ.eA,bJ.eA]
  show (iF (.int .i64 a) (.int .i64 b)&&kK (af.l l) (af.l l'))=_
  rw [ih]
  simp only [iF]
  by_cases h1:a=b<;>by_cases h2:l=l'<;>simp [h1,h2]
theorem zG (n:Nat)(k:List Int)(hk:k.length=n):∀l:List (List Int × Int),(l.all fun p=>p.1.length==n)=true→ij (.agg (af.l k)) (sS l)=some (if (rU l k).2=true then some (.int .i64 (rU l k).1) else none)
 | [],_=>rfl
 | (a,b)::l,h=>by
  simp only [U2,Ui,beq_iff_eq] at h
  have ih:=zG n k hk l h.2
  simp only [sS,UH,ij,sameShape,fc,rU,yw,iJ,hk,h.1,kU,beq_self_eq_true,VN,if_true] at ih ⊢
  by_cases Kp:k=a
  ·subst Kp; simp
  ·simp [Kp,ih]
theorem Dw (n:Nat)(k:List Int)(v:Int)(hk:k.length=n):∀l:List (List Int × Int),(l.all fun p=>p.1.length==n)=true→uc (.agg (af.l k)) (.int .i64 v) (sS l)=some (sS (yv l k v))
 | [],_=>rfl
 | (a,b)::l,h=>by
  simp only [U2,Ui,beq_iff_eq] at h
  have ih:=Dw n k v hk l h.2
  simp only [sS,UH,uc,sameShape,fc,yv,yw,iJ,hk,h.1,kU,beq_self_eq_true,VN,if_true] at ih ⊢
  by_cases Kp:k=a
  ·subst Kp; simp
  ·simp [Kp,ih]
def wK (P:Program)(t:TypeId):Bool:=
 match P.underlying t with
 | some (.map kt et)=>(P.underlying kt matches some (.int .i64))&&(match ie P et with | some (.int .i64 n)=>n==0 | _=>false)
 | _=>false
def wL (P:Program)(t:TypeId)(n:Nat):Bool:=
 match P.underlying t with
 | some (.map kt et)=>(match P.underlying kt with | some (.array m e)=>m==n&&(P.underlying e matches some (.int .i64))&&eP P e==some 1 | _=>false)&&(match ie P et with | some (.int .i64 n)=>n==0 | _=>false)
 | _=>false
section
variable {P:Program}{h:AHeap}{K:Mem}{i q:Nat}{t:TypeId}{n:Nat}
theorem rV (T:wK P t=true):∃kt et,P.underlying t=some (.map kt et)∧(∀k,fS P kt (.int .i64 k)=true)∧ie P et=some (.int .i64 0):=by
 unfold wK at T
 split at T
 ·rename_i kt et ht
  simp only [Ui] at T
  obtain⟨h1,h2⟩:=T
  refine⟨kt,et,ht,fun k=>?_,?_⟩
  ·revert h1
   split
   ·rename_i hk; intro _; simp [fS,hk]
   ·intro h; cases h
  ·split at h2
   ·rename_i z hz; simp only [beq_iff_eq] at h2; subst h2; exact hz
   ·cases h2
 ·cases T
theorem rW (T:wL P t n=true):∃kt et,P.underlying t=some (.map kt et)∧(∀k:List Int,k.length=n→fS P kt (.agg (af.l k))=true)∧ie P et=some (.int .i64 0):=by
 unfold wL at T
 split at T
 ·rename_i kt et ht
  simp only [Ui] at T
  obtain⟨h1,h2⟩:=T
  refine⟨kt,et,ht,fun k hk=>?_,?_⟩
  ·split at h1
   ·rename_i m e rF
    simp only [Ui,beq_iff_eq] at h1
    obtain⟨⟨h3,h4⟩,h5⟩:=h1
    subst h3
    simp only [fS,rF,iJ,hk,yw,h5,beq_self_eq_true,VN,Bool.and_true]
    exact h4
   ·cases h1
  ·split at h2
   ·rename_i z hz; simp only [beq_iff_eq] at h2; subst h2; exact hz
   ·cases h2
 ·cases T
theorem Dx (o:Has h K):∃i h',(AV.mp h.next,h.alloc (.map []))=(AV.mp i,h')∧Has h' ((i,.mp [])::K):=
 ⟨h.next,_,rfl,o.new (fun k hk=>by rw [AHeap.alloc,cV,if_neg (by omega)]) (Vn _) (.inr (Uj _)) (U0 _) ⟨by have:=o.pos; omega,by rw [AHeap.alloc,cV,if_pos rfl]⟩⟩
theorem M4 {l:List (Int × Int)}{k:Int}(T:wK P t=true)(o:Has h K)(hq:K[q]? = some (i,.mp (oo l))):fI P h t (.mp i) (.int .i64 k) true=some (.tup [.int .i64 (wJ l k).1,.bool (wJ l k).2])∧fI P h t (.mp i) (.int .i64 k) false=some (.int .i64 (wJ l k).1):=by
 obtain⟨kt,et,h1,h2,h3⟩:=rV T
 obtain⟨⟨_,h4⟩,_⟩:=o.at_ _ _ _ hq
 have hz:(wJ l k).2=false→(wJ l k).1=0:=by
  clear hq h4
  induction l with
  | nil=>intro _; rfl
  | cons p l ih=>
   obtain⟨a,b⟩:=p
   simp only [wJ]
   split
   ·intro h; cases h
   ·exact ih
 simp only [fI,h1,Ue,h2,Bool.true_eq_false,if_false,h4,zF]
 cases hc:(wJ l k).2 with
 | true=>simp
 | false=>simp [h3,hz hc]
theorem H7 {l:List (List Int × Int)}{k:List Int}{r:Int × Bool}(T:wL P t n=true)(o:Has h K)(hq:K[q]? = some (i,.mp (sS l)))(hr:FW n l k=some r):fI P h t (.mp i) (.agg (af.l k)) true=some (.tup [.int .i64 r.1,.bool r.2])∧fI P h t (.mp i) (.agg (af.l k)) false=some (.int .i64 r.1):=by
 obtain⟨kt,et,h1,h2,h3⟩:=rW T
 obtain⟨⟨_,h4⟩,_⟩:=o.at_ _ _ _ hq
 unfold FW at hr
 split at hr
 rotate_left
 ·cases hr
 rename_i hg
 cases hr
 simp only [rT,Ui,beq_iff_eq] at hg
 have hz:(rU l k).2=false→(rU l k).1=0:=by
  clear hq h4 hg
  induction l with
  | nil=>intro _; rfl
  | cons p l ih=>
   obtain⟨a,b⟩:=p
   simp only [rU]
   split
   ·intro h; cases h
   ·exact ih
 simp only [fI,h1,Ue,h2 k hg.1,Bool.true_eq_false,if_false,h4,zG n k hg.1 l hg.2]
 cases hc:(rU l k).2 with
 | true=>simp
 | false=>simp [h3,hz hc]
theorem M8 {l:List (Int × Int)}{k v:Int}(T:wK P t=true)(o:Has h K)(hq:K[q]? = some (i,.mp (oo l))):∃h',ik P h t (.mp i) (.int .i64 k) (.int .i64 v)=some h'∧Has h' (K.set q (i,.mp (oo (BJ l k v)))):=by
 obtain⟨kt,et,h1,h2,h3⟩:=rV T
 obtain⟨⟨h5,h4⟩,_⟩:=o.at_ _ _ _ hq
 refine⟨h.put i (.map (oo (BJ l k v))),?_,jd o hq ⟨h5,by rw [cV,if_pos rfl]⟩⟩
 simp only [ik,h1,Ue,h2]
 rw [if_neg (by simp [AV.kg])]
 simp only [h4,Ue,Dv,Uk]
theorem M9 {l r:List (List Int × Int)}{k:List Int}{v:Int}(T:wL P t n=true)(o:Has h K)(hq:K[q]? = some (i,.mp (sS l)))(hr:Ko n l k v=some r):∃h',ik P h t (.mp i) (.agg (af.l k)) (.int .i64 v)=some h'∧Has h' (K.set q (i,.mp (sS r))):=by
 obtain⟨kt,et,h1,h2,h3⟩:=rW T
 obtain⟨⟨h5,h4⟩,_⟩:=o.at_ _ _ _ hq
 unfold Ko at hr
 split at hr
 rotate_left
 ·cases hr
 rename_i hg
 cases hr
 simp only [rT,Ui,beq_iff_eq] at hg
 refine⟨h.put i (.map (sS (yv l k v))),?_,jd o hq ⟨h5,by rw [cV,if_pos rfl]⟩⟩
 simp only [ik,h1,Ue,h2 k hg.1]
 rw [if_neg (by simp [AV.kg])]
 simp only [h4,Ue,Dw n k v hg.1 l hg.2,Uk]
theorem Kq {es:List (AV × AV)}{kt et:TypeId}(ht:P.underlying t=some (.map kt et))(o:Has h K)(hq:K[q]? = some (i,.mp es)):q7 P h t (.mp i)=some (.int .i64 es.length):=by
 obtain⟨⟨_,h4⟩,_⟩:=o.at_ _ _ _ hq
 simp only [q7,ht,Ue,h4]
theorem H8 {l:List (List Int × Int)}{kt et:TypeId}(ht:P.underlying t=some (.map kt et))(o:Has h K)(hq:K[q]? = some (i,.mp (sS l))):q7 P h t (.mp i)=some (.int .i64 l.length):=by
 rw [Kq ht o hq,sS,UB]
variable {l:List Int}{j:Int}{a:Int}{k:IntKind}{cs:List AV}
def BK (P:Program)(t:TypeId)(n:Nat):Bool:=match P.underlying t with | some (.array m e)=>m==n&&eP P e==some 1&&eP P t==some n&&(fH P t==some true) | _=>false
theorem pj (T:BK P t n=true):∃e,P.underlying t=some (.array n e)∧eP P e=some 1∧eP P t=some n∧fH P t=some true:=by
 unfold BK at T
 split at T
 ·rename_i m e h
  simp only [Ui,beq_iff_eq] at T
  obtain⟨⟨⟨h1,h2⟩,h3⟩,h4⟩:=T
  subst h1
  exact⟨e,h,h2,h3,h4⟩
 ·cases T
theorem FX (o:Has h K)(hc:cs=af.l l)(hl:l.length≤1024:=by decide):∃i h',wz h cs=some (.ptr i 0,h')∧Has h' ((i,.sl l.length 1 (af.l l))::K):=by
 subst hc
 refine⟨h.next,h.alloc (.cells (af.l l)),?_,o.new (fun k hk=>by rw [AHeap.alloc,cV,if_neg (by omega)]) (Vn _) (.inr (Uj _)) (U0 _) ⟨⟨bJ.bL,bJ.mF (by omega)⟩,.inr ⟨by have:=o.pos; omega,[],by rw [AHeap.alloc,cV,if_pos rfl]; simp⟩⟩⟩
 unfold wz
 rw [if_pos]
 have:∀l:List Int,(af.l l).all AV.bQ=true:=fun l=>by
  induction l with
  | nil=>rfl
  | cons a l ih=>rw [bJ.eA,List.all_append,ih]; rfl
 exact this l
theorem H9 (T:BK P t n=true)(o:Has h K)(hq:K[q]? = some (i,.sl n 1 (af.l l)))(hj:ix l j=some a):eG P t (.ptr i 0) (.int k j)=some (.ptr i (0+j.toNat*1)):=by
 obtain⟨e,h1,h2,_,_⟩:=pj T
 have hn:=cG (E:=af) o hq
 obtain⟨g1,g2,g3⟩:=gG hj
 simp only [eG,h1,Ue,h2]
 rw [if_pos ⟨g1,by omega⟩]
 rfl
theorem tG (o:Has h K)(hq:K[q]? = some (i,.sl n 1 (af.l l)))(hn0:n≠0):i≠0∧∃rest,h.get i=some (.cells (af.l l++rest)):=by
 obtain⟨⟨_,h1⟩,_⟩:=o.at_ _ _ _ hq
 rcases h1 with⟨_,h1⟩| h1
 ·exact absurd h1 hn0
 ·exact h1
theorem uU (T:BK P t n=true)(o:Has h K)(hq:K[q]? = some (i,.sl n 1 (af.l l)))(hn0:n≠0:=by decide):bl P h t (.ptr i 0)=some (.agg (af.l l)):=by
 obtain⟨e,h1,h2,h3,h4⟩:=pj T
 have hn:=cG (E:=af) o hq
 obtain⟨_,rest,h5⟩:=tG o hq hn0
 simp only [bl,jl,h5,Ue,iE,h4,if_true,h3]
 rw [if_pos (by rw [Uo,iJ]; omega),UX,UO (by rw [iJ]; omega),UT (by rw [iJ]; omega)]
theorem Ia {l':List Int}{x:AV}(T:BK P t n=true)(o:Has h K)(hq:K[q]? = some (i,.sl n 1 (af.l l)))(hx:x.cells=af.l l')(hl:l'.length=n)(hn0:n≠0:=by decide):∃h',iH P h t (.ptr i 0) x=some h'∧Has h' (K.set q (i,.sl n 1 (af.l l'))):=by
 obtain⟨e,h1,h2,h3,h4⟩:=pj T
 have hn:=cG (E:=af) o hq
 obtain⟨h6,rest,h5⟩:=tG o hq hn0
 have nH:(af.l l').all AV.bQ=true:=by
  clear hx hl
  induction l' with
  | nil=>rfl
  | cons a l ih=>rw [bJ.eA,List.all_append,ih]; rfl
 have qg:=(o.at_ _ _ _ hq).1.1.2
 refine⟨h.put i (.cells (af.l l'++rest)),?_,jd o hq ⟨⟨by rw [iJ,hl,Nat.mul_one],by rw [iJ,hl,hn,←iJ]; exact qg⟩,.inr ⟨h6,rest,by rw [cV,if_pos rfl]⟩⟩⟩
 simp only [iH,h5,Ue,gD,h3,hx]
 rw [if_pos ⟨by rw [iJ,hl],nH,by rw [Uo,iJ]; omega⟩,Uk]
 have:=gR (af.l l) (af.l l') [] rest (by rw [iJ,iJ]; omega)
 simp only [UR,UG] at this
 rw [this]
end
end Go.R
