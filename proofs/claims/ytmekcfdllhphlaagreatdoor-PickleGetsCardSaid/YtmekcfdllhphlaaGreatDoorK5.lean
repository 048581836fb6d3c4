/- Part of the proof: RG8. -/
import Derived.Test.YtmekcfdllhphlaaGreatDoorK4
set_option linter.unusedVariables false
set_option linter.unusedSimpArgs false
set_option maxRecDepth 100000
open Bool renaming and_eq_true → aaF, true_and → abW
open List renaming length_append → aaI, length_map → aaX, drop_zero → aa3, take_of_length_le → aa4, nil_append → aa5, map_cons → aa6, take_append_of_le_length → aa7, length_nil → abg, all_cons → abA
open Nat renaming le_refl → aaE, lt_succ_self → abm, le_succ → abQ, mul_one → acj
open Option renaming bind_some → aaA, map_some → aaG
namespace Go.R
open Go
def mn (x y:Int):Int:=if y<x then y else x
def mx (x y:Int):Int:=if y > x then y else x
def AO (l:List (Int × Int))(k:Int):Int × Bool:=
 match l with
 | []=>(0,false)
 | (a,b)::l=>if k=a then (b,true) else AO l k
def HJ (l:List (Int × Int))(k v:Int):List (Int × Int):=
 match l with
 | []=>[(k,v)]
 | (a,b)::l=>if k=a then (k,v)::l else (a,b)::HJ l k v
def vp (n:Nat)(l:List (List Int × Int))(k:List Int):Bool:=k.length==n&&l.all fun p=>p.1.length==n
def vq (l:List (List Int × Int))(k:List Int):Int × Bool:=
 match l with
 | []=>(0,false)
 | (a,b)::l=>if k=a then (b,true) else vq l k
def KG (n:Nat)(l:List (List Int × Int))(k:List Int):Option (Int × Bool):=if vp n l k=true then some (vq l k) else none
def CR (l:List (List Int × Int))(k:List Int)(v:Int):List (List Int × Int):=
 match l with
 | []=>[(k,v)]
 | (a,b)::l=>if k=a then (k,v)::l else (a,b)::CR l k v
def P6 (n:Nat)(l:List (List Int × Int))(k:List Int)(v:Int):Option (List (List Int × Int)):=if vp n l k=true then some (CR l k v) else none
def vt (l:List (Int × Int)):List (AV × AV):=l.map fun p=>(.int .i64 p.1,.int .i64 p.2)
def xc (l:List (List Int × Int)):List (AV × AV):=l.map fun p=>(.agg (aa.l p.1),.int .i64 p.2)
theorem D0 (k:Int):∀l:List (Int × Int),jo (.int .i64 k) (vt l)=some (if (AO l k).2=true then some (.int .i64 (AO l k).1) else none)
 | []=>rfl
 | (a,b)::l=>by
  simp only [vt,aa6,jo,sameShape,gL,jM,AO]
  have ih:=D0 k l
  simp only [vt] at ih
  by_cases h:k=a
  ·subst h; simp
  ·simp [h,ih]
theorem HK (k v:Int):∀l:List (Int × Int),yB (.int .i64 k) (.int .i64 v) (vt l)=some (vt (HJ l k v))
 | []=>rfl
 | (a,b)::l=>by
  have ih:=HK k v l
  simp only [vt,aa6,yB,sameShape,gL,jM,HJ] at ih ⊢
  by_cases h:k=a
  ·subst h; simp
  ·simp [h,ih]
theorem CS (l:List Int):(aa.l l).all kZ=true:=by
 induction l with
 | nil=>rfl
 | cons a l ih=>rw [da.eF,List.all_append,ih]; rfl
theorem jP (l:List Int):(aa.l l).length=l.length:=by rw [da.dc]; exact acj _
theorem pC:∀a b:List Int,ni (aa.l a) (aa.l b)=decide (a=b)
 | [],[]=>rfl
 | [],b::l=>by simp [da.eF,da.LZ,eI,ni]
 | a::l,[]=>by simp [da.eF,da.LZ,eI,ni]
 | a::l,b::l'=>by
  have ih:=pC l l'
  rw [da.eF,da.eF]
  show (jM (.int .i64 a) (.int .i64 b)&&ni (aa.l l) (aa.l l'))=_
  rw [ih]
  simp only [jM]
  by_cases h1:a=b<;>by_cases h2:l=l'<;>simp [h1,h2]
theorem D1 (n:Nat)(k:List Int)(hk:k.length=n):∀l:List (List Int × Int),(l.all fun p=>p.1.length==n)=true→jo (.agg (aa.l k)) (xc l)=some (if (vq l k).2=true then some (.int .i64 (vq l k).1) else none)
 | [],_=>rfl
 | (a,b)::l,h=>by
  simp only [abA,aaF,beq_iff_eq] at h
  have ih:=D1 n k hk l h.2
  simp only [xc,aa6,jo,sameShape,gL,vq,CS,jP,hk,h.1,pC,beq_self_eq_true,abW,if_true] at ih ⊢
  by_cases KH:k=a
  ·subst KH; simp
  ·simp [KH,ih]
theorem HL (n:Nat)(k:List Int)(v:Int)(hk:k.length=n):∀l:List (List Int × Int),(l.all fun p=>p.1.length==n)=true→yB (.agg (aa.l k)) (.int .i64 v) (xc l)=some (xc (CR l k v))
 | [],_=>rfl
 | (a,b)::l,h=>by
  simp only [abA,aaF,beq_iff_eq] at h
  have ih:=HL n k v hk l h.2
  simp only [xc,aa6,yB,sameShape,gL,CR,CS,jP,hk,h.1,pC,beq_self_eq_true,abW,if_true] at ih ⊢
  by_cases KH:k=a
  ·subst KH; simp
  ·simp [KH,ih]
def AP (P:Program)(t:TypeId):Bool:=
 match P.underlying t with
 | some (.map kt et)=>(P.underlying kt matches some (.int .i64))&&(match kB P et with | some (.int .i64 n)=>n==0 | _=>false)
 | _=>false
def AQ (P:Program)(t:TypeId)(n:Nat):Bool:=
 match P.underlying t with
 | some (.map kt et)=>(match P.underlying kt with | some (.array m e)=>m==n&&(P.underlying e matches some (.int .i64))&&fe P e==some 1 | _=>false)&&(match kB P et with | some (.int .i64 n)=>n==0 | _=>false)
 | _=>false
section
variable {P:Program}{h:AHeap}{K:Mem}{i q:Nat}{t:TypeId}{n:Nat}
theorem vu (T:AP P t=true):∃kt et,P.underlying t=some (.map kt et)∧(∀k,gM P kt (.int .i64 k)=true)∧kB P et=some (.int .i64 0):=by
 unfold AP at T
 split at T
 ·rename_i kt et ht
  simp only [aaF] at T
  obtain⟨h1,h2⟩:=T
  refine⟨kt,et,ht,fun k=>?_,?_⟩
  ·revert h1
   split
   ·rename_i hk; intro _; simp [gM,hk]
   ·intro h; cases h
  ·split at h2
   ·rename_i z hz; simp only [beq_iff_eq] at h2; subst h2; exact hz
   ·cases h2
 ·cases T
theorem vw (T:AQ P t n=true):∃kt et,P.underlying t=some (.map kt et)∧(∀k:List Int,k.length=n→gM P kt (.agg (aa.l k))=true)∧kB P et=some (.int .i64 0):=by
 unfold AQ at T
 split at T
 ·rename_i kt et ht
  simp only [aaF] at T
  obtain⟨h1,h2⟩:=T
  refine⟨kt,et,ht,fun k hk=>?_,?_⟩
  ·split at h1
   ·rename_i m e rS
    simp only [aaF,beq_iff_eq] at h1
    obtain⟨⟨h3,h4⟩,h5⟩:=h1
    subst h3
    simp only [gM,rS,jP,hk,CS,h5,beq_self_eq_true,abW,Bool.and_true]
    exact h4
   ·cases h1
  ·split at h2
   ·rename_i z hz; simp only [beq_iff_eq] at h2; subst h2; exact hz
   ·cases h2
 ·cases T
theorem HM (o:Has h K):∃i h',(AV.mp h.next,h.alloc (.map []))=(AV.mp i,h')∧Has h' ((i,.mp [])::K):=
 ⟨h.next,_,rfl,o.new (fun k hk=>by rw [AHeap.alloc,cU,if_neg (by omega)]) (abQ _) (.inr (aaE _)) (abm _) ⟨by have:=o.pos; omega,by rw [AHeap.alloc,cU,if_pos rfl]⟩⟩
theorem Tv {l:List (Int × Int)}{k:Int}(T:AP P t=true)(o:Has h K)(hq:K[q]? = some (i,.mp (vt l))):gz P h t (.mp i) (.int .i64 k) true=some (.tup [.int .i64 (AO l k).1,.bool (AO l k).2])∧gz P h t (.mp i) (.int .i64 k) false=some (.int .i64 (AO l k).1):=by
 obtain⟨kt,et,h1,h2,h3⟩:=vu T
 obtain⟨⟨_,h4⟩,_⟩:=o.at_ _ _ _ hq
 have hz:(AO l k).2=false→(AO l k).1=0:=by
  clear hq h4
  induction l with
  | nil=>intro _; rfl
  | cons p l ih=>
   obtain⟨a,b⟩:=p
   simp only [AO]
   split
   ·intro h; cases h
   ·exact ih
 simp only [gz,h1,aaA,h2,Bool.true_eq_false,if_false,h4,D0]
 cases hc:(AO l k).2 with
 | true=>simp
 | false=>simp [h3,hz hc]
theorem Np {l:List (List Int × Int)}{k:List Int}{r:Int × Bool}(T:AQ P t n=true)(o:Has h K)(hq:K[q]? = some (i,.mp (xc l)))(hr:KG n l k=some r):gz P h t (.mp i) (.agg (aa.l k)) true=some (.tup [.int .i64 r.1,.bool r.2])∧gz P h t (.mp i) (.agg (aa.l k)) false=some (.int .i64 r.1):=by
 obtain⟨kt,et,h1,h2,h3⟩:=vw T
 obtain⟨⟨_,h4⟩,_⟩:=o.at_ _ _ _ hq
 unfold KG at hr
 split at hr
 rotate_left
 ·cases hr
 rename_i hg
 cases hr
 simp only [vp,aaF,beq_iff_eq] at hg
 have hz:(vq l k).2=false→(vq l k).1=0:=by
  clear hq h4 hg
  induction l with
  | nil=>intro _; rfl
  | cons p l ih=>
   obtain⟨a,b⟩:=p
   simp only [vq]
   split
   ·intro h; cases h
   ·exact ih
 simp only [gz,h1,aaA,h2 k hg.1,Bool.true_eq_false,if_false,h4,D1 n k hg.1 l hg.2]
 cases hc:(vq l k).2 with
 | true=>simp
 | false=>simp [h3,hz hc]
theorem Tw {l:List (Int × Int)}{k v:Int}(T:AP P t=true)(o:Has h K)(hq:K[q]? = some (i,.mp (vt l))):∃h',jq P h t (.mp i) (.int .i64 k) (.int .i64 v)=some h'∧Has h' (K.set q (i,.mp (vt (HJ l k v)))):=by
 obtain⟨kt,et,h1,h2,h3⟩:=vu T
 obtain⟨⟨h5,h4⟩,_⟩:=o.at_ _ _ _ hq
 refine⟨h.put i (.map (vt (HJ l k v))),?_,jv o hq ⟨h5,by rw [cU,if_pos rfl]⟩⟩
 simp only [jq,h1,aaA,h2]
 rw [if_neg (by simp [AV.mO])]
 simp only [h4,aaA,HK,aaG]
theorem Tx {l r:List (List Int × Int)}{k:List Int}{v:Int}(T:AQ P t n=true)(o:Has h K)(hq:K[q]? = some (i,.mp (xc l)))(hr:P6 n l k v=some r):∃h',jq P h t (.mp i) (.agg (aa.l k)) (.int .i64 v)=some h'∧Has h' (K.set q (i,.mp (xc r))):=by
 obtain⟨kt,et,h1,h2,h3⟩:=vw T
 obtain⟨⟨h5,h4⟩,_⟩:=o.at_ _ _ _ hq
 unfold P6 at hr
 split at hr
 rotate_left
 ·cases hr
 rename_i hg
 cases hr
 simp only [vp,aaF,beq_iff_eq] at hg
 refine⟨h.put i (.map (xc (CR l k v))),?_,jv o hq ⟨h5,by rw [cU,if_pos rfl]⟩⟩
 simp only [jq,h1,aaA,h2 k hg.1]
 rw [if_neg (by simp [AV.mO])]
 simp only [h4,aaA,HL n k v hg.1 l hg.2,aaG]
theorem P7 {es:List (AV × AV)}{kt et:TypeId}(ht:P.underlying t=some (.map kt et))(o:Has h K)(hq:K[q]? = some (i,.mp es)):uK P h t (.mp i)=some (.int .i64 es.length):=by
 obtain⟨⟨_,h4⟩,_⟩:=o.at_ _ _ _ hq
 simp only [uK,ht,aaA,h4]
theorem Nq {l:List (List Int × Int)}{kt et:TypeId}(ht:P.underlying t=some (.map kt et))(o:Has h K)(hq:K[q]? = some (i,.mp (xc l))):uK P h t (.mp i)=some (.int .i64 l.length):=by
 rw [P7 ht o hq,xc,aaX]
variable {l:List Int}{j:Int}{a:Int}{k:IntKind}{cs:List AV}
def FW (P:Program)(t:TypeId)(n:Nat):Bool:=match P.underlying t with | some (.array m e)=>m==n&&fe P e==some 1&&fe P t==some n&&(fG P t==some true) | _=>false
theorem r8 (T:FW P t n=true):∃e,P.underlying t=some (.array n e)∧fe P e=some 1∧fe P t=some n∧fG P t=some true:=by
 unfold FW at T
 split at T
 ·rename_i m e h
  simp only [aaF,beq_iff_eq] at T
  obtain⟨⟨⟨h1,h2⟩,h3⟩,h4⟩:=T
  subst h1
  exact⟨e,h,h2,h3,h4⟩
 ·cases T
theorem KI (o:Has h K)(hc:cs=aa.l l)(hl:l.length≤1024:=by decide):∃i h',AJ h cs=some (.ptr i 0,h')∧Has h' ((i,.sl l.length 1 (aa.l l))::K):=by
 subst hc
 refine⟨h.next,h.alloc (.cells (aa.l l)),?_,o.new (fun k hk=>by rw [AHeap.alloc,cU,if_neg (by omega)]) (abQ _) (.inr (aaE _)) (abm _) ⟨⟨da.dc,da.ov (by omega)⟩,.inr ⟨by have:=o.pos; omega,[],by rw [AHeap.alloc,cU,if_pos rfl]; simp⟩⟩⟩
 unfold AJ
 rw [if_pos]
 have:∀l:List Int,(aa.l l).all AV.dp=true:=fun l=>by
  induction l with
  | nil=>rfl
  | cons a l ih=>rw [da.eF,List.all_append,ih]; rfl
 exact this l
theorem Nr (T:FW P t n=true)(o:Has h K)(hq:K[q]? = some (i,.sl n 1 (aa.l l)))(hj:ix l j=some a):ff P t (.ptr i 0) (.int k j)=some (.ptr i (0+j.toNat*1)):=by
 obtain⟨e,h1,h2,_,_⟩:=r8 T
 have hn:=dP (E:=aa) o hq
 obtain⟨g1,g2,g3⟩:=hH hj
 simp only [ff,h1,aaA,h2]
 rw [if_pos ⟨g1,by omega⟩]
 rfl
theorem xU (o:Has h K)(hq:K[q]? = some (i,.sl n 1 (aa.l l)))(hn0:n≠0):i≠0∧∃rest,h.get i=some (.cells (aa.l l++rest)):=by
 obtain⟨⟨_,h1⟩,_⟩:=o.at_ _ _ _ hq
 rcases h1 with⟨_,h1⟩| h1
 ·exact absurd h1 hn0
 ·exact h1
theorem zg (T:FW P t n=true)(o:Has h K)(hq:K[q]? = some (i,.sl n 1 (aa.l l)))(hn0:n≠0:=by decide):bp P h t (.ptr i 0)=some (.agg (aa.l l)):=by
 obtain⟨e,h1,h2,h3,h4⟩:=r8 T
 have hn:=dP (E:=aa) o hq
 obtain⟨_,rest,h5⟩:=xU o hq hn0
 simp only [bp,jV,h5,aaA,jL,h4,if_true,h3]
 rw [if_pos (by rw [aaI,jP]; omega),aa3,aa7 (by rw [jP]; omega),aa4 (by rw [jP]; omega)]
theorem Ns {l':List Int}{x:AV}(T:FW P t n=true)(o:Has h K)(hq:K[q]? = some (i,.sl n 1 (aa.l l)))(hx:x.cells=aa.l l')(hl:l'.length=n)(hn0:n≠0:=by decide):∃h',jO P h t (.ptr i 0) x=some h'∧Has h' (K.set q (i,.sl n 1 (aa.l l'))):=by
 obtain⟨e,h1,h2,h3,h4⟩:=r8 T
 have hn:=dP (E:=aa) o hq
 obtain⟨h6,rest,h5⟩:=xU o hq hn0
 have pV:(aa.l l').all AV.dp=true:=by
  clear hx hl
  induction l' with
  | nil=>rfl
  | cons a l ih=>rw [da.eF,List.all_append,ih]; rfl
 have Ce:=(o.at_ _ _ _ hq).1.1.2
 refine⟨h.put i (.cells (aa.l l'++rest)),?_,jv o hq ⟨⟨by rw [jP,hl,acj],by rw [jP,hl,hn,←jP]; exact Ce⟩,.inr ⟨h6,rest,by rw [cU,if_pos rfl]⟩⟩⟩
 simp only [jO,h5,aaA,iD,h3,hx]
 rw [if_pos ⟨by rw [jP,hl],pV,by rw [aaI,jP]; omega⟩,aaG]
 have:=lD (aa.l l) (aa.l l') [] rest (by rw [jP,jP]; omega)
 simp only [aa5,abg] at this
 rw [this]
end
end Go.R
