/- Part of the proof: PS3, PS4, PS5, PT7, PT8, PT9, PT10, PB1, PR2, PR3, PR4, PR5, PR6, PR9, PT12, PB2, PB4. -/
import Derived.Test.YtifafejidnjckaaK11
set_option linter.unusedVariables false
set_option linter.unusedSimpArgs false
set_option maxRecDepth 100000
open Bool renaming and_eq_true → Vx, false_eq_true → VE, or_eq_true → Wf, not_true → Wy
open ByteArray renaming mk → Wo
open Int renaming toNat_natCast → VF
open List renaming getElem?_eq_getElem → Vz, getElem?_eq_some_iff → VB, length_append → VD, length_cons → VH, drop_eq_getElem_cons → VI, getElem?_append_left → VJ, append_assoc → VK, length_map → VL, replicate → VM, mem_of_getElem? → VN, all_eq_true → VO, getElem?_append_right → VP, getD_eq_getElem?_getD → VQ, length_nil → VS, mem_cons → VT, mem_singleton → VV, map_cons → VX, mem_append → VY, map_append → V0, getElem?_eq_none → V7, mem_map → V8, cons_append → Wb, drop_zero → Wd, all_cons → Wi, mem_append_left → Wn, getElem?_map → Wz, range → WD, map_congr_left → WH, mem_range → WJ, map_nil → WU, idxOf_lt_length_of_mem → WW, length_replicate → WZ, ext_getElem? → W2, take_length → W6
open Nat renaming le_refl → Vy, zero_add → VU, mul_le_mul_right → We, add_zero → W5, sub_self → W7, succ_mul → W9
open Option renaming bind_some → Vu, map_some → VA
open Option.some renaming injEq → Vw, inj → Wg
open Prod.mk renaming injEq → VC
open UInt8 renaming lt_iff_toNat_lt → WL
namespace Go.Proofs.Ytifafejidnjckaa
open Go Go.R
open Go.IntKind (i64 u64 u8 u32)
theorem Fq {α β:Type}{B:α→Option β}{c1 c2:Bool}{X:Option α}{d0:α}{G:β→Prop}(D:α→Prop)(h1:c1=true→c2=true→∃x,X=some x∧D x)(h0:¬(c1=true∧c2=true)→D d0)
  (h:∀x,D x→∃d,B x=some d∧G d):∃d,jn B (fun j=>if c1=true then (if c2=true then (X.bind fun x0=>j x0) else j d0) else j d0)=some d∧G d:=by
 unfold jn
 dsimp only
 by_cases a1:c1=true
 ·by_cases a2:c2=true
  ·obtain⟨x,e,hx⟩:=h1 a1 a2
   rw [if_pos a1,if_pos a2,e]; exact h x hx
  ·rw [if_pos a1,if_neg a2]; exact h _ (h0 fun z=>a2 z.2)
 ·rw [if_neg a1]; exact h _ (h0 fun z=>a1 z.1)
theorem P4 {α:Type}{c1 c2:Bool}{X:Option α}{d0:α}{G:α→Prop}(h1:c1=true→c2=true→∃x,X=some x∧G x)(h0:¬(c1=true∧c2=true)→G d0) :
  ∃d,(if c1=true then (if c2=true then (X.bind fun x0=>some x0) else some d0) else some d0)=some d∧G d:=by
 by_cases a1:c1=true
 ·by_cases a2:c2=true
  ·obtain⟨x,e,hx⟩:=h1 a1 a2
   rw [if_pos a1,if_pos a2,e]; exact⟨x,rfl,hx⟩
  ·rw [if_pos a1,if_neg a2]; exact⟨_,rfl,h0 fun z=>a2 z.2⟩
 ·rw [if_neg a1]; exact⟨_,rfl,h0 fun z=>a1 z.1⟩
theorem J3 {α β:Type}{B:α→Option β}{c:Bool}{x y:α}{G:β→Prop}(h:∀z,(c=true∧z=x)∨(c=false∧z=y)→∃d,B z=some d∧G d):∃d,jn B (fun j=>if c=true then j x else j y)=some d∧G d:=by
 unfold jn
 dsimp only
 cases c with
 | true=>exact h _ (.inl ⟨rfl,rfl⟩)
 | false=>exact h _ (.inr ⟨rfl,rfl⟩)
theorem Ord.refl {c:Int→Int→Int}{l:List Int}(O:Ord c l){x:Int}(hx:x∈l):0≤c x x:=by
 by_cases h:c x x<0
 ·exact O.KB x hx x hx h
 ·omega
theorem Sg.le {c:Int→Int→Int}{l:List Int}{a b:Nat}(S:Sg c l a b)(O:Ord c l){i j:Nat}(h1:a≤i)(h2:i≤j)(h3:j<b)(h4:b≤l.length):0≤c (gt l j) (gt l i):=by
 by_cases h:i=j
 ·subst h; exact O.refl (bQ (by omega))
 ·exact S i j h1 (by omega) h3
section
variable {m:Nat}{cmp:Int→Int→Option Int}{c:Int→Int→Int}
theorem zB {l:List Int}{a:Nat}(ha:a<l.length)(hs:l.length<2 ^ 40)(C:Cm cmp c l):∀(f i j:Nat),j - i<f→i≤j→j≤l.length→
  ∃x:Nat,aG.l0 m l (a:Int) cmp f (i:Int) (j:Int)=some ((x:Int),(x:Int))∧i≤x∧x≤j∧(i<x→c (gt l (x - 1)) (gt l a)<0)∧(x<j→0≤c (gt l x) (gt l a))
 | 0,i,j,hf,_,_=>absurd hf (by omega)
 | f+1,i,j,hf,h1,h2=>by
  have tz:(2:Nat) ^ 40=1099511627776:=by decide
  unfold aG.l0
  by_cases h:i<j
  ·have hh:=xW (a:=i) (b:=j) (by omega)
   rw [if_pos (by simp; omega),hh,fJ (by omega),fJ ha,Vu,Vu,C.at (by omega) ha,Vu]
   by_cases g:c (gt l ((i+j) / 2)) (gt l a)<0
   ·obtain⟨x,e,x1,x2,x3,x4⟩:=zB ha hs C f ((i+j) / 2+1) j (by omega) (by omega) h2
    rw [if_pos (by simpa using g),bI (by omega) (by omega),show (((i+j) / 2:Nat):Int)+1=(((i+j) / 2+1:Nat):Int) by omega,e]
    refine⟨x,rfl,by omega,x2,fun _=>?_,x4⟩
    by_cases hx:x=(i+j) / 2+1
    ·rw [hx]; simpa using g
    ·exact x3 (by omega)
   ·obtain⟨x,e,x1,x2,x3,x4⟩:=zB ha hs C f i ((i+j) / 2) (by omega) (by omega) (by omega)
    rw [if_neg (by simpa using g),e]
    refine⟨x,rfl,x1,by omega,x3,fun _=>?_⟩
    by_cases hx:x=(i+j) / 2
    ·rw [hx]; omega
    ·exact x4 (by omega)
  ·have:i=j:=by omega
   subst this
   exact⟨i,by rw [if_neg (by simp)],Vy _,Vy _,fun h=>absurd h (by omega),fun h=>absurd h (by omega)⟩
theorem zC {l:List Int}{q:Nat}(hq:q<l.length)(hs:l.length<2 ^ 40)(C:Cm cmp c l):∀(f i j:Nat),j - i<f→i≤j→j≤l.length→
  ∃x:Nat,aG.l2 m l (q:Int) cmp f (i:Int) (j:Int)=some ((x:Int),(x:Int))∧i≤x∧x≤j∧(i<x→0≤c (gt l q) (gt l (x - 1)))∧(x<j→c (gt l q) (gt l x)<0)
 | 0,i,j,hf,_,_=>absurd hf (by omega)
 | f+1,i,j,hf,h1,h2=>by
  have tz:(2:Nat) ^ 40=1099511627776:=by decide
  unfold aG.l2
  by_cases h:i<j
  ·have hh:=xW (a:=i) (b:=j) (by omega)
   rw [if_pos (by simp; omega),hh,fJ hq,fJ (by omega),Vu,Vu,C.at hq (by omega),Vu]
   by_cases g:c (gt l q) (gt l ((i+j) / 2))<0
   ·obtain⟨x,e,x1,x2,x3,x4⟩:=zC hq hs C f i ((i+j) / 2) (by omega) (by omega) (by omega)
    rw [if_neg (by simpa using g),e]
    refine⟨x,rfl,x1,by omega,x3,fun _=>?_⟩
    by_cases hx:x=(i+j) / 2
    ·rw [hx]; omega
    ·exact x4 (by omega)
   ·obtain⟨x,e,x1,x2,x3,x4⟩:=zC hq hs C f ((i+j) / 2+1) j (by omega) (by omega) h2
    rw [if_pos (by simpa using g),bI (by omega) (by omega),show (((i+j) / 2:Nat):Int)+1=(((i+j) / 2+1:Nat):Int) by omega,e]
    refine⟨x,rfl,by omega,x2,fun _=>?_,x4⟩
    by_cases hx:x=(i+j) / 2+1
    ·rw [hx]; simp; omega
    ·exact x3 (by omega)
  ·have:i=j:=by omega
   subst this
   exact⟨i,by rw [if_neg (by simp)],Vy _,Vy _,fun h=>absurd h (by omega),fun h=>absurd h (by omega)⟩
theorem Fs {l:List Int}{a x:Nat}(hx:x≤l.length)(P5:a<x)(hs:l.length<2 ^ 40):∀(f k:Nat) (d:List Int),x - k<f→a≤k→k<x→Mv a x l d→
  (∀t,gt d t=if a≤t∧t<k then gt l (t+1) else if t=k then gt l a else gt l t)→
  ∃d' y,aG.l1 m (x:Int) f d (k:Int)=some (d',y)∧Mv a x l d'∧∀t,gt d' t=if a≤t∧t+1<x then gt l (t+1) else if t+1=x then gt l a else gt l t
 | 0,k,d,hf,_,_,_,_=>absurd hf (by omega)
 | f+1,k,d,hf,h1,h2,M,hg=>by
  have tz:(2:Nat) ^ 40=1099511627776:=by decide
  have hl:=M.length
  unfold aG.l1
  have e0:i64.wrap ((x:Int) - 1)=((x - 1:Nat):Int):=by rw [bI (by omega) (by omega)]; omega
  rw [e0]
  by_cases h:k<x - 1
  ·have e1:i64.wrap ((k:Int)+1)=((k+1:Nat):Int):=by rw [bI (by omega) (by omega)]; omega
   rw [if_pos (by simp; omega),e1,fJ (by omega),fJ (by omega),Vu,Vu,Vu,VF,VF,fJ (by simp; omega),Vu]
   refine Fs hx P5 hs f (k+1) (swp d k (k+1)) (by omega) (by omega) (by omega) (M.trans (zA (by omega) (by omega) (by omega) (by omega) (by omega))) fun t=>?_
   rw [lL (by omega) (by omega),hg k,hg (k+1),hg t]
   by_cases t1:t=k+1
   ·subst t1; rw [if_pos rfl,if_neg (by omega),if_pos rfl,if_neg (by omega),if_pos rfl]
   ·rw [if_neg t1]
    by_cases t2:t=k
    ·subst t2; rw [if_pos rfl,if_neg (by omega),if_neg (by omega),if_pos (by omega)]
    ·rw [if_neg t2,if_neg t2,if_neg t1]
     by_cases t3:a≤t∧t<k
     ·rw [if_pos t3,if_pos (by omega)]
     ·rw [if_neg t3,if_neg (by omega)]
  ·refine⟨d,k,by rw [if_neg (by simp; omega)],M,fun t=>?_⟩
   rw [hg]
   by_cases t3:a≤t∧t<k
   ·rw [if_pos t3,if_pos (by omega)]
   ·rw [if_neg t3,if_neg (show ¬(a≤t∧t+1<x) by omega)]
    by_cases t4:t=k
    ·rw [if_pos t4,if_pos (by omega)]
    ·rw [if_neg t4,if_neg (by omega)]
theorem Ft {l:List Int}{q x:Nat}(hx:q<l.length)(P5:x≤q)(hs:l.length<2 ^ 40):∀(f k:Nat) (d:List Int),k - x<f→x≤k→k≤q→Mv x (q+1) l d→
  (∀t,gt d t=if k<t∧t≤q then gt l (t - 1) else if t=k then gt l q else gt l t)→
  ∃d' y,aG.l3 m (x:Int) f d (k:Int)=some (d',y)∧Mv x (q+1) l d'∧∀t,gt d' t=if x<t∧t≤q then gt l (t - 1) else if t=x then gt l q else gt l t
 | 0,k,d,hf,_,_,_,_=>absurd hf (by omega)
 | f+1,k,d,hf,h1,h2,M,hg=>by
  have tz:(2:Nat) ^ 40=1099511627776:=by decide
  have hl:=M.length
  unfold aG.l3
  by_cases h:x<k
  ·have e1:i64.wrap ((k:Int) - 1)=((k - 1:Nat):Int):=by rw [bI (by omega) (by omega)]; omega
   rw [if_pos (by simp; omega),e1,fJ (by omega),fJ (by omega),Vu,Vu,Vu,VF,VF,fJ (by simp; omega),Vu]
   refine Ft hx P5 hs f (k - 1) (swp d k (k - 1)) (by omega) (by omega) (by omega) (M.trans (zA (by omega) (by omega) (by omega) (by omega) (by omega))) fun t=>?_
   rw [lL (by omega) (by omega),hg k,hg (k - 1),hg t]
   by_cases t1:t=k - 1
   ·subst t1; rw [if_pos rfl,if_neg (by omega),if_pos rfl,if_neg (by omega),if_pos rfl]
   ·rw [if_neg t1]
    by_cases t2:t=k
    ·subst t2; rw [if_pos rfl,if_neg (by omega),if_neg (by omega),if_pos (by omega)]
    ·rw [if_neg t2,if_neg t2,if_neg t1]
     by_cases t3:k<t∧t≤q
     ·rw [if_pos t3,if_pos (by omega)]
     ·rw [if_neg t3,if_neg (by omega)]
  ·have:k=x:=by omega
   subst this
   exact⟨d,k,by rw [if_neg (by simp)],M,hg⟩
theorem zD {l:List Int}{a b q:Nat}(Lk:a+b<2 ^ 42)(hs:l.length<2 ^ 40)(C:Cm cmp c l):∀(f s r:Nat),r - s<f→s≤r→r≤l.length→r≤(a+b) / 2+q→(a+b) / 2+q≤l.length+s→
  ∃x:Nat,aG.l4 m l (a:Int) (q:Int) (b:Int) cmp f (s:Int) (r:Int)=some ((x:Int),(x:Int))∧s≤x∧x≤r∧(s<x→0≤c (gt l ((a+b) / 2+q - x)) (gt l (x - 1)))∧(x<r→c (gt l ((a+b) / 2+q - x - 1)) (gt l x)<0)
 | 0,i,j,hf,_,_,_,_=>absurd hf (by omega)
 | f+1,s,r,hf,h1,h2,h3,h4=>by
  have tz:(2:Nat) ^ 40=1099511627776:=by decide
  have P6:(2:Nat) ^ 42=4398046511104:=by decide
  unfold aG.l4
  by_cases h:s<r
  ·have hh:=xW (a:=s) (b:=r) (by omega)
   have Lk:=xW (a:=a) (b:=b) (by omega)
   have e1:i64.wrap (i64.wrap (i64.wrap ((((a+b) / 2:Nat):Int)+(q:Int)) - 1) - (((s+r) / 2:Nat):Int))=(((a+b) / 2+q - (s+r) / 2 - 1:Nat):Int):=by
    rw [bI (x:=(((a+b) / 2:Nat):Int)+(q:Int)) (by omega) (by omega),bI (x:=(((a+b) / 2:Nat):Int)+(q:Int) - 1) (by omega) (by omega),bI (by omega) (by omega)]
    omega
   rw [if_pos (by simp; omega),hh,Lk,e1,fJ (by omega),fJ (by omega),Vu,Vu,C.at (by omega) (by omega),Vu]
   by_cases g:c (gt l ((a+b) / 2+q - (s+r) / 2 - 1)) (gt l ((s+r) / 2))<0
   ·obtain⟨x,e,x1,x2,x3,x4⟩:=zD (a:=a) (b:=b) (q:=q) (by omega) hs C f s ((s+r) / 2) (by omega) (by omega) (by omega) (by omega) (by omega)
    rw [if_neg (by simpa using g),e]
    refine⟨x,rfl,x1,by omega,x3,fun _=>?_⟩
    by_cases hx:x=(s+r) / 2
    ·rw [hx]; exact g
    ·exact x4 (by omega)
   ·obtain⟨x,e,x1,x2,x3,x4⟩:=zD (a:=a) (b:=b) (q:=q) (by omega) hs C f ((s+r) / 2+1) r (by omega) (by omega) h2 h3 (by omega)
    rw [if_pos (by simpa using g),bI (by omega) (by omega),show (((s+r) / 2:Nat):Int)+1=(((s+r) / 2+1:Nat):Int) by omega,e]
    refine⟨x,rfl,by omega,x2,fun _=>?_,x4⟩
    by_cases hx:x=(s+r) / 2+1
    ·rw [hx,show (a+b) / 2+q - ((s+r) / 2+1)=(a+b) / 2+q - (s+r) / 2 - 1 by omega,Nat.add_sub_cancel]; omega
    ·exact x3 (by omega)
  ·have:s=r:=by omega
   subst this
   exact⟨s,by rw [if_neg (by simp)],Vy _,Vy _,fun h=>absurd h (by omega),fun h=>absurd h (by omega)⟩
end
end Go.Proofs.Ytifafejidnjckaa
namespace Go.Proofs.Ytifafejidnjckaa
open Go Go.R
open Go.IntKind (i64 u64 u8 u32)
section
variable {m:Nat}{cmp:Int→Int→Option Int}{c:Int→Int→Int}
theorem s9 {l d:List Int}{a q b M E x:Nat}(h1:a≤x)(h2:x≤M)(h3:x≤q)(h4:q≤E)(h5:E≤b)(h6:E+x=M+q)(hb:b≤l.length)
  (R:KA l d x (q - x) (E - q)) (O:Ord c l) (F1:a<x→E<b→0≤c (gt l E) (gt l (x - 1))) (F2:x<q→q<E→c (gt l (E - 1)) (gt l x)<0)
  (S1:Sg c l a q) (S2:Sg c l q b) :
  Sg c d a x∧Sg c d x M∧Sg c d M E∧Sg c d E b∧(∀i j,a≤i→i<M→M≤j→j<b→0≤c (gt d j) (gt d i)):=by
 obtain⟨R1,R2,R3,R4⟩:=R
 have g1:∀k,k<x→gt d k=gt l k:=fun k hk=>R4 k (.inl hk)
 have g2:∀k,x≤k→k<M→gt d k=gt l (q+(k - x)):=fun k hk r9=>by
  have:=R2 (k - x) (by omega)
  rw [show x+(k - x)=k by omega,show x+(q - x)+(k - x)=q+(k - x) by omega] at this
  exact this
 have g3:∀k,M≤k→k<E→gt d k=gt l (x+(k - M)):=fun k hk r9=>by
  have:=R3 (k - M) (by omega)
  rw [show x+(E - q)+(k - M)=k by omega] at this
  exact this
 have g4:∀k,E≤k→gt d k=gt l k:=fun k hk=>R4 k (.inr (by omega))
 refine⟨fun i j k1 k2 k3=>?_,fun i j k1 k2 k3=>?_,fun i j k1 k2 k3=>?_,fun i j k1 k2 k3=>?_,fun i j k1 k2 k3 k4=>?_⟩
 ·rw [g1 i (by omega),g1 j (by omega)]; exact S1 _ _ k1 k2 (by omega)
 ·rw [g2 i (by omega) (by omega),g2 j (by omega) (by omega)]; exact S2 _ _ (by omega) (by omega) (by omega)
 ·rw [g3 i (by omega) (by omega),g3 j (by omega) (by omega)]; exact S1 _ _ (by omega) (by omega) (by omega)
 ·rw [g4 i (by omega),g4 j (by omega)]; exact S2 _ _ (by omega) (by omega) (by omega)
 ·by_cases hi:i<x
  ·rw [g1 i hi]
   by_cases hj:j<E
   ·rw [g3 j k3 hj]; exact S1 _ _ k1 (by omega) (by omega)
   ·rw [g4 j (by omega)]
    have f1:=F1 (by omega) (by omega)
    have f2:=S1.le O k1 (show i≤x - 1 by omega) (by omega) (by omega)
    have f3:=S2.le O (show q≤E from h4) (show E≤j by omega) k4 hb
    exact O.tr _ (bQ (by omega)) _ (bQ (show E<l.length by omega)) _ (bQ (by omega)) (O.tr _ (bQ (by omega)) _ (bQ (show x - 1<l.length by omega)) _ (bQ (by omega)) f2 f1) f3
  ·rw [g2 i (by omega) k2]
   by_cases hj:j<E
   ·rw [g3 j k3 hj]
    have f1:=O.KB _ (bQ (show E - 1<l.length by omega)) _ (bQ (show x<l.length by omega)) (F2 (by omega) (by omega))
    have f2:=S2.le O (show q≤q+(i - x) by omega) (show q+(i - x)≤E - 1 by omega) (by omega) hb
    have f3:=S1.le O h1 (show x≤x+(j - M) by omega) (by omega) (by omega)
    exact O.tr _ (bQ (by omega)) _ (bQ (show x<l.length by omega)) _ (bQ (by omega)) (O.tr _ (bQ (by omega)) _ (bQ (show E - 1<l.length by omega)) _ (bQ (by omega)) f2 f1) f3
   ·rw [g4 j (by omega)]; exact S2 _ _ (by omega) (by omega) k4
theorem Fu {l:List Int}{x i j:Nat}(h:i=0∨j=0):KA l l x i j:=
 ⟨List.Perm.refl _,fun k hk=>by rw [show i=0 by omega,W5],fun k hk=>by rw [show j=0 by omega,W5],fun _ _=>rfl⟩
theorem J4 {l d:List Int}{x i j a b:Nat}(R:KA l d x i j)(h1:a≤x)(h2:x+i+j≤b):Mv a b l d:=by
 obtain⟨R1,R2,R3,R4⟩:=R
 refine⟨R1,fun k hk=>R4 k (by omega),fun k k1 k2=>?_⟩
 by_cases g1:k<x∨x+i+j≤k
 ·exact⟨k,k1,k2,R4 k g1⟩
 ·by_cases g2:k<x+j
  ·have:=R2 (k - x) (by omega)
   rw [show x+(k - x)=k by omega] at this
   exact⟨_,by omega,by omega,this⟩
  ·have:=R3 (k - x - j) (by omega)
   rw [show x+j+(k - x - j)=k by omega] at this
   exact⟨_,by omega,by omega,this⟩
theorem pj (hm:2 ^ 41≤m):∀(f:Nat) (l:List Int) (a q b:Nat),b - a<f→a<q→q<b→b≤l.length→l.length<2 ^ 40→Cm cmp c l→
  ∃d,aG.f m f l (a:Int) (q:Int) (b:Int) cmp=some d∧Mv a b l d∧(Ord c l→Sg c l a q→Sg c l q b→Sg c d a b)
 | 0,l,a,q,b,hf,_,_,_,_,_=>absurd hf (by omega)
 | f+1,l,a,q,b,hf,h1,h2,h3,hs,C=>by
  have tz:(2:Nat) ^ 40=1099511627776:=by decide
  have yA:(2:Nat) ^ 41=2199023255552:=by decide
  have P6:(2:Nat) ^ 42=4398046511104:=by decide
  unfold aG.f
  unfold aG.b
  have e1:i64.wrap ((q:Int) - (a:Int))=((q - a:Nat):Int):=by rw [bI (by omega) (by omega)]; omega
  have e2:i64.wrap ((b:Int) - (q:Int))=((b - q:Nat):Int):=by rw [bI (by omega) (by omega)]; omega
  have hM:=xW (a:=a) (b:=b) (by omega)
  rw [e1,e2,hM]
  by_cases PY:q - a=1
  ·obtain⟨x,k1,k2,k3,k4,k5⟩:=zB (m:=m) (a:=a) (by omega) hs C m q b (by omega) (by omega) h3
   obtain⟨d,y,g1,g2,g3⟩:=Fs (m:=m) (l:=l) (a:=a) (x:=x) (by omega) (by omega) hs m a l (by omega) (Vy _) (by omega) Mv.refl (fun t=>by rw [if_neg (by omega)]; split<;>simp_all)
   rw [if_pos (by simp; omega),k1,Vu]
   dsimp only
   rw [g1]
   refine⟨d,rfl,g2.wide (Vy _) k3,fun O S1 S2 i j r1 r2 r3=>?_⟩
   have A1:∀t,a≤t→t+1<x→gt d t=gt l (t+1):=fun t w1 w2=>by rw [g3 t,if_pos ⟨w1,w2⟩]
   have A2:∀t,t+1=x→gt d t=gt l a:=fun t w1=>by rw [g3 t,if_neg (by omega),if_pos w1]
   have A3:∀t,x≤t→gt d t=gt l t:=fun t w1=>by rw [g3 t,if_neg (by omega),if_neg (by omega)]
   by_cases i1:i+1<x
   ·rw [A1 i r1 i1]
    by_cases j1:j+1<x
    ·rw [A1 j (by omega) j1]; exact S2 _ _ (by omega) (by omega) (by omega)
    ·have f1:=O.KB _ (bQ (show x - 1<l.length by omega)) _ (bQ (show a<l.length by omega)) (k4 (by omega))
     have f2:=S2.le O (show q≤i+1 by omega) (show i+1≤x - 1 by omega) (by omega) h3
     by_cases j2:j+1=x
     ·rw [A2 j j2]
      exact O.tr _ (bQ (by omega)) _ (bQ (show x - 1<l.length by omega)) _ (bQ (by omega)) f2 f1
     ·rw [A3 j (by omega)]; exact S2 _ _ (by omega) (by omega) (by omega)
   ·rw [A3 j (by omega)]
    by_cases i2:i+1=x
    ·rw [A2 i i2]
     have f1:=k5 (by omega)
     have f2:=S2.le O (show q≤x by omega) (show x≤j by omega) r3 h3
     exact O.tr _ (bQ (by omega)) _ (bQ (show x<l.length by omega)) _ (bQ (by omega)) f1 f2
    ·rw [A3 i (by omega)]; exact S2 _ _ (by omega) r2 r3
  rw [if_neg (by simp; omega)]
  by_cases hb1:b - q=1
  ·obtain⟨x,k1,k2,k3,k4,k5⟩:=zC (m:=m) (q:=q) (by omega) hs C m a q (by omega) (by omega) (by omega)
   obtain⟨d,y,g1,g2,g3⟩:=Ft (m:=m) (l:=l) (q:=q) (x:=x) (by omega) (by omega) hs m q l (by omega) (by omega) (Vy _) Mv.refl (fun t=>by rw [if_neg (by omega)]; split<;>simp_all)
   rw [if_pos (by simp; omega),k1,Vu]
   dsimp only
   rw [g1]
   refine⟨d,rfl,g2.wide k2 (by omega),fun O S1 S2 i j r1 r2 r3=>?_⟩
   have A1:∀t,x<t→t≤q→gt d t=gt l (t - 1):=fun t w1 w2=>by rw [g3 t,if_pos ⟨w1,w2⟩]
   have A2:gt d x=gt l q:=by rw [g3 x,if_neg (by omega),if_pos rfl]
   have A3:∀t,t<x→gt d t=gt l t:=fun t w1=>by rw [g3 t,if_neg (by omega),if_neg (by omega)]
   by_cases i1:x<i
   ·rw [A1 i i1 (by omega),A1 j (by omega) (by omega)]
    exact S1 _ _ (by omega) (by omega) (by omega)
   ·by_cases i2:i=x
    ·subst i2
     rw [A2,A1 j (by omega) (by omega)]
     have f1:=O.KB _ (bQ (show q<l.length by omega)) _ (bQ (show i<l.length by omega)) (k5 (by omega))
     have f2:=S1.le O r1 (show i≤j - 1 by omega) (by omega) (by omega)
     exact O.tr _ (bQ (by omega)) _ (bQ (show i<l.length by omega)) _ (bQ (by omega)) f1 f2
    ·rw [A3 i (by omega)]
     by_cases j1:x<j
     ·rw [A1 j j1 (by omega)]
      exact S1.le O r1 (by omega) (by omega) (by omega)
     ·have f1:=k4 (by omega)
      have f2:=S1.le O r1 (show i≤x - 1 by omega) (by omega) (by omega)
      by_cases j2:j=x
      ·subst j2
       rw [A2]
       exact O.tr _ (bQ (by omega)) _ (bQ (show j - 1<l.length by omega)) _ (bQ (by omega)) f2 f1
      ·rw [A3 j (by omega)]; exact S1 _ _ r1 r2 (by omega)
  rw [if_neg (by simp; omega)]
  refine J3 ?_
  intro z hz
  have RR:∃s r:Nat,z=((s:Int),(r:Int))∧((q > (a+b) / 2∧s=(a+b) / 2+q - b∧r=(a+b) / 2)∨(q≤(a+b) / 2∧s=a∧r=q)):=by
   rcases hz with⟨hc,rfl⟩| ⟨hc,rfl⟩
   ·refine⟨(a+b) / 2+q - b,(a+b) / 2,?_,.inl ⟨by simp only [decide_eq_true_eq] at hc; omega,rfl,rfl⟩⟩
    simp only [VC,and_true]
    simp only [decide_eq_true_eq] at hc
    rw [bI (x:=(((a+b) / 2:Nat):Int)+(q:Int)) (by omega) (by omega),bI (by omega) (by omega)]
    omega
   ·refine⟨a,q,rfl,.inr ⟨?_,rfl,rfl⟩⟩
    simp only [decide_eq_false_iff_not] at hc
    omega
  obtain⟨s,r,rfl,RR⟩:=RR
  clear hz
  dsimp only
  obtain⟨x,k1,k2,k3,k4,k5⟩:=zD (m:=m) (a:=a) (b:=b) (q:=q) (by omega) hs C m s r (by omega) (by omega) (by omega) (by omega) (by omega)
  rw [k1,Vu]
  dsimp only
  generalize Vp:(a+b) / 2=M at *
  obtain⟨E,hE⟩:∃E,E=M+q - x:=⟨_,rfl⟩
  have eE:i64.wrap (i64.wrap ((M:Int)+(q:Int)) - (x:Int))=(E:Int):=by
   rw [bI (x:=(M:Int)+(q:Int)) (by omega) (by omega),bI (by omega) (by omega)]
   omega
  rw [eE]
  rw [←hE] at k4 k5
  have c1:a≤x:=by omega
  have c2:x≤M:=by omega
  have c3:x≤q:=by omega
  have c4:q≤E:=by omega
  have c5:E≤b:=by omega
  have c6:E+x=M+q:=by omega
  have c7:M≤E:=by omega
  have F1:a<x→E<b→0≤c (gt l E) (gt l (x - 1)):=fun _ _=>k4 (by omega)
  have F2:x<q→q<E→c (gt l (E - 1)) (gt l x)<0:=fun _ _=>k5 (by omega)
  refine Fq (fun d=>KA l d x (q - x) (E - q)) (fun u1 u2=>?_) (fun u=>?_) ?_
  ·simp only [decide_eq_true_eq] at u1 u2
   exact Fk hm (by omega) (by omega) (by omega) hs
  ·simp only [decide_eq_true_eq] at u
   exact Fu (by omega)
  intro d5 R
  try dsimp only
  have M5:Mv a b l d5:=J4 R c1 (by omega)
  have l5:=M5.length
  refine Fq (fun d=>Mv a M d5 d∧(Ord c l→Sg c l a q→Sg c l q b→Sg c d a M)) (fun u1 u2=>?_) (fun u=>?_) ?_
  ·simp only [decide_eq_true_eq] at u1 u2
   obtain⟨d,g1,g2,g3⟩:=pj hm f d5 a x M (by omega) (by omega) (by omega) (by omega) (by omega) (C.perm M5.perm)
   refine⟨d,g1,g2,fun O S1 S2=>?_⟩
   obtain⟨v1,v2,v3,v4,v5⟩:=s9 c1 c2 c3 c4 c5 c6 h3 R O F1 F2 S1 S2
   exact g3 (O.perm M5.perm) v1 v2
  ·simp only [decide_eq_true_eq] at u
   refine⟨Mv.refl,fun O S1 S2=>?_⟩
   obtain⟨v1,v2,v3,v4,v5⟩:=s9 c1 c2 c3 c4 c5 c6 h3 R O F1 F2 S1 S2
   by_cases ua:a=x
   ·rw [ua]; exact v2
   ·rw [show M=x by omega]; exact v1
  rintro d6 ⟨M6,S6⟩
  try dsimp only
  have l6:=M6.length
  have P7:=M5.trans (M6.wide (Vy _) (by omega))
  have fin:∀d,Mv M b d6 d→(Ord c l→Sg c l a q→Sg c l q b→Sg c d M b)→Mv a b l d∧(Ord c l→Sg c l a q→Sg c l q b→Sg c d a b):=by
   intro d M7 S7
   refine⟨P7.trans (M7.wide (by omega) (Vy _)),fun O S1 S2 i j r1 r2 r3=>?_⟩
   obtain⟨v1,v2,v3,v4,v5⟩:=s9 c1 c2 c3 c4 c5 c6 h3 R O F1 F2 S1 S2
   by_cases hj:j<M
   ·rw [M7.out i (by omega),M7.out j (by omega)]
    exact S6 O S1 S2 _ _ r1 r2 hj
   ·by_cases hi:M≤i
    ·exact S7 O S1 S2 _ _ hi r2 r3
    ·obtain⟨j',y1,y2,y3⟩:=M7.im j (by omega) r3
     obtain⟨i',w1,w2,w3⟩:=M6.im i r1 (by omega)
     rw [M7.out i (by omega),y3,M6.out j' (by omega),w3]
     exact v5 _ _ w1 w2 y1 y2
  refine P4 (fun u1 u2=>?_) (fun u=>?_)
  ·simp only [decide_eq_true_eq] at u1 u2
   obtain⟨d,g1,g2,g3⟩:=pj hm f d6 M E b (by omega) (by omega) (by omega) (by omega) (by omega) (C.perm P7.perm)
   refine⟨d,g1,fin d g2 fun O S1 S2=>?_⟩
   obtain⟨v1,v2,v3,v4,v5⟩:=s9 c1 c2 c3 c4 c5 c6 h3 R O F1 F2 S1 S2
   refine g3 (O.perm P7.perm) (fun i j y1 y2 y3=>?_) (fun i j y1 y2 y3=>?_)
   ·rw [M6.out i (by omega),M6.out j (by omega)]; exact v3 _ _ y1 y2 y3
   ·rw [M6.out i (by omega),M6.out j (by omega)]; exact v4 _ _ y1 y2 y3
  ·simp only [decide_eq_true_eq] at u
   refine fin d6 Mv.refl fun O S1 S2 i j y1 y2 y3=>?_
   obtain⟨v1,v2,v3,v4,v5⟩:=s9 c1 c2 c3 c4 c5 c6 h3 R O F1 F2 S1 S2
   rw [M6.out i (by omega),M6.out j (by omega)]
   by_cases ue:M=E
   ·exact v4 _ _ (by omega) y2 y3
   ·exact v3 _ _ y1 y2 (by omega)
end
end Go.Proofs.Ytifafejidnjckaa
namespace Go.Proofs.Ytifafejidnjckaa
open Go Go.R
open Go.IntKind (i64 u64 u8 u32)
section
variable {m:Nat}{cmp:Int→Int→Option Int}{c:Int→Int→Int}
def Ml (c:Int→Int→Int)(d:List Int)(bs n:Nat):Prop:=∀k i j,k*bs≤i→i<j→j<k*bs+bs→j<n→0≤c (gt d j) (gt d i)
theorem Fv (hm:2 ^ 41≤m){n:Nat}{l:List Int}(hn:n=l.length)(hs:l.length<2 ^ 40)(C:Cm cmp c l):∀(f t:Nat) (d:List Int),n - 20*t<f→20*t≤n→Mv 0 (20*t) l d→
  (Ord c l→∀k,k<t→Sg c d (20*k) (20*k+20))→
  ∃d' t' y,bO.l0 m (n:Int) cmp f d ((20*t:Nat):Int) ((20*t+20:Nat):Int)=some (d',((20*t':Nat):Int),y)∧20*t'≤n∧n<20*t'+20∧Mv 0 (20*t') l d'∧(Ord c l→∀k,k<t'→Sg c d' (20*k) (20*k+20))
 | 0,t,d,hf,_,_,_=>absurd hf (by omega)
 | f+1,t,d,hf,h1,M,S=>by
  have tz:(2:Nat) ^ 40=1099511627776:=by decide
  have yA:(2:Nat) ^ 41=2199023255552:=by decide
  have hl:=M.length
  unfold bO.l0
  by_cases h:20*t+20≤n
  ·obtain⟨d1,e1,M1,S1⟩:=xY (a:=20*t) (b:=20*t+20) (cmp:=cmp) (c:=c) hm (l:=d) (by omega) (by omega) (by omega) (C.perm M.perm)
   rw [if_pos (by simp only [decide_eq_true_eq]; omega),e1,Vu,bI (x:=((20*t+20:Nat):Int)+20) (by omega) (by omega)]
   have:=Fv hm hn hs C f (t+1) d1 (by omega) (by omega) ((M.wide (Vy _) (by omega)).trans (M1.wide (by omega) (by omega))) (fun O k hk i j k1 k2 k3=>by
    by_cases Gy:k=t
    ·subst Gy; exact S1 (O.perm M.perm) _ _ k1 k2 k3
    ·rw [M1.out i (by omega),M1.out j (by omega)]; exact S O k (by omega) _ _ k1 k2 k3)
   rw [show ((20*(t+1):Nat):Int)=((20*t+20:Nat):Int) by omega,show ((20*(t+1)+20:Nat):Int)=((20*t+20:Nat):Int)+20 by omega] at this
   exact this
  ·exact⟨d,t,_,by rw [if_neg (by simp only [decide_eq_true_eq]; omega)],h1,by omega,M,S⟩
theorem Fw (hm:2 ^ 41≤m){n bs:Nat}{l:List Int}(hn:n=l.length)(hs:l.length<2 ^ 40)(hb:0<bs)(DU:bs<n)(C:Cm cmp c l)(B:Ord c l→Ml c l bs n):∀(f t:Nat) (d:List Int),n - t*(2*bs)<f→t*(2*bs)≤n→Mv 0 (t*(2*bs)) l d→
  (Ord c l→∀k,k<t→Sg c d (k*(2*bs)) (k*(2*bs)+2*bs))→
  ∃d' t' y,bO.l2 m (n:Int) cmp (bs:Int) f d ((t*(2*bs):Nat):Int) ((t*(2*bs)+2*bs:Nat):Int)=some (d',((t'*(2*bs):Nat):Int),y)∧t'*(2*bs)≤n∧n<t'*(2*bs)+2*bs∧Mv 0 (t'*(2*bs)) l d'∧(Ord c l→∀k,k<t'→Sg c d' (k*(2*bs)) (k*(2*bs)+2*bs))
 | 0,t,d,hf,_,_,_=>absurd hf (by omega)
 | f+1,t,d,hf,h1,M,S=>by
  have tz:(2:Nat) ^ 40=1099511627776:=by decide
  have yA:(2:Nat) ^ 41=2199023255552:=by decide
  have hl:=M.length
  unfold bO.l2
  have ht:(t+1)*(2*bs)=t*(2*bs)+2*bs:=W9 _ _
  have q1:(2*t)*bs=t*(2*bs):=by rw [Nat.mul_assoc,Nat.mul_left_comm]
  have q2:(2*t+1)*bs=t*(2*bs)+bs:=by rw [W9,q1]
  by_cases h:t*(2*bs)+2*bs≤n
  ·have S0:Ord c l→Sg c d (t*(2*bs)) (t*(2*bs)+bs):=fun O i j k1 k2 k3=>by
    rw [M.out i (by omega),M.out j (by omega)]; exact B O (2*t) i j (by omega) k2 (by omega) (by omega)
   have T9:Ord c l→Sg c d (t*(2*bs)+bs) (t*(2*bs)+2*bs):=fun O i j k1 k2 k3=>by
    rw [M.out i (by omega),M.out j (by omega)]; exact B O (2*t+1) i j (by omega) k2 (by omega) (by omega)
   have hk:∀k,k<t→k*(2*bs)+2*bs≤t*(2*bs):=fun k hk=>by
    rw [←W9]; exact We _ hk
   generalize hA:t*(2*bs)=A at *
   obtain⟨d1,e1,M1,S1⟩:=pj (cmp:=cmp) (c:=c) hm m d A (A+bs) (A+2*bs) (by omega) (by omega) (by omega) (by omega) (by omega) (C.perm M.perm)
   have e0:i64.wrap ((A:Int)+(bs:Int))=((A+bs:Nat):Int):=by rw [bI (by omega) (by omega)]; omega
   have e2:i64.wrap ((2:Int)*(bs:Int))=((2*bs:Nat):Int):=by rw [bI (by omega) (by omega)]; omega
   have e3:i64.wrap (((A+2*bs:Nat):Int)+((2*bs:Nat):Int))=((A+2*bs+2*bs:Nat):Int):=by rw [bI (by omega) (by omega)]; omega
   rw [if_pos (by simp only [decide_eq_true_eq]; omega),e0,e1,Vu,e2,e3]
   have:=Fw hm hn hs hb DU C B f (t+1) d1 (by omega) (by omega) (by rw [ht]; exact (M.wide (Vy _) (by omega)).trans (M1.wide (by omega) (by omega))) (fun O k r9 i j k1 k2 k3=>by
    by_cases Gy:k=t
    ·subst Gy; rw [hA] at k1 k3; exact S1 (O.perm M.perm) (S0 O) (T9 O) _ _ k1 k2 k3
    ·have:=hk k (by omega)
     rw [M1.out i (by omega),M1.out j (by omega)]; exact S O k (by omega) _ _ k1 k2 k3)
   rw [ht] at this
   exact this
  ·exact⟨d,t,_,by rw [if_neg (by simp only [decide_eq_true_eq]; omega)],h1,by omega,M,S⟩
theorem zE (hm:2 ^ 41≤m){n:Nat}:∀(f bs:Nat) (l:List Int),n=l.length→l.length<2 ^ 40→Cm cmp c l→n - bs<f→0<bs→bs<2 ^ 42→(Ord c l→Ml c l bs n)→
  ∃d y,bO.l1 m (n:Int) cmp f l (bs:Int)=some (d,y)∧d.Perm l∧(Ord c l→Sg c d 0 n)
 | 0,bs,l,_,_,_,hf,_,_,_=>absurd hf (by omega)
 | f+1,bs,l,hn,hs,C,hf,hb,hb2,B=>by
  have tz:(2:Nat) ^ 40=1099511627776:=by decide
  have yA:(2:Nat) ^ 41=2199023255552:=by decide
  have P6:(2:Nat) ^ 42=4398046511104:=by decide
  unfold bO.l1
  by_cases h:bs<n
  ·have e2:i64.wrap ((2:Int)*(bs:Int))=((2*bs:Nat):Int):=by rw [bI (by omega) (by omega)]; omega
   have e3:i64.wrap ((bs:Int)*(2:Int))=((2*bs:Nat):Int):=by rw [bI (by omega) (by omega)]; omega
   obtain⟨d1,t,y,k1,k2,k3,M1,S1⟩:=Fw (cmp:=cmp) (c:=c) hm hn hs hb h C B m 0 l (by omega) (by omega) Mv.refl (fun O k hk=>absurd hk (by omega))
   have l1:=M1.length
   simp only [Nat.zero_mul,VU] at k1
   have k1:bO.l2 m (n:Int) cmp (bs:Int) m l (0:Int) ((2*bs:Nat):Int)=_:=k1
   rw [if_pos (by simp only [decide_eq_true_eq]; omega),e2,k1,Vu]
   dsimp only
   rw [e3]
   have q1:(2*t)*bs=t*(2*bs):=by rw [Nat.mul_assoc,Nat.mul_left_comm]
   have q2:(2*t+1)*bs=t*(2*bs)+bs:=by rw [W9,q1]
   have hk:∀k,k<t→k*(2*bs)+2*bs≤t*(2*bs):=fun k hk=>by
    rw [←W9]; exact We _ hk
   have r9:∀k,t<k→t*(2*bs)+2*bs≤k*(2*bs):=fun k hk=>by
    rw [←W9]; exact We _ hk
   have e0:i64.wrap (((t*(2*bs):Nat):Int)+(bs:Int))=((t*(2*bs)+bs:Nat):Int):=by rw [bI (by omega) (by omega)]; omega
   rw [e0]
   by_cases h2:t*(2*bs)+bs<n
   ·obtain⟨d2,e4,M2,S2⟩:=pj (cmp:=cmp) (c:=c) hm m d1 (t*(2*bs)) (t*(2*bs)+bs) n (by omega) (by omega) (by omega) (by omega) (by omega) (C.perm M1.perm)
    rw [if_pos (by simp only [decide_eq_true_eq]; omega),e4,Vu]
    have P2:=M2.perm.trans M1.perm
    obtain⟨d,y,g1,g2,g3⟩:=zE (n:=n) hm f (2*bs) d2 (by have:=P2.length_eq; omega) (by have:=P2.length_eq; omega) (C.perm P2) (by omega) (by omega) (by omega) (fun O k i j w1 w2 w3 w4=>by
     have O:=O.perm P2.symm
     by_cases u1:k<t
     ·have:=hk k u1
      rw [M2.out i (by omega),M2.out j (by omega)]; exact S1 O k u1 _ _ w1 w2 w3
     ·by_cases u2:k=t
      ·subst u2
       refine S2 (O.perm M1.perm) (fun i j x1 x2 x3=>?_) (fun i j x1 x2 x3=>?_) _ _ w1 w2 w4
       ·rw [M1.out i (by omega),M1.out j (by omega)]; exact B O (2*k) i j (by omega) x2 (by omega) (by omega)
       ·rw [M1.out i (by omega),M1.out j (by omega)]; exact B O (2*k+1) i j (by omega) x2 (by omega) (by omega)
      ·have:=r9 k (by omega); omega)
    exact⟨d,y,g1,g2.trans P2,fun O=>g3 (O.perm P2)⟩
   ·rw [if_neg (by simp only [decide_eq_true_eq]; omega)]
    have P2:=M1.perm
    obtain⟨d,y,g1,g2,g3⟩:=zE (n:=n) hm f (2*bs) d1 (by have:=P2.length_eq; omega) (by have:=P2.length_eq; omega) (C.perm P2) (by omega) (by omega) (by omega) (fun O k i j w1 w2 w3 w4=>by
     have O:=O.perm P2.symm
     by_cases u1:k<t
     ·exact S1 O k u1 _ _ w1 w2 w3
     ·by_cases u2:k=t
      ·subst u2
       rw [M1.out i (by omega),M1.out j (by omega)]; exact B O (2*k) i j (by omega) w2 (by omega) (by omega)
      ·have:=r9 k (by omega); omega)
    exact⟨d,y,g1,g2.trans P2,fun O=>g3 (O.perm P2)⟩
  ·refine⟨l,bs,by rw [if_neg (by simp only [decide_eq_true_eq]; omega)],List.Perm.refl _,fun O i j w1 w2 w3=>B O 0 i j (by omega) w2 (by omega) w3⟩
theorem CY (hm:2 ^ 41≤m){l:List Int}(hs:l.length<2 ^ 40)(C:Cm cmp c l):∃d,fj.f m l cmp=some d∧d.Perm l∧(Ord c l→Sg c d 0 l.length):=by
 have tz:(2:Nat) ^ 40=1099511627776:=by decide
 have yA:(2:Nat) ^ 41=2199023255552:=by decide
 have P6:(2:Nat) ^ 42=4398046511104:=by decide
 unfold fj.f bO.f
 obtain⟨d1,t,y,k1,k2,k3,M1,S1⟩:=Fv (cmp:=cmp) (c:=c) hm rfl hs C m 0 l (by omega) (by omega) Mv.refl (fun O k hk=>absurd hk (by omega))
 have k1:bO.l0 m (l.length:Int) cmp m l (0:Int) (20:Int)=_:=k1
 have l1:=M1.length
 rw [k1,Vu]
 dsimp only
 obtain⟨d2,e2,M2,S2⟩:=xY (a:=20*t) (b:=l.length) (cmp:=cmp) (c:=c) hm (l:=d1) (by omega) (by omega) (by omega) (C.perm M1.perm)
 rw [e2,Vu]
 have P2:=M2.perm.trans M1.perm
 obtain⟨d,y,g1,g2,g3⟩:=zE (cmp:=cmp) (c:=c) (n:=l.length) hm m 20 d2 P2.length_eq.symm (by rw [P2.length_eq]; exact hs) (C.perm P2) (by omega) (by omega) (by omega) (fun O k i j w1 w2 w3 w4=>by
  have O:=O.perm P2.symm
  by_cases u1:k<t
  ·rw [M2.out i (by omega),M2.out j (by omega)]; exact S1 O k u1 _ _ (by omega) w2 (by omega)
  ·exact S2 (O.perm M1.perm) _ _ (by omega) w2 (by omega))
 have g1:bO.l1 m (l.length:Int) cmp m d2 (20:Int)=_:=g1
 rw [g1]
 exact⟨d,rfl,g2.trans P2,fun O=>g3 (O.perm P2)⟩
end
end Go.Proofs.Ytifafejidnjckaa
namespace Go.Proofs.Ytifafejidnjckaa
open Go Go.R
open Go.IntKind (i64 u64 u8 u32)
def ky (t:br):Bool:=decide (1≤t.nodes.length)&&decide (t.nodes.length≤8000)&&decide (0≤t.root)&&decide (t.root<t.nodes.length)&&t.nodes.all fun n=>ph n t.nodes.length
theorem zF {m:Nat}(hm:2 ^ 30≤m)(t:br):gO.f m t=some (ky t):=by
 have J5:(2:Nat) ^ 30=1073741824:=by decide
 have tz:(2:Nat) ^ 40=1099511627776:=by decide
 unfold gO.f ky
 by_cases h1:1≤t.nodes.length
 ·rw [if_pos (by simp only [decide_eq_true_eq]; omega),decide_eq_true h1]
  by_cases h2:t.nodes.length≤8000
  ·rw [if_pos (by simp only [decide_eq_true_eq]; omega),decide_eq_true h2]
   by_cases h3:0≤t.root
   ·rw [if_pos (by simp only [decide_eq_true_eq]; omega),decide_eq_true h3]
    by_cases h4:t.root<t.nodes.length
    ·rw [if_pos (by simp only [decide_eq_true_eq]; omega),decide_eq_true h4]
     rw [CW (g:=fun n=>!(ph n t.nodes.length)) (by omega) (by omega) (fun n _=>by unfold fY.f; rw [CX (by omega)]; rfl),Vu]
     simp [List.not_any_eq_all_not]
    ·rw [if_neg (by simp only [decide_eq_true_eq]; omega),decide_eq_false h4]; rfl
   ·rw [if_neg (by simp only [decide_eq_true_eq]; omega),decide_eq_false h3]; rfl
  ·rw [if_neg (by simp only [decide_eq_true_eq]; omega),decide_eq_false h2]; rfl
 ·rw [if_neg (by simp only [decide_eq_true_eq]; omega),decide_eq_false h1]; rfl
def cI (x y:Int):Int:=if x<y then -1 else if y<x then 1 else 0
def cS (x y:ByteArray):Int:=if Op.bytesLess x.data.toList y.data.toList=true then -1 else if (!Eb x y)=true then 1 else 0
def CZ (x y:Int):Int:=if x=0 then y else x
def cT (a b:aq):Int:=if a.kind=b.kind then (if a.kind=3 then CZ (cI a.args.length b.args.length) (cS a.label b.label) else CZ (cS a.label b.label) (cI a.int b.int)) else cI a.kind b.kind
theorem vY {m:Nat}(x y:Int):cM.f m x y=some (cI x y):=by
 unfold cM.f cmp_isNaN_int.f cI
 simp only [beq_self_eq_true,Wy,Vu,VE,if_false]
 by_cases h:x<y
 ·rw [if_pos (by simpa using h),if_pos h]
 ·rw [if_neg (by simpa using h),if_neg h]
  by_cases h2:y<x
  ·rw [if_pos (by simpa using h2),if_pos h2]
  ·rw [if_neg (by simpa using h2),if_neg h2]
theorem BI {m:Nat}(x y:ByteArray):cd.f m x y=some (cS x y):=by
 unfold cd.f cmp_isNaN_string.f cS
 simp only [beq_self_eq_true,Wy,Vu,VE,if_false]
 split
 ·rfl
 ·split
  ·rfl
  ·rfl
theorem xZ {m:Nat}(hm:3≤m)(x y:Int):b9.f m [x,y]=some (CZ x y):=by
 obtain⟨k,rfl⟩:∃k,m=k+3:=⟨m - 3,by omega⟩
 unfold b9.f CZ
 have e1:i64.wrap ((0:Int)+1)=1:=by decide
 have e2:i64.wrap ((1:Int)+1)=2:=by decide
 have a0:ix [x,y] 0=some x:=rfl
 have a1:ix [x,y] 1=some y:=rfl
 unfold b9.l0
 rw [if_pos (by simp),a0,Vu]
 by_cases h:x=0
 ·subst h
  rw [if_neg (by simp),e1,if_pos rfl]
  unfold b9.l0
  rw [if_pos (by simp),a1,Vu]
  by_cases h2:y=0
  ·subst h2
   rw [if_neg (by simp),e2]
   unfold b9.l0
   rw [if_neg (by simp)]; rfl
  ·rw [if_pos (by simpa using h2)]; rfl
 ·rw [if_pos (by simpa using h),if_neg h]; rfl
theorem BJ {m:Nat}(hm:3≤m)(a b:aq):dm.f m a b=some (cT a b):=by
 unfold dm.f cT
 by_cases h:a.kind=b.kind
 ·rw [if_neg (by simp [h]),if_pos h]
  by_cases h3:a.kind=3
  ·rw [if_pos (by simpa using h3),if_pos h3,vY,BI,Vu,Vu,xZ hm]; rfl
  ·rw [if_neg (by simpa using h3),if_neg h3,vY,BI,Vu,Vu,xZ hm]; rfl
 ·rw [if_pos (by simpa using h),if_neg h,vY]; rfl
def nd (l:List aq)(i:Int):aq:=l.getD i.toNat ⟨0,0,⟨#[]⟩,[]⟩
theorem tc {l:List aq}{i:Int}(h0:0≤i)(h1:i<l.length):ix l i=some (nd l i):=by
 unfold ix nd
 have h:i.toNat<l.length:=by omega
 rw [if_pos h0,VQ,Vz h]; rfl
theorem kz {l:List aq}{i:Int}(h0:0≤i)(h1:i<l.length):nd l i∈l:=by
 have:=tc h0 h1
 unfold ix at this
 rw [if_pos h0] at this
 exact VN this
theorem Fx {m:Nat}(hm:3≤m){l:List aq}{i j:Int}(h0:0≤i)(h1:i<l.length)(h2:0≤j)(h3:j<l.length):dK.f m i j l=some (cT (nd l i) (nd l j)):=by
 unfold dK.f
 rw [tc h0 h1,tc h2 h3,Vu,Vu,BJ hm]; rfl
end Go.Proofs.Ytifafejidnjckaa
namespace Go.Proofs.Ytifafejidnjckaa
open Go Go.R
open Go.IntKind (i64 u64 u8 u32)
def key (out:List Int)(n:aq)(i:Nat):List Int:=(gt out i+1)::((n.args.map fun a=>gt out a.toNat+1)++VM (8 - n.args.length) 0)
def enum:List (List Int)→Nat→List (List Int × Int)
 | [],_=>[]
 | k::ks,s=>(k,(s:Int))::enum ks (s+1)
theorem mU:∀(ks:List (List Int)) (s:Nat),(enum ks s).length=ks.length
 | [],_=>rfl
 | k::ks,s=>by simp [enum,mU ks]
theorem te:∀(ks:List (List Int)) (s:Nat) (k:List Int),sr (enum ks s) k=if k∈ks then (((s+ks.idxOf k:Nat):Int),true) else (0,false)
 | [],s,k=>rfl
 | a::ks,s,k=>by
  simp only [enum,sr,te ks (s+1) k,VT,List.idxOf_cons]
  by_cases h:k=a
  ·subst h; simp
  ·have h':(a==k)=false:=by simpa using fun z:a=k=>h z.symm
   rw [if_neg h,h']
   by_cases h2:k∈ks
   ·simp only [h2,if_true,or_true,cond_false]
    simp only [VC,and_true]
    omega
   ·simp [h2,h]
theorem ya:∀(ks:List (List Int)) (s:Nat) (k:List Int),k∉ks→zb (enum ks s) k ((s+ks.length:Nat):Int)=enum (ks++[k]) s
 | [],s,k,_=>rfl
 | a::ks,s,k,h=>by
  have h1:k≠a:=fun z=>h (by simp [z])
  have h2:k∉ks:=fun z=>h (by simp [z])
  simp only [enum,zb,Wb,if_neg h1,VH]
  rw [show s+(ks.length+1)=s+1+ks.length by omega,ya ks (s+1) k h2]
theorem nq {n:Nat}:∀(ks:List (List Int)) (s:Nat) (k:List Int),k.length=n→(∀a∈ks,a.length=n)→sq n (enum ks s) k=true
 | [],s,k,h,_=>by simp [sq,enum,h]
 | a::ks,s,k,h,h2=>by
  have:=nq ks (s+1) k h fun a ha=>h2 a (by simp [ha])
  simp only [sq,Vx,beq_iff_eq,h,true_and] at this ⊢
  simp only [enum,Wi,Vx,beq_iff_eq]
  exact⟨h2 a (by simp),this⟩
structure Part (n:Nat)(out:List Int)(many:Nat):Prop where
 len:out.length=n
 BK:∀i,i<n→0≤gt out i∧gt out i≤many
 RU:∀v:Nat,v≤many→∃i,i<n∧gt out i=v
structure pY (l:List aq)(out:List Int)(p:Nat)(ks:List (List Int)):Prop where
 Hr:ks.Nodup
 mem:∀k,k∈ks↔∃i,i<p∧key out (nd l i) i=k
def BL (l:List aq):Prop:=l.length≤8000∧∀n∈l,n.args.length≤8∧∀a∈n.args,0≤a∧a<l.length
theorem Hs {a:Int}{L:List Int}{t:Nat}{v:Int}(hL:L.length=t)(ht:t<8):(a::(L++VM (8 - t) 0)).set (t+1) v=a::((L++[v])++VM (8 - (t+1)) 0):=by
 rw [List.set_cons_succ,List.set_append_right _ _ (by omega),hL,W7,show 8 - t=(8 - (t+1))+1 by omega,List.replicate_succ,List.set_cons_zero,VK]
 rfl
theorem Fy {m:Nat}{out:List Int}{n:aq}(h8:n.args.length≤8)(ha:∀a∈n.args,0≤a∧a<out.length)(ho:∀i,i<out.length→0≤gt out i∧gt out i<2 ^ 40)(o:Int):∀(f t:Nat),n.args.length - t<f→t≤n.args.length→
  ∃x,ax.l4 m out n f (o::(((n.args.take t).map fun a=>gt out a.toNat+1)++VM (8 - t) 0)) (t:Int)=some (o::((n.args.map fun a=>gt out a.toNat+1)++VM (8 - n.args.length) 0),x)
 | 0,t,hf,_=>absurd hf (by omega)
 | f+1,t,hf,ht=>by
  have tz:(2:Nat) ^ 40=1099511627776:=by decide
  have i40:(2:Int) ^ 40=1099511627776:=by decide
  unfold ax.l4
  by_cases h:t<n.args.length
  ·have hx:ix n.args (t:Int)=some (gt n.args t):=fJ h
   obtain⟨b0,b1⟩:=ha _ (bQ h)
   obtain⟨c0,c1⟩:=ho (gt n.args t).toNat (by omega)
   have hy:ix out (gt n.args t)=some (gt out (gt n.args t).toNat):=zy (by omega) (by omega)
   have e1:i64.wrap ((t:Int)+1)=((t+1:Nat):Int):=by rw [bI (by omega) (by omega)]; omega
   have hT:((n.args.take t).map fun a=>gt out a.toNat+1).length=t:=by simp; omega
   have hz:∃z,ix (o::(((n.args.take t).map fun a=>gt out a.toNat+1)++VM (8 - t) 0)) ((t+1:Nat):Int)=some z:=⟨_,fJ (by simp; omega)⟩
   obtain⟨z,hz⟩:=hz
   obtain⟨x,ih⟩:=Fy (m:=m) h8 ha ho o f (t+1) (by omega) (by omega)
   have hT1:n.args.take (t+1)=n.args.take t++[gt n.args t]:=by rw [List.take_add_one,en h]; rfl
   rw [hT1,V0] at ih
   rw [if_pos (by simp only [decide_eq_true_eq]; omega),hx,Vu,hy,Vu,e1,hz,Vu,VF,bI (x:=gt out (gt n.args t).toNat+1) (by omega) (by omega),Hs hT (by omega)]
   exact⟨x,ih⟩
  ·have:t=n.args.length:=by omega
   subst this
   exact⟨_,by rw [if_neg (by simp),W6]⟩
theorem tg {out:List Int}{n:aq}{i:Nat}(h8:n.args.length≤8):(key out n i).length=9:=by simp [key]; omega
theorem Ik {l:List aq}(ok:BL l){i:Nat}(h:i<l.length):(nd l i).args.length≤8∧∀a∈(nd l i).args,0≤a∧a<l.length:=ok.2 _ (kz (by omega) (by omega))
theorem zG {m:Nat}(hm:2 ^ 30≤m){l:List aq}{out:List Int}{many:Nat}(ok:BL l)(P:Part l.length out many)(Il:many<2 ^ 30):∀(f p:Nat) (ks:List (List Int)) (next:List Int),l.length - p<f→p≤l.length→pY l out p ks→next.length=l.length→
  (∀i,i<p→gt next i=(ks.idxOf (key out (nd l i) i):Int))→
  ∃P8 next' x,ax.l3 m l out f (enum ks 0) next (p:Int)=some (enum P8 0,next',x)∧pY l out l.length P8∧next'.length=l.length∧∀i,i<l.length→gt next' i=(P8.idxOf (key out (nd l i) i):Int)
 | 0,p,ks,next,hf,_,_,_,_=>absurd hf (by omega)
 | f+1,p,ks,next,hf,hp,K,hn,hg=>by
  have J5:(2:Nat) ^ 30=1073741824:=by decide
  have tz:(2:Nat) ^ 40=1099511627776:=by decide
  have i40:(2:Int) ^ 40=1099511627776:=by decide
  have h8000:=ok.1
  have B4:=P.len
  unfold ax.l3
  by_cases h:p<l.length
  ·obtain⟨n1,n2⟩:=Ik ok h
   obtain⟨r0,r1⟩:=P.BK p h
   have e1:i64.wrap ((p:Int)+1)=((p+1:Nat):Int):=by rw [bI (by omega) (by omega)]; omega
   obtain⟨x,hk⟩:=Fy (m:=m) (out:=out) (n:=nd l p) n1 (by rw [B4]; exact n2) (fun i hi=>by have:=P.BK i (by omega); omega) (gt out p+1) m 0 (by omega) (by omega)
   have hk:ax.l4 m out (nd l p) m [gt out p+1,0,0,0,0,0,0,0,0] 0=some (key out (nd l p) p,x):=hk
   have Nb:=tg (out:=out) (i:=p) n1
   have z8:∀a∈ks,a.length=9:=fun a ha=>by
    obtain⟨i,hi,rfl⟩:=(K.mem a).1 ha
    exact tg (Ik ok (by omega)).1
   have P9:∃z,ix next (p:Int)=some z:=⟨_,fJ (by omega)⟩
   obtain⟨z,hz⟩:=P9
   rw [if_pos (by simp only [decide_eq_true_eq]; omega),tc (by omega) (by omega),Vu,fJ (by omega),Vu,bI (x:=gt out p+1) (by omega) (by omega),hk,Vu]
   dsimp only
   have hG:GV 9 (enum ks 0) (key out (nd l p) p)=some (if key out (nd l p) p∈ks then (((ks.idxOf (key out (nd l p) p):Nat):Int),true) else (0,false)):=by
    unfold GV; rw [if_pos (nq _ _ _ Nb z8),te,VU]
   rw [hG,Vu,e1,hz]
   by_cases hin:key out (nd l p) p∈ks
   ·rw [if_pos hin,if_neg (by simp),Vu,Vu,VF]
    refine zG hm ok P Il f (p+1) ks _ (by omega) (by omega) ⟨K.Hr,fun k=>⟨fun hk=>?_,fun ⟨i,hi,r9⟩=>?_⟩⟩ (by simpa using hn) (fun i hi=>?_)
    ·obtain⟨i,hi,h⟩:=(K.mem k).1 hk; exact⟨i,by omega,h⟩
    ·by_cases Ht:i=p
     ·subst Ht; rw [←r9]; exact hin
     ·exact (K.mem k).2 ⟨i,by omega,r9⟩
    ·rw [pX (by omega)]
     by_cases Ht:i=p
     ·subst Ht; rw [if_pos rfl]
     ·rw [if_neg Ht]; exact hg i (by omega)
   ·have hS:Lx 9 (enum ks 0) (key out (nd l p) p) (((enum ks 0).length:Nat):Int)=some (enum (ks++[key out (nd l p) p]) 0):=by
     unfold Lx; rw [if_pos (nq _ _ _ Nb z8),mU]
     have:=ya ks 0 _ hin
     rw [VU] at this
     rw [this]
    have hid:(ks++[key out (nd l p) p]).idxOf (key out (nd l p) p)=ks.length:=by
     rw [List.idxOf_append,if_neg hin,List.idxOf_cons_self,VU]
    have Ua:GV 9 (enum (ks++[key out (nd l p) p]) 0) (key out (nd l p) p)=some (((ks.length:Nat):Int),true):=by
     unfold GV
     rw [if_pos (nq _ _ _ Nb (fun a ha=>by rcases VY.1 ha with ha | ha; exact z8 a ha; simp only [VV] at ha; rw [ha]; exact Nb)),te,if_pos (by simp),VU,hid]
    rw [if_neg hin,if_pos (by simp),hS,Vu,Ua,Vu,Vu,VF]
    refine zG hm ok P Il f (p+1) (ks++[key out (nd l p) p]) _ (by omega) (by omega) ⟨?_,fun k=>⟨fun hk=>?_,fun ⟨i,hi,r9⟩=>?_⟩⟩ (by simpa using hn) (fun i hi=>?_)
    ·rw [List.nodup_append]
     refine⟨K.Hr,by simp,fun a ha b hb=>?_⟩
     simp only [VV] at hb
     subst hb; intro e; subst e; exact hin ha
    ·rcases VY.1 hk with hk | hk
     ·obtain⟨i,hi,h⟩:=(K.mem k).1 hk; exact⟨i,by omega,h⟩
     ·simp only [VV] at hk; exact⟨p,by omega,hk.symm⟩
    ·by_cases Ht:i=p
     ·subst Ht; rw [←r9]; simp
     ·exact Wn _ ((K.mem k).2 ⟨i,by omega,r9⟩)
    ·rw [pX (by omega)]
     by_cases Ht:i=p
     ·subst Ht; rw [if_pos rfl,hid]
     ·rw [if_neg Ht,List.idxOf_append,if_pos ((K.mem _).2 ⟨i,by omega,rfl⟩)]; exact hg i (by omega)
  ·have:p=l.length:=by omega
   subst this
   exact⟨ks,next,_,by rw [if_neg (by simp)],K,hn,hg⟩
theorem Hu {l:List aq}{out:List Int}{ks:List (List Int)}(K:pY l out l.length ks):ks.length≤l.length:=by
 have:=K.Hr.length_le_of_subset (l₂:=(WD l.length).map fun i:Nat=>key out (nd l i) i) (fun k hk=>by
  obtain⟨i,hi,h⟩:=(K.mem k).1 hk
  exact V8.2 ⟨i,WJ.2 hi,h⟩)
 simpa using this
theorem BM {l:List aq}{out:List Int}{many:Nat}{ks:List (List Int)}(P:Part l.length out many)(K:pY l out l.length ks):many+1≤ks.length:=by
 have hn:((WD (many+1)).map fun v:Nat=>((v:Int)+1)).Nodup:=by
  unfold List.Nodup
  rw [List.pairwise_map]
  exact List.Pairwise.imp (fun h=>by omega) List.nodup_range
 have:=hn.length_le_of_subset (l₂:=ks.map fun k=>k.headD 0) (fun x hx=>by
  obtain⟨v,hv,rfl⟩:=V8.1 hx
  obtain⟨i,hi,h⟩:=P.RU v (by have:=WJ.1 hv; omega)
  exact V8.2 ⟨_,(K.mem _).2 ⟨i,hi,rfl⟩,by simp [key,h]⟩)
 simpa using this
theorem C0 {l:List aq}{out next:List Int}{many:Nat}{ks:List (List Int)}(P:Part l.length out many)(K:pY l out l.length ks)(hn:next.length=l.length)(hg:∀i,i<l.length→gt next i=(ks.idxOf (key out (nd l i) i):Int)):Part l.length next (ks.length - 1):=by
 have:=BM P K
 refine⟨hn,fun i hi=>?_,fun v hv=>?_⟩
 ·have:=WW ((K.mem _).2 ⟨i,hi,rfl⟩)
  rw [hg i hi]; omega
 ·have hv:v<ks.length:=by omega
  obtain⟨i,hi,h⟩:=(K.mem _).1 (List.getElem_mem hv)
  refine⟨i,hi,?_⟩
  rw [hg i hi,h,K.Hr.idxOf_getElem]
theorem Fz {m:Nat}(hm:2 ^ 30≤m){l:List aq}(ok:BL l)(Inv:List Int→Prop)
  (hI:∀out many ks next,Part l.length out many→Inv out→pY l out l.length ks→next.length=l.length→(∀i,i<l.length→gt next i=(ks.idxOf (key out (nd l i) i):Int))→Inv next):∀(f:Nat) (out:List Int) (many:Nat),l.length - many<f→many<l.length→Part l.length out many→Inv out→
  ∃r Im ks,ax.l2 m l f out (many:Int)=some (.inl r)∧Part l.length r Im∧Inv r∧pY l r l.length ks∧ks.length=Im+1
 | 0,out,many,hf,_,_,_=>absurd hf (by omega)
 | f+1,out,many,hf,hlt,P,I=>by
  have J5:(2:Nat) ^ 30=1073741824:=by decide
  have h8000:=ok.1
  unfold ax.l2
  have e0:De 8 (l.length:Int) (0:Int)=some (VM l.length 0):=by unfold De; rw [if_pos ⟨by omega,by rw [VF]; omega⟩,VF]
  obtain⟨ks,next,x,h1,K,hn,hg⟩:=zG hm ok P (by omega) m 0 [] (VM l.length 0) (by omega) (by omega) ⟨by simp,fun k=>⟨fun h=>by simp at h,fun ⟨i,hi,_⟩=>absurd hi (by omega)⟩⟩ (by simp) (fun i hi=>absurd hi (by omega))
  have h1:ax.l3 m l out m [] (VM l.length 0) 0=_:=h1
  have g1:=Hu K
  have g2:=BM P K
  rw [e0,Vu,h1,Vu]
  dsimp only
  rw [mU,bI (x:=(many:Int)+1) (by omega) (by omega),bI (x:=(ks.length:Int) - 1) (by omega) (by omega)]
  by_cases h:ks.length=many+1
  ·rw [if_pos (by simp; omega)]
   exact⟨out,many,ks,rfl,P,I,K,h⟩
  ·rw [if_neg (by simp; omega),show (ks.length:Int) - 1=((ks.length - 1:Nat):Int) by omega]
   exact Fz hm ok Inv hI f next (ks.length - 1) (by omega) (by omega) (C0 P K hn hg) (hI _ _ _ _ P I K hn hg)
end Go.Proofs.Ytifafejidnjckaa
namespace Go.Proofs.Ytifafejidnjckaa
open Go Go.R
open Go.IntKind (i64 u64 u8 u32)
def ints (n:Nat):List Int:=(WD n).map fun k:Nat=>(k:Int)
theorem fm (n:Nat):(ints n).length=n:=by simp [ints]
theorem Hv {n k:Nat}(h:k<n):gt (ints n) k=k:=by
 have h1:=en (l:=ints n) (k:=k) (by rw [fm]; exact h)
 have h2:(ints n)[k]? = some (k:Int):=by
  unfold ints
  rw [Wz,Vz (by simpa using h)]
  simp
 rw [h2] at h1; exact (Wg h1).symm
theorem jV {n:Nat}{x:Int}:x∈ints n↔0≤x∧x<n:=by
 unfold ints
 rw [V8]
 constructor
 ·rintro⟨k,hk,rfl⟩; have:=WJ.1 hk; omega
 ·intro h; exact⟨x.toNat,WJ.2 (by omega),by omega⟩
theorem zH (n:Nat):(ints n).Nodup:=by
 unfold ints List.Nodup
 rw [List.pairwise_map]
 exact List.Pairwise.imp (fun h=>by omega) List.nodup_range
theorem J6 {l:List Int}(h:l.Nodup){i j:Nat}(hi:i<l.length)(hj:j<l.length)(e:gt l i=gt l j):i=j:=by
 have h1:=en hi
 have h2:=en hj
 rw [Vz hi] at h1
 rw [Vz hj] at h2
 have h1:=Wg h1
 have h2:=Wg h2
 exact (List.getElem_inj (h₀:=hi) (h₁:=hj) h).1 (by rw [h1,h2,e])
theorem uE {l:List Int}{x:Int}(h:x∈l):∃k,k<l.length∧gt l k=x:=by
 obtain⟨k,hk,e⟩:=List.getElem_of_mem h
 refine⟨k,hk,?_⟩
 have h1:=en hk
 rw [Vz hk,e] at h1
 exact (Wg h1).symm
theorem FA {m:Nat}{z:List Int}(hz:z.length<2 ^ 40):∀(f i:Nat) (d:List Int),z.length - i<f→i≤z.length→d.length=z.length→(∀k,k<i→gt d k=k)→
  ∃x,ax.l0 m z f d (i:Int)=some (ints z.length,x)
 | 0,i,d,hf,_,_,_=>absurd hf (by omega)
 | f+1,i,d,hf,hi,hd,hg=>by
  have tz:(2:Nat) ^ 40=1099511627776:=by decide
  unfold ax.l0
  by_cases h:i<z.length
  ·obtain⟨v,hv⟩:∃v,ix d (i:Int)=some v:=⟨_,fJ (by omega)⟩
   rw [if_pos (by simp only [decide_eq_true_eq]; omega),hv,Vu,VF,bI (by omega) (by omega),show (i:Int)+1=((i+1:Nat):Int) by omega]
   refine FA hz f (i+1) _ (by omega) (by omega) (by simpa using hd) fun k hk=>?_
   rw [pX (by omega)]
   by_cases e:k=i
   ·subst e; rw [if_pos rfl]
   ·rw [if_neg e]; exact hg k (by omega)
  ·refine⟨i,?_⟩
   rw [if_neg (by simp only [decide_eq_true_eq]; omega)]
   have:d=ints z.length:=J2 (by rw [fm,hd]) fun k hk=>by rw [hg k (by omega),Hv (by omega)]
   rw [this]
def rk (l:List aq)(d:List Int):Nat→Nat
 | 0=>0
 | k+1=>rk l d k+if cT (nd l (gt d k)) (nd l (gt d (k+1)))=0 then 0 else 1
theorem FB (l:List aq)(d:List Int):∀k,rk l d k≤k
 | 0=>Vy _
 | k+1=>by have:=FB l d k; unfold rk; split<;>omega
theorem vZ (l:List aq)(d:List Int)(i:Nat):∀j,i≤j→rk l d i≤rk l d j
 | 0,h=>by
   have:i=0:=by omega
   subst this; exact Vy _
 | j+1,h=>by
  by_cases e:i=j+1
  ·subst e; exact Vy _
  ·have:=vZ l d i j (by omega)
   show _≤rk l d j+_
   omega
theorem FC (l:List aq)(d:List Int):∀(j v:Nat),v≤rk l d j→∃k,k≤j∧rk l d k=v
 | 0,v,h=>⟨0,Vy _,by unfold rk at h ⊢; omega⟩
 | j+1,v,h=>by
  by_cases e:v=rk l d (j+1)
  ·exact⟨j+1,Vy _,e.symm⟩
  ·have h2:rk l d (j+1)≤rk l d j+1:=by show rk l d j+_≤_; split<;>omega
   obtain⟨k,hk,e⟩:=FC l d j v (by omega)
   exact⟨k,by omega,e⟩
theorem FD {m:Nat}(hm:3≤m){l:List aq}{o d:List Int}(hl:l.length≤8000)(ho:o.length=l.length)(hp:d.Perm (ints l.length)):∀(f p:Nat) (out:List Int),l.length - p<f→p≤l.length→out.length=l.length→(∀k,k<p→gt out (gt d k).toNat=rk l d k)→
  ∃J7 x,ax.l1 m l o d f out ((rk l d (p - 1):Nat):Int) (p:Int)=some (J7,((rk l d (l.length - 1):Nat):Int),x)∧J7.length=l.length∧∀k,k<l.length→gt J7 (gt d k).toNat=rk l d k
 | 0,p,out,hf,_,_,_=>absurd hf (by omega)
 | f+1,p,out,hf,yp,Mm,hg=>by
  have PZ:d.length=l.length:=by rw [hp.length_eq,fm]
  have hd:∀k,k<l.length→0≤gt d k∧gt d k<l.length:=fun k hk=>jV.1 (hp.mem_iff.1 (bQ (by omega)))
  have Io:d.Nodup:=hp.symm.nodup (zH _)
  unfold ax.l1
  by_cases h:p<l.length
  ·obtain⟨d0,d1⟩:=hd p h
   have DI:∀k,k<p+1→gt (out.set (gt d p).toNat ((rk l d p:Nat):Int)) (gt d k).toNat=rk l d k:=fun k hk=>by
    rw [pX (by omega)]
    by_cases e:k=p
    ·subst e; rw [if_pos rfl]
    ·have:gt d k≠gt d p:=fun h=>e (J6 Io (by omega) (by omega) h)
     have:=hd k (by omega)
     rw [if_neg (by omega)]; exact hg k (by omega)
   obtain⟨z,hz⟩:∃z,ix out (gt d p)=some z:=⟨_,zy (k:=(gt d p).toNat) (by omega) (by omega)⟩
   have e1:i64.wrap ((p:Int)+1)=((p+1:Nat):Int):=by rw [bI (by omega) (by omega)]; omega
   have hr:=FB l d p
   have IH:=FD hm hl ho hp f (p+1) (out.set (gt d p).toNat ((rk l d p:Nat):Int)) (by omega) (by omega) (by simpa using Mm) DI
   rw [show p+1 - 1=p by omega] at IH
   rw [if_pos (by simp only [decide_eq_true_eq]; omega),fJ (by omega),Vu]
   by_cases h0:0<p
   ·obtain⟨q,rfl⟩:∃q,p=q+1:=⟨p - 1,by omega⟩
    obtain⟨q0,q1⟩:=hd q (by omega)
    rw [show q+1 - 1=q by omega]
    have e2:i64.wrap (((q+1:Nat):Int) - 1)=(q:Int):=by rw [bI (by omega) (by omega)]; omega
    rw [if_pos (by simp only [decide_eq_true_eq]; omega),e2,fJ (by omega),Vu,tc q0 q1,Vu,tc d0 d1,Vu,BJ hm,Vu,hz,e1]
    by_cases hc:cT (nd l (gt d q)) (nd l (gt d (q+1)))=0
    ·have Qa:rk l d (q+1)=rk l d q:=by show rk l d q+_=_; rw [if_pos hc]; omega
     rw [if_neg (by simp [hc]),Vu]
     rw [Qa] at IH; exact IH
    ·have Qa:rk l d (q+1)=rk l d q+1:=by show rk l d q+_=_; rw [if_neg hc]
     rw [if_pos (by simpa using hc),Vu,bI (by omega) (by omega)]
     rw [Qa] at IH; exact IH
   ·have:p=0:=by omega
    subst this
    rw [if_neg (by simp),hz,Vu,e1]
    exact IH
  ·have:p=l.length:=by omega
   subst this
   exact⟨out,_,by rw [if_neg (by simp only [decide_eq_true_eq]; omega)],Mm,hg⟩
theorem Hw {m:Nat}(hm:3≤m)(l:List aq):Cm (fun y0 y1=>dK.f m y0 y1 l) (fun x y=>cT (nd l x) (nd l y)) (ints l.length):=fun x hx y hy=>by
 have hx:=jV.1 hx
 have hy:=jV.1 hy
 exact Fx hm hx.1 hx.2 hy.1 hy.2
theorem wa {m:Nat}(hm:2 ^ 41≤m){l:List aq}(ok:BL l)(h1:1≤l.length)(Inv:List Int→Prop)
  (hI0:∀d out,d.Perm (ints l.length)→(Ord (fun x y=>cT (nd l x) (nd l y)) (ints l.length)→Sg (fun x y=>cT (nd l x) (nd l y)) d 0 l.length)→(∀k,k<l.length→gt out (gt d k).toNat=rk l d k)→Inv out)
  (hI:∀out many ks next,Part l.length out many→Inv out→pY l out l.length ks→next.length=l.length→(∀i,i<l.length→gt next i=(ks.idxOf (key out (nd l i) i):Int))→Inv next) :
  ∃r many ks,ax.f m l=some r∧Part l.length r many∧Inv r∧pY l r l.length ks∧ks.length=many+1:=by
 have tz:(2:Nat) ^ 40=1099511627776:=by decide
 have yA:(2:Nat) ^ 41=2199023255552:=by decide
 have J5:(2:Nat) ^ 30=1073741824:=by decide
 have h8000:=ok.1
 have e0:De 8 (l.length:Int) (0:Int)=some (VM l.length 0):=by unfold De; rw [if_pos ⟨by omega,by rw [VF]; omega⟩,VF]
 unfold ax.f
 obtain⟨x,k1⟩:=FA (m:=m) (z:=VM l.length 0) (by simp; omega) m 0 (VM l.length 0) (by simp; omega) (by omega) rfl (fun k hk=>absurd hk (by omega))
 have k1:ax.l0 m (VM l.length 0) m (VM l.length 0) 0=_:=k1
 rw [WZ] at k1
 rw [e0,Vu,k1,Vu]
 dsimp only
 obtain⟨d,k2,hp,hs⟩:=CY hm (l:=ints l.length) (by rw [fm]; omega) (Hw (m:=m) (by omega) l)
 rw [k2,Vu,Vu]
 obtain⟨out,x,k3,ho,hg⟩:=FD (m:=m) (l:=l) (o:=ints l.length) (d:=d) (by omega) h8000 (fm _) hp m 0 (VM l.length 0) (by omega) (by omega) (by simp) (fun k hk=>absurd hk (by omega))
 have k3:ax.l1 m l (ints l.length) d m (VM l.length 0) 0 0=_:=k3
 rw [k3,Vu]
 dsimp only
 rw [fm] at hs
 have PZ:d.length=l.length:=by rw [hp.length_eq,fm]
 have hP:Part l.length out (rk l d (l.length - 1)):=by
  refine⟨ho,fun i hi=>?_,fun v hv=>?_⟩
  ·obtain⟨k,hk,e⟩:=uE (hp.mem_iff.2 (jV.2 (show 0≤(i:Int)∧(i:Int)<l.length by omega)))
   have:=hg k (by omega)
   rw [e,VF] at this
   have h2:=vZ l d k (l.length - 1) (by omega)
   omega
  ·obtain⟨k,hk,e⟩:=FC l d _ v hv
   have Nt:k<l.length:=by omega
   have:=jV.1 (hp.mem_iff.1 (bQ (l:=d) (k:=k) (by omega)))
   exact⟨(gt d k).toNat,by omega,by rw [hg k Nt,e]⟩
 have Qy:=FB l d (l.length - 1)
 obtain⟨r,many,ks,k4,P,I,K,z8⟩:=Fz (m:=m) (by omega) ok Inv hI m out (rk l d (l.length - 1)) (by omega) (by omega) hP (hI0 d out hp hs hg)
 rw [k4]
 exact⟨r,many,ks,rfl,P,I,K,z8⟩
end Go.Proofs.Ytifafejidnjckaa
namespace Go.Proofs.Ytifafejidnjckaa
open Go Go.R
open Go.IntKind (i64 u64 u8 u32)
def kZ:List Int→Nat→List (Int × Int)
 | [],_=>[]
 | k::ks,s=>(k,(s:Int))::kZ ks (s+1)
theorem uF:∀(ks:List Int) (s:Nat) (k:Int),xl (kZ ks s) k=if k∈ks then (((s+ks.idxOf k:Nat):Int),true) else (0,false)
 | [],s,k=>rfl
 | a::ks,s,k=>by
  simp only [kZ,xl,uF ks (s+1) k,VT,List.idxOf_cons]
  by_cases h:k=a
  ·subst h; simp
  ·have h':(a==k)=false:=by simpa using fun z:a=k=>h z.symm
   rw [if_neg h,h']
   by_cases h2:k∈ks
   ·simp only [h2,if_true,or_true,cond_false]
    simp only [VC,and_true]
    omega
   ·simp [h2,h]
theorem uG:∀(ks:List Int) (s:Nat) (k:Int),k∉ks→Cv (kZ ks s) k ((s+ks.length:Nat):Int)=kZ (ks++[k]) s
 | [],s,k,_=>rfl
 | a::ks,s,k,h=>by
  have h1:k≠a:=fun z=>h (by simp [z])
  have h2:k∉ks:=fun z=>h (by simp [z])
  simp only [kZ,Cv,Wb,if_neg h1,VH]
  rw [show s+(ks.length+1)=s+1+ks.length by omega,uG ks (s+1) k h2]
def iz (cls:List Int)(a:Int):Int:=gt cls a.toNat
def idx (cls o:List Int)(a:Int):Int:=((o.map (iz cls)).idxOf (iz cls a):Nat)
def yb (cls:List Int)(l:List aq)(o:List Int)(i:Int):aq:=⟨(nd l i).kind,(nd l i).int,(nd l i).label,(nd l i).args.map (idx cls o)⟩
def tP (cls:List Int)(l:List aq):Nat→Int→List Int→List Int
 | 0,_,o=>o
 | k+1,i,o=>if iz cls i∈o.map (iz cls) then o else (nd l i).args.foldl (fun o a=>tP cls l k a o) (o++[i])
structure Vs (cls:List Int)(n:Nat)(o:List Int):Prop where
 Hr:(o.map (iz cls)).Nodup
 BK:∀x∈o,0≤x∧x<n
structure Ps (cls:List Int)(l:List aq)(o o':List Int)(ns zI:List aq):Prop where
 vs:Vs cls l.length o'
 pre:∃t,o'=o++t
 len:zI.length=o'.length
 old:∀k,k<o.length→zI[k]? = ns[k]?
 new:∀k,o.length≤k→k<o'.length→zI[k]? = some (yb cls l o' (gt o' k))
 arg:∀k,o.length≤k→k<o'.length→∀a∈(nd l (gt o' k)).args,iz cls a∈o'.map (iz cls)
theorem Vs.KC {cls:List Int}{n:Nat}{o:List Int}(v:Vs cls n o):o.length≤n:=by
 have hn:o.Nodup:=by
  have:=v.Hr
  unfold List.Nodup at this ⊢
  rw [List.pairwise_map] at this
  exact List.Pairwise.imp (fun h e=>h (by rw [e])) this
 have:=hn.length_le_of_subset (l₂:=ints n) (fun x hx=>jV.2 (v.BK x hx))
 rwa [fm] at this
theorem Ps.refl {cls:List Int}{l:List aq}{o:List Int}{ns:List aq}(v:Vs cls l.length o)(h:ns.length=o.length):Ps cls l o o ns ns:=
 ⟨v,⟨[],by simp⟩,h,fun _ _=>rfl,fun k h1 h2=>by omega,fun k h1 h2=>by omega⟩
theorem pZ {a b:List Int}{k:Nat}(h:k<a.length):gt (a++b) k=gt a k:=by
 unfold gt; rw [VQ,VQ,VJ h]
theorem oa {cls o t:List Int}{a:Int}(h:iz cls a∈o.map (iz cls)):idx cls (o++t) a=idx cls o a:=by
 unfold idx; rw [V0,List.idxOf_append,if_pos h]
theorem yc {cls:List Int}{l:List aq}{o t:List Int}{i:Int}(h:∀a∈(nd l i).args,iz cls a∈o.map (iz cls)):yb cls l (o++t) i=yb cls l o i:=by
 unfold yb
 congr 1
 exact WH fun a ha=>oa (h a ha)
theorem Ps.trans {cls:List Int}{l:List aq}{o o1 o2:List Int}{ns n1 n2:List aq}(a:Ps cls l o o1 ns n1)(b:Ps cls l o1 o2 n1 n2):Ps cls l o o2 ns n2:=by
 obtain⟨t1,rfl⟩:=a.pre
 obtain⟨t2,rfl⟩:=b.pre
 have hl:(o++t1).length=o.length+t1.length:=by simp
 refine⟨b.vs,⟨t1++t2,by simp⟩,b.len,fun k hk=>(b.old k (by omega)).trans (a.old k hk),fun k h1 h2=>?_,fun k h1 h2 x hx=>?_⟩
 ·by_cases h:k<(o++t1).length
  ·rw [b.old k h,a.new k h1 h,pZ h,yc (a.arg k h1 h)]
  ·exact b.new k (by omega) h2
 ·by_cases h:k<(o++t1).length
  ·rw [pZ h] at hx
   rw [V0]
   exact Wn _ (a.arg k h1 h x hx)
  ·exact b.arg k (by omega) h2 x hx
section
variable {m:Nat}{cls:List Int}{l:List aq}{root:Int}
abbrev Mn:=Int→(List (Int × Int))→(List Int)→br→br→Option (Int × (List (Int × Int)) × br)
def Ip (cls:List Int)(l:List aq)(root:Int)(rec:Mn)(df:Int→List Int→List Int)(need:Nat):Prop:=∀(i:Int) (o:List Int) (ns:List aq),0≤i→i<l.length→Vs cls l.length o→ns.length=o.length→l.length<need+o.length→
 ∃zI,rec i (kZ (o.map (iz cls)) 0) cls ⟨ns,0⟩ ⟨l,root⟩=some (idx cls (df i o) i,kZ ((df i o).map (iz cls)) 0,⟨zI,0⟩)∧Ps cls l o (df i o) ns zI∧iz cls i∈(df i o).map (iz cls)
theorem FE {rec:Mn}{df:Int→List Int→List Int}{need:Nat}(hm:2 ^ 30≤m)(ok:BL l)(V:Ip cls l root rec df need){v:aq}(h8:v.args.length≤8)(ha:∀a∈v.args,0≤a∧a<l.length){o0:List Int}{RV:List aq}(Mo:l.length<need+o0.length):∀(f t:Nat) (o:List Int) (ns:List aq),v.args.length - t<f→t≤v.args.length→Ps cls l o0 o RV ns→(∀a∈v.args.take t,iz cls a∈o.map (iz cls))→
  ∃o' zI x,o'=(v.args.drop t).foldl (fun o a=>df a o) o∧aX.l0 m cls ⟨l,root⟩ rec v f ((v.args.take t).map (idx cls o)) (t:Int) (kZ (o.map (iz cls)) 0) ⟨ns,0⟩=some (v.args.map (idx cls o'),x,kZ (o'.map (iz cls)) 0,⟨zI,0⟩)∧Ps cls l o0 o' RV zI∧∀a∈v.args,iz cls a∈o'.map (iz cls)
 | 0,t,o,ns,hf,_,_,_=>absurd hf (by omega)
 | f+1,t,o,ns,hf,ht,P,hin=>by
  have J5:(2:Nat) ^ 30=1073741824:=by decide
  unfold aX.l0
  by_cases h:t<v.args.length
  ·obtain⟨b0,b1⟩:=ha _ (bQ h)
   have Vq:o0.length≤o.length:=by obtain⟨s,rfl⟩:=P.pre; simp
   obtain⟨Ub,k1,P1,MJ⟩:=V (gt v.args t) o ns b0 b1 P.vs P.len (by omega)
   obtain⟨s,hs⟩:=P1.pre
   have hT1:v.args.take (t+1)=v.args.take t++[gt v.args t]:=by rw [List.take_add_one,en h]; rfl
   have hD:v.args.drop t=gt v.args t::v.args.drop (t+1):=by
    obtain⟨h4,h5⟩:=VB.1 (en h)
    rw [←h5]; exact VI h4
   have Qb:∀a∈v.args.take (t+1),iz cls a∈(df (gt v.args t) o).map (iz cls):=fun a ha=>by
    rw [hT1] at ha
    rcases VY.1 ha with ha | ha
    ·rw [hs,V0]; exact Wn _ (hin a ha)
    ·simp only [VV] at ha; subst ha; exact MJ
   obtain⟨o',zI,x,e,k2,P2,h2⟩:=FE hm ok V h8 ha Mo f (t+1) (df (gt v.args t) o) Ub (by omega) (by omega) (P.trans P1) Qb
   refine⟨o',zI,x,by rw [hD]; exact e,?_,P2,h2⟩
   have e1:i64.wrap ((t:Int)+1)=((t+1:Nat):Int):=by rw [bI (by omega) (by omega)]; omega
   have Kq:app 8 ((v.args.take t).map (idx cls o)) [idx cls (df (gt v.args t) o) (gt v.args t)]=some ((v.args.take (t+1)).map (idx cls (df (gt v.args t) o))):=by
    unfold app
    rw [if_pos (by simp; omega),hT1,V0]
    congr 2
    exact WH fun a ha=>by rw [hs]; exact (oa (hin a ha)).symm
   rw [if_pos (by simp only [decide_eq_true_eq]; omega),fJ h,Vu,k1,Vu,Kq,Vu,e1]
   exact k2
  ·have:t=v.args.length:=by omega
   subst this
   rw [W6] at hin ⊢
   exact⟨o,ns,_,by rw [List.drop_length]; rfl,by rw [if_neg (by simp)],P,hin⟩
theorem th (hm:2 ^ 30≤m)(ok:BL l)(hc:cls.length=l.length):∀k,Ip cls l root (aX.f m k) (tP cls l k) k
 | 0=>fun i o ns h0 h1 v hl hn=>absurd v.KC (by omega)
 | k+1=>fun i o ns h0 h1 v hl hn=>by
  have J5:(2:Nat) ^ 30=1073741824:=by decide
  have h8000:=ok.1
  have Uc:=v.KC
  show ∃zI,aX.b m (aX.f m k) i (kZ (o.map (iz cls)) 0) cls ⟨ns,0⟩ ⟨l,root⟩=_∧_
  unfold aX.b
  have hx:ix cls i=some (iz cls i):=zy (by omega) (by omega)
  rw [hx,Vu,uF,VU]
  by_cases h:iz cls i∈o.map (iz cls)
  ·have hd:tP cls l (k+1) i o=o:=by unfold tP; rw [if_pos h]
   rw [hd,if_pos h]
   exact⟨ns,rfl,Ps.refl v hl,h⟩
  ·have hd:tP cls l (k+1) i o=(nd l i).args.foldl (fun o a=>tP cls l k a o) (o++[i]):=by
    show (if iz cls i∈o.map (iz cls) then o else (nd l i).args.foldl (fun o a=>tP cls l k a o) (o++[i]))=_
    rw [if_neg h]
   have v1:Vs cls l.length (o++[i]):=by
    refine⟨?_,fun x hx=>?_⟩
    ·rw [V0,List.nodup_append]
     refine⟨v.Hr,by simp,fun a ha b hb=>?_⟩
     simp only [VX,WU,VV] at hb
     subst hb; intro e; subst e; exact h ha
    ·rcases VY.1 hx with hx | hx
     ·exact v.BK x hx
     ·simp only [VV] at hx; subst hx; exact⟨h0,h1⟩
   have Mp:=v1.KC
   simp only [VD,VH,VS] at Mp
   have Kq:app 56 ns [(⟨(nd l i).kind,(nd l i).int,(nd l i).label,[]⟩:aq)]=some (ns++[⟨(nd l i).kind,(nd l i).int,(nd l i).label,[]⟩]):=by
    unfold app; rw [if_pos (by simp; omega)]
   have Lh:Cv (kZ (o.map (iz cls)) 0) (iz cls i) ((ns.length:Nat):Int)=kZ ((o++[i]).map (iz cls)) 0:=by
    have:=uG (o.map (iz cls)) 0 (iz cls i) h
    rw [VU,VL,←hl] at this
    rw [this,V0]; rfl
   obtain⟨n1,n2⟩:=ok.2 _ (kz h0 h1)
   have P0:Ps cls l (o++[i]) (o++[i]) (ns++[⟨(nd l i).kind,(nd l i).int,(nd l i).label,[]⟩]) (ns++[⟨(nd l i).kind,(nd l i).int,(nd l i).label,[]⟩]):=Ps.refl v1 (by simp [hl])
   obtain⟨o',zI,x,e,k2,P2,h2⟩:=FE (m:=m) (v:=nd l i) (need:=k) hm ok (th hm ok hc k) n1 n2 (o0:=o++[i]) (by simp; omega) m 0 (o++[i]) _ (by omega) (by omega) P0 (fun a ha=>by simp at ha)
   rw [Wd] at e
   rw [List.take_zero,WU] at k2
   have k2:aX.l0 m cls ⟨l,root⟩ (aX.f m k) (nd l i) m [] 0 _ _=_:=k2
   obtain⟨s,hs⟩:=P2.pre
   have B4:o.length<o'.length:=by rw [hs]; simp
   have Mq:zI[o.length]? = some ⟨(nd l i).kind,(nd l i).int,(nd l i).label,[]⟩:=by
    rw [P2.old _ (by simp),←hl,VP (Vy _),W7]; rfl
   have P9:ix zI ((ns.length:Nat):Int)=some ⟨(nd l i).kind,(nd l i).int,(nd l i).label,[]⟩:=by
    unfold ix; rw [if_pos (by omega),VF,hl,Mq]
   have RW:gt o' o.length=i:=by
    rw [hs,pZ (by simp)]
    unfold gt; rw [VQ,VP (Vy _),W7]; rfl
   have Qc:idx cls o' i=(o.length:Nat):=by
    rw [hs,oa (by simp)]
    unfold idx
    rw [V0,List.idxOf_append,if_neg h]; simp
   rw [hd,←e,if_neg h,if_neg (by simp),Vu,tc h0 h1,Vu,Kq,Vu,Lh,k2,Vu]
   dsimp only
   rw [P9,Vu,VF,Qc,hl]
   refine⟨_,rfl,⟨P2.vs,⟨[i]++s,by rw [hs]; simp⟩,by simpa using P2.len,fun q hq=>?_,fun q h3 h4=>?_,fun q h3 h4 a ha=>?_⟩,by rw [hs]; simp⟩
   ·rw [List.getElem?_set_ne (by omega),P2.old q (by simp; omega),VJ (by omega)]
   ·by_cases hq:q=o.length
    ·subst hq
     rw [List.getElem?_set_self (by rw [P2.len]; omega),RW]; rfl
    ·rw [List.getElem?_set_ne (by omega)]
     exact P2.new q (by simp; omega) h4
   ·by_cases hq:q=o.length
    ·subst hq; rw [RW] at ha; exact h2 a ha
    ·exact P2.arg q (by simp; omega) h4 a ha
end
theorem zJ {m:Nat}(hm:2 ^ 41≤m){t:br}(ok:BL t.nodes)(h1:1≤t.nodes.length)(r0:0≤t.root)(r1:t.root<t.nodes.length)(Inv:List Int→Prop)
  (hI0:∀d out,d.Perm (ints t.nodes.length)→(Ord (fun x y=>cT (nd t.nodes x) (nd t.nodes y)) (ints t.nodes.length)→Sg (fun x y=>cT (nd t.nodes x) (nd t.nodes y)) d 0 t.nodes.length)→(∀k,k<t.nodes.length→gt out (gt d k).toNat=rk t.nodes d k)→Inv out)
  (hI:∀out many ks next,Part t.nodes.length out many→Inv out→pY t.nodes out t.nodes.length ks→next.length=t.nodes.length→(∀i,i<t.nodes.length→gt next i=(ks.idxOf (key out (nd t.nodes i) i):Int))→Inv next) :
  ∃cls many ks ns,fq.f m t=some ⟨ns,0⟩∧Part t.nodes.length cls many∧Inv cls∧pY t.nodes cls t.nodes.length ks∧ks.length=many+1∧Ps cls t.nodes [] (tP cls t.nodes m t.root []) [] ns∧iz cls t.root∈(tP cls t.nodes m t.root []).map (iz cls):=by
 have J5:(2:Nat) ^ 30=1073741824:=by decide
 have yA:(2:Nat) ^ 41=2199023255552:=by decide
 have h8000:=ok.1
 obtain⟨cls,many,ks,k1,P,I,K,z8⟩:=wa hm ok h1 Inv hI0 hI
 obtain⟨ns,k2,P2,h2⟩:=th (m:=m) (root:=t.root) (by omega) ok P.len m t.root [] [] r0 r1 ⟨by simp,fun x hx=>by simp at hx⟩ rfl (by simp; omega)
 refine⟨cls,many,ks,ns,?_,P,I,K,z8,P2,h2⟩
 unfold fq.f
 have k2:aX.f m m t.root [] cls ⟨[],0⟩ t=_:=k2
 rw [k1,Vu,k2]; rfl
end Go.Proofs.Ytifafejidnjckaa
namespace Go.Proofs.Ytifafejidnjckaa
open Go Go.R
open Go.IntKind (i64 u64 u8 u32)
theorem ti:∀(x:List UInt8),Op.bytesLess x x=false
 | []=>rfl
 | a::x=>by simp [Op.bytesLess,ti x]
theorem wc:∀(x y:List UInt8),Op.bytesLess x y=true→Op.bytesLess y x=false
 | _,[],h=>by cases ‹List UInt8›<;>simp [Op.bytesLess] at h
 | [],b::y,_=>rfl
 | a::x,b::y,h=>by
  simp only [Op.bytesLess,Wf,Vx,decide_eq_true_eq,beq_iff_eq] at h
  simp only [Op.bytesLess,Bool.or_eq_false_iff,Bool.and_eq_false_iff,decide_eq_false_iff_not,beq_eq_false_iff_ne]
  rcases h with h | ⟨rfl,h⟩
  ·refine⟨fun h2=>?_,.inl fun e=>?_⟩
   ·rw [WL] at h h2; omega
   ·subst e; rw [WL] at h; omega
  ·exact⟨by rw [WL]; omega,.inr (wc x y h)⟩
theorem FF:∀(x y:List UInt8),Op.bytesLess x y=true∨x=y∨Op.bytesLess y x=true
 | [],[]=>.inr (.inl rfl)
 | [],b::y=>.inl rfl
 | a::x,[]=>.inr (.inr rfl)
 | a::x,b::y=>by
  simp only [Op.bytesLess,Wf,Vx,decide_eq_true_eq,beq_iff_eq,List.cons.injEq]
  rcases Nat.lt_trichotomy a.toNat b.toNat with h | h | h
  ·exact .inl (.inl (WL.2 h))
  ·have:a=b:=UInt8.toNat_inj.1 h
   subst this
   rcases FF x y with h1 | h1 | h1
   ·exact .inl (.inr ⟨rfl,h1⟩)
   ·exact .inr (.inl ⟨rfl,h1⟩)
   ·exact .inr (.inr (.inr ⟨rfl,h1⟩))
  ·exact .inr (.inr (.inl (WL.2 h)))
theorem yd:∀(x y z:List UInt8),Op.bytesLess x y=true→Op.bytesLess y z=true→Op.bytesLess x z=true
 | _,_,[],_,h=>by cases ‹List UInt8›<;>simp [Op.bytesLess] at h
 | _,[],c::z,h,_=>by cases ‹List UInt8›<;>simp [Op.bytesLess] at h
 | [],b::y,c::z,_,_=>rfl
 | a::x,b::y,c::z,h1,h2=>by
  simp only [Op.bytesLess,Wf,Vx,decide_eq_true_eq,beq_iff_eq] at h1 h2 ⊢
  rcases h1 with h1 | ⟨rfl,h1⟩
  ·rcases h2 with h2 | ⟨rfl,h2⟩
   ·left; rw [WL] at *; omega
   ·exact .inl h1
  ·rcases h2 with h2 | ⟨rfl,h2⟩
   ·exact .inl h2
   ·exact .inr ⟨rfl,yd x y z h1 h2⟩
theorem FG {x y:ByteArray}(h:x.data.toList=y.data.toList):x=y:=by
 cases x with | mk a=>cases y with | mk b=>cases a; cases b; simp only at h; subst h; rfl
structure J8 {α:Type}(c:α→α→Int):Prop where
 zero:∀x y,c x y=0→x=y
 refl:∀x,c x x=0
 neg:∀x y,c y x = - c x y
 tr:∀x y z,c x y≤0→c y z≤0→c x z≤0
theorem mV:J8 cI:=by
 refine⟨fun x y h=>?_,fun x=>?_,fun x y=>?_,fun x y z h1 h2=>?_⟩
 ·unfold cI at h; split at h
  ·omega
  ·split at h<;>omega
 ·unfold cI; simp
 ·unfold cI; split<;>split<;>(try split)<;>omega
 ·unfold cI at *
  split at h1<;>split at h2<;>(try split at h1)<;>(try split at h2)<;>(try omega)<;>split<;>(try split)<;>omega
theorem ye (x y:ByteArray):cS x y=if Op.bytesLess x.data.toList y.data.toList=true then -1 else if x=y then 0 else 1:=by
 unfold cS Eb
 cases h:Op.bytesLess x.data.toList y.data.toList with
 | true=>rfl
 | false=>
  simp only [Bool.false_or,VE,if_false]
  by_cases e:x=y
  ·subst e; simp
  ·rw [if_neg e]
   have:(x.data.toList==y.data.toList)=false:=by
    rw [beq_eq_false_iff_ne]; exact fun h=>e (FG h)
   rw [this]; rfl
theorem FH:J8 cS:=by
 refine⟨fun x y h=>?_,fun x=>?_,fun x y=>?_,fun x y z h1 h2=>?_⟩
 ·rw [ye] at h
  split at h
  ·omega
  ·split at h
   ·assumption
   ·omega
 ·rw [ye,ti]; simp
 ·rw [ye,ye]
  rcases FF x.data.toList y.data.toList with h | h | h
  ·have h2:=wc _ _ h
   have hne:¬y=x:=fun e=>by subst e; rw [ti] at h; cases h
   rw [if_pos h,h2]; simp [hne]
  ·have:=FG h
   subst this
   rw [ti]; simp
  ·have h2:=wc _ _ h
   have hne:¬x=y:=fun e=>by subst e; rw [ti] at h; cases h
   rw [if_pos h,h2]; simp [hne]
 ·rw [ye] at h1 h2 ⊢
  split at h1
  ·rename_i g1
   split at h2
   ·rename_i g2
    rw [if_pos (yd _ _ _ g1 g2)]; omega
   ·split at h2
    ·rename_i e; subst e; rw [if_pos g1]; omega
    ·omega
  ·split at h1
   ·rename_i e; subst e
    split at h2
    ·rename_i g2; rw [if_pos g2]; omega
    ·split at h2
     ·rename_i g e; rw [if_neg g,if_pos e]; omega
     ·omega
   ·omega
theorem FI {α β:Type}{c:α→α→Int}{d:β→β→Int}(C:J8 c)(D:J8 d):J8 fun (p q:α × β)=>CZ (c p.1 q.1) (d p.2 q.2):=by
 refine⟨fun x y h=>?_,fun x=>?_,fun x y=>?_,fun x y z h1 h2=>?_⟩
 ·unfold CZ at h
  split at h
  ·rename_i h1; exact Prod.ext (C.zero _ _ h1) (D.zero _ _ h)
  ·exact absurd h ‹_›
 ·unfold CZ; rw [C.refl,if_pos rfl,D.refl]
 ·skip
  unfold CZ
  have:=C.neg x.1 y.1
  by_cases h:c x.1 y.1=0
  ·rw [if_pos h,if_pos (by omega),D.neg]
  ·rw [if_neg h,if_neg (by omega),C.neg]
 ·skip
  unfold CZ at *
  by_cases a:c x.1 y.1=0
  ·rw [if_pos a] at h1
   have e:=C.zero _ _ a
   rw [←e] at h2
   by_cases b:c x.1 z.1=0
   ·rw [if_pos b] at h2 ⊢; exact D.tr _ _ _ h1 h2
   ·rw [if_neg b] at h2 ⊢; exact h2
  ·rw [if_neg a] at h1
   have hz:c x.1 z.1≤0:=by
    by_cases b:c y.1 z.1=0
    ·rw [←C.zero _ _ b]; exact h1
    ·rw [if_neg b] at h2; exact C.tr _ _ _ h1 h2
   have hne:c x.1 z.1≠0:=fun e=>by
    have e1:=C.zero _ _ e
    by_cases b:c y.1 z.1=0
    ·have e2:=C.zero _ _ b; rw [e1,←e2] at a; exact a (C.refl _)
    ·rw [if_neg b,←e1] at h2
     have:=C.neg x.1 y.1; omega
   rw [if_neg hne]; exact hz
theorem BN:J8 fun (p q:Int × ByteArray)=>CZ (cI p.1 q.1) (cS p.2 q.2):=FI mV FH
theorem BO:J8 fun (p q:ByteArray × Int)=>CZ (cS p.1 q.1) (cI p.2 q.2):=FI FH mV
theorem lM {a b:aq}(h:a.kind=b.kind):cT a b=if a.kind=3 then CZ (cI a.args.length b.args.length) (cS a.label b.label) else CZ (cS a.label b.label) (cI a.int b.int):=by unfold cT; rw [if_pos h]
theorem jA {a b:aq}(h:a.kind≠b.kind):cT a b=cI a.kind b.kind:=by unfold cT; rw [if_neg h]
theorem ja (a b:aq):cT b a = - cT a b:=by
 by_cases h:a.kind=b.kind
 ·rw [lM h,lM h.symm,←h]
  split
  ·exact BN.neg ((a.args.length:Int),a.label) ((b.args.length:Int),b.label)
  ·exact BO.neg (a.label,a.int) (b.label,b.int)
 ·rw [jA h,jA (Ne.symm h)]; exact mV.neg _ _
theorem yf (a b c:aq)(h1:cT a b≤0)(h2:cT b c≤0):cT a c≤0:=by
 by_cases e1:a.kind=b.kind
 ·by_cases e2:b.kind=c.kind
  ·rw [lM e1] at h1
   rw [lM e2,←e1] at h2
   rw [lM (e1.trans e2)]
   split
   ·rename_i h3; rw [if_pos h3] at h1 h2
    exact BN.tr ((a.args.length:Int),a.label) ((b.args.length:Int),b.label) ((c.args.length:Int),c.label) h1 h2
   ·rename_i h3; rw [if_neg h3] at h1 h2
    exact BO.tr (a.label,a.int) (b.label,b.int) (c.label,c.int) h1 h2
  ·rw [jA e2] at h2
   rw [jA (by rw [e1]; exact e2),e1]; exact h2
 ·rw [jA e1] at h1
  by_cases e2:b.kind=c.kind
  ·rw [jA (by rw [←e2]; exact e1),←e2]; exact h1
  ·rw [jA e2] at h2
   have n1:cI a.kind b.kind≠0:=fun h=>e1 (mV.zero _ _ h)
   have n2:cI b.kind c.kind≠0:=fun h=>e2 (mV.zero _ _ h)
   by_cases e3:a.kind=c.kind
   ·rw [←e3] at h2
    have:=mV.neg a.kind b.kind
    omega
   ·rw [jA e3]; exact mV.tr _ _ _ h1 h2
structure Alike (a b:aq):Prop where
 kind:a.kind=b.kind
 int:a.int=b.int
 label:a.label=b.label
 len:a.args.length=b.args.length
theorem Alike.refl (a:aq):Alike a a:=⟨rfl,rfl,rfl,rfl⟩
theorem Alike.cT {a b:aq}(h:Alike a b):cT a b=0:=by
 rw [lM h.kind]
 split
 ·rw [h.len,h.label]; exact BN.refl ((b.args.length:Int),b.label)
 ·rw [h.label,h.int]; exact BO.refl (b.label,b.int)
theorem FJ {a b:aq}(h:cT a b=0)(ha:a.kind=3→a.int=0)(hb:b.kind=3→b.int=0)(Ud:a.kind≠3→a.args=[])(hb2:b.kind≠3→b.args=[]):Alike a b:=by
 by_cases e:a.kind=b.kind
 ·rw [lM e] at h
  split at h
  ·rename_i h3
   have:=BN.zero ((a.args.length:Int),a.label) ((b.args.length:Int),b.label) h
   simp only [VC] at this
   exact⟨e,by rw [ha h3,hb (by rw [←e]; exact h3)],this.2,by omega⟩
  ·rename_i h3
   have:=BO.zero (a.label,a.int) (b.label,b.int) h
   simp only [VC] at this
   exact⟨e,this.2,this.1,by rw [Ud h3,hb2 (by rw [←e]; exact h3)]⟩
 ·rw [jA e] at h
  exact absurd (mV.zero _ _ h) e
theorem J9 (l:List aq)(s:List Int):Ord (fun x y=>cT (nd l x) (nd l y)) s:=by
 refine⟨fun x _ y _ z _ h1 h2=>?_,fun x _ y _ h=>?_⟩
 ·skip
  have a1:=ja (nd l x) (nd l y)
  have a2:=ja (nd l y) (nd l z)
  have a3:=ja (nd l x) (nd l z)
  have:=yf (nd l x) (nd l y) (nd l z) (by omega) (by omega)
  omega
 ·skip
  have a1:=ja (nd l x) (nd l y)
  omega
end Go.Proofs.Ytifafejidnjckaa
namespace Go.Proofs.Ytifafejidnjckaa
open Go Go.R
open Go.IntKind (i64 u64 u8 u32)
end Go.Proofs.Ytifafejidnjckaa
namespace Go.Proofs.Ytifafejidnjckaa
open Go Go.R
open Go.IntKind (i64 u64 u8 u32)
end Go.Proofs.Ytifafejidnjckaa
namespace Go.Proofs.Ytifafejidnjckaa
open Go Go.R
open Go.IntKind (i64 u64 u8 u32)
end Go.Proofs.Ytifafejidnjckaa
namespace Go.Proofs.Ytifafejidnjckaa
open Go Go.R
open Go.IntKind (i64 u64 u8 u32)
end Go.Proofs.Ytifafejidnjckaa
namespace Go.Proofs.Ytifafejidnjckaa
open Go Go.R
open Go.IntKind (i64 u64 u8 u32)
end Go.Proofs.Ytifafejidnjckaa
namespace Go.Proofs.Ytifafejidnjckaa
open Go Go.R
open Go.IntKind (i64 u64 u8 u32)
end Go.Proofs.Ytifafejidnjckaa
namespace Go.Proofs.Ytifafejidnjckaa
open Go Go.R
open Go.IntKind (i64 u64 u8 u32)
theorem FK {s:ByteArray}(h:(s.data.toList==[])=true):s=Wo #[]:=by
 have h:=beq_iff_eq.1 h
 cases s with
 | mk d=>
  cases d with
  | mk l=>simp only at h; subst h; rfl
theorem Nc {l:List Int}(h:l.isEmpty=true):l=[]:=by cases l with | nil=>rfl | cons=>cases h
structure Mr (n:aq):Prop where
 kind:n.kind=0∧0≤n.int∧n.label=Wo #[]∧n.args=[]∨n.kind=1∧(-1099511627776≤n.int∧n.int≤1099511627776)∧n.label=Wo #[]∧n.args=[]∨n.kind=2∧n.int=0∧n.args=[]∨n.kind=3∧n.int=0∨n.kind=4∧n.args=[]
 label:n.kind=2∨n.kind=3→1≤n.label.size∧n.label.size≤16
 args:n.args.length≤8
theorem p4 {n:aq}{size:Int}(h:ph n size=true):Mr n∧∀a∈n.args,0≤a∧a<size:=by
 unfold ph at h
 split at h
 ·rename_i k
  simp only [Vx,decide_eq_true_eq] at h
  have ha:=Nc h.2
  exact⟨⟨.inl ⟨k,h.1.1,FK h.1.2,ha⟩,fun z=>by omega,by rw [ha]; decide⟩,fun a h=>by rw [ha] at h; cases h⟩
 split at h
 ·rename_i k
  simp only [Vx,decide_eq_true_eq] at h
  have ha:=Nc h.2
  exact⟨⟨.inr (.inl ⟨k,h.1.1,FK h.1.2,ha⟩),fun z=>by omega,by rw [ha]; decide⟩,fun a h=>by rw [ha] at h; cases h⟩
 split at h
 ·rename_i k
  simp only [Vx,beq_iff_eq] at h
  have ha:=Nc h.2
  exact⟨⟨.inr (.inr (.inl ⟨k,h.1.1,ha⟩)),fun z=>uC h.1.2,by rw [ha]; decide⟩,fun a h=>by rw [ha] at h; cases h⟩
 split at h
 ·rename_i k
  simp only [Vx,beq_iff_eq,decide_eq_true_eq,VO] at h
  exact⟨⟨.inr (.inr (.inr (.inl ⟨k,h.1.1.1.1⟩))),fun z=>uC h.1.1.1.2,h.1.2⟩,h.2⟩
 split at h
 ·rename_i k
  simp only [Vx,decide_eq_true_eq] at h
  have ha:=Nc h.2
  exact⟨⟨.inr (.inr (.inr (.inr ⟨k,ha⟩))),fun z=>by omega,by rw [ha]; decide⟩,fun a h=>by rw [ha] at h; cases h⟩
 ·cases h
theorem p5 {t:br}(h:ky t=true):BL t.nodes∧1≤t.nodes.length∧0≤t.root∧t.root<t.nodes.length∧∀n∈t.nodes,Mr n:=by
 unfold ky at h
 simp only [Vx,decide_eq_true_eq,VO] at h
 obtain⟨⟨⟨⟨h1,h2⟩,h3⟩,h4⟩,h5⟩:=h
 exact⟨⟨h2,fun n hn=>⟨(p4 (h5 n hn)).1.args,(p4 (h5 n hn)).2⟩⟩,h1,h3,h4,fun n hn=>(p4 (h5 n hn)).1⟩
end Go.Proofs.Ytifafejidnjckaa
namespace Go.Proofs.Ytifafejidnjckaa
open Go Go.R
open Go.IntKind (i64 u64 u8 u32)
structure RX (l:List aq)(R:Nat→Nat→Prop):Prop where
 BK:∀i j,R i j→i<l.length∧j<l.length
 top:∀i j,R i j→Alike (nd l i) (nd l j)
 arg:∀i j,R i j→∀k,k<(nd l i).args.length→R (gt (nd l i).args k).toNat (gt (nd l j).args k).toNat
structure Min (l:List aq)(r:List Int):Prop where
 len:r.length=l.length
 top:∀i j,i<l.length→j<l.length→gt r i=gt r j→Alike (nd l i) (nd l j)
 arg:∀i j,i<l.length→j<l.length→gt r i=gt r j→∀k,k<(nd l i).args.length→gt r (gt (nd l i).args k).toNat=gt r (gt (nd l j).args k).toNat
 max:∀R,RX l R→∀i j,R i j→gt r i=gt r j
theorem rH (a:aq):cT a a=0:=(Alike.refl a).cT
theorem tQ {a b c:aq}(h1:cT a b=0)(h2:cT b c=0):cT a c=0:=by
 have n1:=ja a b
 have n2:=ja b c
 have n3:=ja a c
 have t1:=yf a b c (by omega) (by omega)
 have t2:=yf c b a (by omega) (by omega)
 omega
theorem we {l:List aq}{d:List Int}{k:Nat}:∀j,k≤j→rk l d k=rk l d j→cT (nd l (gt d k)) (nd l (gt d j))=0
 | 0,h,_=>by
   have:k=0:=by omega
   subst this; exact rH _
 | j+1,h,e=>by
  by_cases hk:k=j+1
  ·subst hk; exact rH _
  ·have m1:=vZ l d k j (by omega)
   have e2:rk l d (j+1)=rk l d j+if cT (nd l (gt d j)) (nd l (gt d (j+1)))=0 then 0 else 1:=rfl
   by_cases hc:cT (nd l (gt d j)) (nd l (gt d (j+1)))=0
   ·rw [if_pos hc] at e2
    exact tQ (we j (by omega) (by omega)) hc
   ·rw [if_neg hc] at e2; omega
theorem wg {l:List aq}{d:List Int}{n:Nat}(S:Sg (fun x y=>cT (nd l x) (nd l y)) d 0 n){k q:Nat}(hq:q<n)(h0:cT (nd l (gt d k)) (nd l (gt d q))=0):∀j,k≤j→j≤q→rk l d j=rk l d k
 | 0,h,_=>by
   have:k=0:=by omega
   subst this; rfl
 | j+1,h,hj=>by
  by_cases hk:k=j+1
  ·subst hk; rfl
  ·have ih:=wg S hq h0 j (by omega) (by omega)
   have Ue:cT (nd l (gt d k)) (nd l (gt d j))≤0:=by
    by_cases e:k=j
    ·subst e; rw [rH]; omega
    ·have:0≤cT (nd l (gt d j)) (nd l (gt d k)):=S k j (by omega) (by omega) (by omega)
     have n:=ja (nd l (gt d k)) (nd l (gt d j))
     omega
   have Ug:cT (nd l (gt d (j+1))) (nd l (gt d q))≤0:=by
    by_cases e:j+1=q
    ·subst e; rw [rH]; omega
    ·have:0≤cT (nd l (gt d q)) (nd l (gt d (j+1))):=S (j+1) q (by omega) (by omega) hq
     have n:=ja (nd l (gt d (j+1))) (nd l (gt d q))
     omega
   have Uh:cT (nd l (gt d q)) (nd l (gt d k))≤0:=by have n:=ja (nd l (gt d k)) (nd l (gt d q)); omega
   have Vr:=yf _ _ _ (yf _ _ _ Ug Uh) Ue
   have s1:=S j (j+1) (by omega) (by omega) (by omega)
   have n:=ja (nd l (gt d j)) (nd l (gt d (j+1)))
   have hz:cT (nd l (gt d j)) (nd l (gt d (j+1)))=0:=by
    have s1:0≤cT (nd l (gt d (j+1))) (nd l (gt d j)):=s1
    omega
   show rk l d j+(if cT (nd l (gt d j)) (nd l (gt d (j+1)))=0 then 0 else 1)=_
   rw [if_pos hz,ih]; rfl
def Hx (l:List aq)(out:List Int):Prop:=(∀i j,i<l.length→j<l.length→gt out i=gt out j→cT (nd l i) (nd l j)=0)∧∀R,RX l R→∀i j,R i j→gt out i=gt out j
theorem C1 {l:List aq}{d out:List Int}(hp:d.Perm (ints l.length))(hs:Ord (fun x y=>cT (nd l x) (nd l y)) (ints l.length)→Sg (fun x y=>cT (nd l x) (nd l y)) d 0 l.length)(hg:∀k,k<l.length→gt out (gt d k).toNat=rk l d k):Hx l out:=by
 have S:=hs (J9 _ _)
 have PZ:d.length=l.length:=by rw [hp.length_eq,fm]
 have pos:∀i,i<l.length→∃k,k<l.length∧gt d k=i∧gt out i=rk l d k:=fun i hi=>by
  obtain⟨k,hk,e⟩:=uE (hp.mem_iff.2 (jV.2 (show 0≤(i:Int)∧(i:Int)<l.length by omega)))
  have:=hg k (by omega)
  rw [e,VF] at this
  exact⟨k,by omega,e,this⟩
 refine⟨fun i j hi hj e=>?_,fun R B i j hR=>?_⟩
 ·obtain⟨k,hk,ek,Qd⟩:=pos i hi
  obtain⟨q,hq,eq,Qe⟩:=pos j hj
  rw [Qd,Qe] at e
  rw [←ek,←eq]
  rcases Nat.le_total k q with h | h
  ·exact we q h (by omega)
  ·have:=we (l:=l) (d:=d) k h (by omega)
   have n:=ja (nd l (gt d k)) (nd l (gt d q))
   omega
 ·obtain⟨hi,hj⟩:=B.BK i j hR
  obtain⟨k,hk,ek,Qd⟩:=pos i hi
  obtain⟨q,hq,eq,Qe⟩:=pos j hj
  have h0:=(B.top i j hR).cT
  rw [←ek,←eq] at h0
  rw [Qd,Qe]
  rcases Nat.le_total k q with h | h
  ·rw [wg S hq h0 q h (Vy _)]
  ·have n:=ja (nd l (gt d k)) (nd l (gt d q))
   rw [wg S hk (by omega) k h (Vy _)]
theorem FL {l:List aq}(ok:BL l){out:List Int}{i j:Nat}(h1:(nd l i).args.length=(nd l j).args.length)(e:key out (nd l i) i=key out (nd l j) j):gt out i=gt out j∧∀k,k<(nd l i).args.length→gt out (gt (nd l i).args k).toNat=gt out (gt (nd l j).args k).toNat:=by
 unfold key at e
 have e1:=List.cons.inj e
 refine⟨by omega,fun k hk=>?_⟩
 have e2:=e1.2
 rw [h1] at e2
 have e3:=List.append_cancel_right e2
 have e4:=congrArg (fun z=>z[k]?) e3
 simp only [Wz] at e4
 rw [en hk,en (by omega)] at e4
 simp only [VA,Vw] at e4
 omega
theorem FM {l:List aq}(ok:BL l)(out:List Int)(many:Nat)(ks:List (List Int))(next:List Int)(P:Part l.length out many)(I:Hx l out)(K:pY l out l.length ks)(hn:next.length=l.length)
  (hg:∀i,i<l.length→gt next i=(ks.idxOf (key out (nd l i) i):Int)):Hx l next:=by
 refine⟨fun i j hi hj e=>?_,fun R B i j hR=>?_⟩
 ·rw [hg i hi,hg j hj] at e
  have e:ks.idxOf (key out (nd l i) i)=ks.idxOf (key out (nd l j) j):=by omega
  have m1:=WW ((K.mem _).2 ⟨i,hi,rfl⟩)
  have m2:=WW ((K.mem _).2 ⟨j,hj,rfl⟩)
  have g1:=List.getElem_idxOf m1
  have g2:=List.getElem_idxOf m2
  have g3:key out (nd l i) i=key out (nd l j) j:=by rw [←g1,←g2]; congr 1
  exact I.1 i j hi hj (by have:=(List.cons.inj g3).1; omega)
 ·obtain⟨hi,hj⟩:=B.BK i j hR
  rw [hg i hi,hg j hj]
  have hk:key out (nd l i) i=key out (nd l j) j:=by
   have hl:=(B.top i j hR).len
   unfold key
   rw [I.2 R B i j hR,hl]
   congr 2
   apply W2 fun k=>?_
   simp only [Wz]
   by_cases h:k<(nd l i).args.length
   ·rw [en h,en (by omega)]
    simp only [VA,Vw]
    rw [I.2 R B _ _ (B.arg i j hR k h)]
   ·rw [V7 (by omega),V7 (by omega)]
  rw [hk]
theorem Ka {l:List aq}{r:List Int}{many:Nat}{ks:List (List Int)}(P:Part l.length r many)(K:pY l r l.length ks)(z8:ks.length=many+1){i j:Nat}(hi:i<l.length)(hj:j<l.length)(e:gt r i=gt r j):key r (nd l i) i=key r (nd l j) j:=by
 by_cases hne:key r (nd l i) i=key r (nd l j) j
 ·exact hne
 ·exfalso
  have Ui:=(K.mem _).2 ⟨i,hi,rfl⟩
  have Uj:=(K.mem _).2 ⟨j,hj,rfl⟩
  have hn:((WD (many+1)).map fun v:Nat=>((v:Int)+1)).Nodup:=by
   unfold List.Nodup
   rw [List.pairwise_map]
   exact List.Pairwise.imp (fun h=>by omega) List.nodup_range
  have:=hn.length_le_of_subset (l₂:=(ks.erase (key r (nd l j) j)).map fun k=>k.headD 0) (fun x hx=>by
   obtain⟨v,hv,rfl⟩:=V8.1 hx
   obtain⟨q,hq,h⟩:=P.RU v (by have:=WJ.1 hv; omega)
   by_cases Gc:key r (nd l q) q=key r (nd l j) j
   ·refine V8.2 ⟨key r (nd l i) i,(List.mem_erase_of_ne hne).2 Ui,?_⟩
    have h1:=(List.cons.inj Gc).1
    simp [key,e]
    omega
   ·exact V8.2 ⟨_,(List.mem_erase_of_ne Gc).2 ((K.mem _).2 ⟨q,hq,rfl⟩),by simp [key,h]⟩)
  rw [VL,VL,List.length_range,List.length_erase_of_mem Uj] at this
  omega
theorem uH {l:List aq}(hT:∀n∈l,Mr n){i j:Nat}(hi:i<l.length)(hj:j<l.length)(h:cT (nd l i) (nd l j)=0):Alike (nd l i) (nd l j):=by
 have Ti:=hT _ (kz (i:=(i:Int)) (by omega) (by omega))
 have Tj:=hT _ (kz (i:=(j:Int)) (by omega) (by omega))
 have a3:∀{n:aq},Mr n→n.kind=3→n.int=0:=fun T h=>by rcases T.kind with z | z | z | z | z<;>(have:=z.1; first | omega | exact z.2)
 have a0:∀{n:aq},Mr n→n.kind≠3→n.args=[]:=fun T h=>by
  rcases T.kind with z | z | z | z | z
  ·exact z.2.2.2
  ·exact z.2.2.2
  ·exact z.2.2
  ·exact absurd z.1 h
  ·exact z.2
 exact FJ h (a3 Ti) (a3 Tj) (a0 Ti) (a0 Tj)
theorem zK {m:Nat}(hm:2 ^ 41≤m){t:br}(h:ky t=true) :
  ∃cls ns,fq.f m t=some ⟨ns,0⟩∧Min t.nodes cls∧Ps cls t.nodes [] (tP cls t.nodes m t.root []) [] ns∧iz cls t.root∈(tP cls t.nodes m t.root []).map (iz cls):=by
 obtain⟨ok,h1,r0,r1,hT⟩:=p5 h
 obtain⟨cls,many,ks,ns,e,P,I,K,z8,Q,hr⟩:=zJ hm ok h1 r0 r1 (Hx t.nodes) (fun d out hp hs hg=>C1 hp hs hg) (fun out many ks next P I K hn hg=>FM ok out many ks next P I K hn hg)
 refine⟨cls,ns,e,⟨P.len,fun i j hi hj e=>uH hT hi hj (I.1 i j hi hj e),fun i j hi hj e k hk=>?_,I.2⟩,Q,hr⟩
 have hA:=uH hT hi hj (I.1 i j hi hj e)
 exact (FL ok hA.len (Ka P K z8 hi hj e)).2 k hk
end Go.Proofs.Ytifafejidnjckaa
namespace Go.Proofs.Ytifafejidnjckaa
open Go Go.R
open Go.IntKind (i64 u64 u8 u32)
def gb (l:List Bool)(k:Nat):Bool:=l.getD k false
end Go.Proofs.Ytifafejidnjckaa
