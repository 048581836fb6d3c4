/- Part of the proof: PS4, PS5, PT7, PT8, PT9, PT10, PR2, PR3, PR4, PR5, PR6, PR9, PT12, PA7, PB1, PB2. -/
import Derived.Test.YtifafejidnjckaaGreatK12
set_option linter.unusedVariables false
set_option linter.unusedSimpArgs false
set_option maxRecDepth 100000
open Bool renaming and_eq_true → abA, false_eq_true → abK, or_eq_true → acu, not_true → acO
open ByteArray renaming mk → ab7
open Int renaming toNat_natCast → abC
open List renaming getElem?_eq_getElem → abD, length_set → abF, getElem?_eq_some_iff → abG, mem_singleton → abI, mem_of_getElem? → abJ, length_map → abL, replicate → abM, getElem?_append_right → abN, getD_eq_getElem?_getD → abO, mem_append → abP, length_append → abQ, length_cons → abR, getElem?_append_left → abS, drop_eq_getElem_cons → abT, getElem?_eq_none → abU, map_append → abV, all_eq_true → abW, append_assoc → abX, mem_map → abZ, mem_cons → ab0, getElem?_map → ab1, take_succ_eq_append_getElem → ab2, length_nil → ab4, map_cons → ab5, mem_append_left → ab6, take_append_of_le_length → aca, take_length → ace, cons_append → acg, length_take → acm, drop_zero → acn, all_cons → acr, idxOf_lt_length_of_mem → acs, ext_getElem? → acx, map_congr_left → acA, nodup_append → acB, getElem?_of_mem → acG, take_add_one → acI, set_append_right → acM, idxOf_append → acR, range → acX, mem_range → ac0, length_replicate → ac7
open Nat renaming le_refl → abB, zero_add → abY, sub_self → acE, mul_le_mul_right → acF, add_comm → ac8
open Option renaming bind_some → abw, map_some → abE
open Option.some renaming injEq → abz, inj → ab8
open Prod.mk renaming injEq → abH
open UInt8 renaming lt_iff_toNat_lt → acV
namespace Go.Proofs.YtifafejidnjckaaGreat
open Go Go.R
open Go.IntKind (i64 u64 u8 u32)
section
variable {m:Nat}{cmp:Int→Int→Option Int}{c:Int→Int→Int}
theorem vX {l d:List Int}{a q b M E x:Nat}(h1:a≤x)(h2:x≤M)(h3:x≤q)(h4:q≤E)(h5:E≤b)(h6:E+x=M+q)(hb:b≤l.length)
  (R:Pw l d x (q - x) (E - q)) (O:Ord c l) (F1:a<x→E<b→0≤c (gt l E) (gt l (x - 1))) (F2:x<q→q<E→c (gt l (E - 1)) (gt l x)<0)
  (S1:Sg c l a q) (S2:Sg c l q b) :
  Sg c d a x∧Sg c d x M∧Sg c d M E∧Sg c d E b∧(∀i j,a≤i→i<M→M≤j→j<b→0≤c (gt d j) (gt d i)):=by
 obtain⟨R1,R2,R3,R4⟩:=R
 have g1:∀k,k<x→gt d k=gt l k:=fun k hk=>R4 k (.inl hk)
 have g2:∀k,x≤k→k<M→gt d k=gt l (q+(k - x)):=fun k hk rK=>by
  have:=R2 (k - x) (by omega)
  rw [show x+(k - x)=k by omega,show x+(q - x)+(k - x)=q+(k - x) by omega] at this
  exact this
 have g3:∀k,M≤k→k<E→gt d k=gt l (x+(k - M)):=fun k hk rK=>by
  have:=R3 (k - M) (by omega)
  rw [show x+(E - q)+(k - M)=k by omega] at this
  exact this
 have g4:∀k,E≤k→gt d k=gt l k:=fun k hk=>R4 k (.inr (by omega))
 refine⟨fun i j k1 k2 k3=>?_,fun i j k1 k2 k3=>?_,fun i j k1 k2 k3=>?_,fun i j k1 k2 k3=>?_,fun i j k1 k2 k3 k4=>?_⟩
 ·rw [g1 i (by omega),g1 j (by omega)]; exact S1 _ _ k1 k2 (by omega)
 ·rw [g2 i (by omega) (by omega),g2 j (by omega) (by omega)]; exact S2 _ _ (by omega) (by omega) (by omega)
 ·rw [g3 i (by omega) (by omega),g3 j (by omega) (by omega)]; exact S1 _ _ (by omega) (by omega) (by omega)
 ·rw [g4 i (by omega),g4 j (by omega)]; exact S2 _ _ (by omega) (by omega) (by omega)
 ·by_cases hi:i<x
  ·rw [g1 i hi]
   by_cases hj:j<E
   ·rw [g3 j k3 hj]; exact S1 _ _ k1 (by omega) (by omega)
   ·rw [g4 j (by omega)]
    have f1:=F1 (by omega) (by omega)
    have f2:=S1.le O k1 (show i≤x - 1 by omega) (by omega) (by omega)
    have f3:=S2.le O (show q≤E from h4) (show E≤j by omega) k4 hb
    exact O.tr _ (a8 (by omega)) _ (a8 (show E<l.length by omega)) _ (a8 (by omega)) (O.tr _ (a8 (by omega)) _ (a8 (show x - 1<l.length by omega)) _ (a8 (by omega)) f2 f1) f3
  ·rw [g2 i (by omega) k2]
   by_cases hj:j<E
   ·rw [g3 j k3 hj]
    have f1:=O.Py _ (a8 (show E - 1<l.length by omega)) _ (a8 (show x<l.length by omega)) (F2 (by omega) (by omega))
    have f2:=S2.le O (show q≤q+(i - x) by omega) (show q+(i - x)≤E - 1 by omega) (by omega) hb
    have f3:=S1.le O h1 (show x≤x+(j - M) by omega) (by omega) (by omega)
    exact O.tr _ (a8 (by omega)) _ (a8 (show x<l.length by omega)) _ (a8 (by omega)) (O.tr _ (a8 (by omega)) _ (a8 (show E - 1<l.length by omega)) _ (a8 (by omega)) f2 f1) f3
   ·rw [g4 j (by omega)]; exact S2 _ _ (by omega) (by omega) k4
theorem Jd {l:List Int}{x i j:Nat}(h:i=0∨j=0):Pw l l x i j:=
 ⟨List.Perm.refl _,fun k hk=>by rw [show i=0 by omega,Nat.add_zero],fun k hk=>by rw [show j=0 by omega,Nat.add_zero],fun _ _=>rfl⟩
theorem OE {l d:List Int}{x i j a b:Nat}(R:Pw l d x i j)(h1:a≤x)(h2:x+i+j≤b):Mv a b l d:=by
 obtain⟨R1,R2,R3,R4⟩:=R
 refine⟨R1,fun k hk=>R4 k (by omega),fun k k1 k2=>?_⟩
 by_cases g1:k<x∨x+i+j≤k
 ·exact⟨k,k1,k2,R4 k g1⟩
 ·by_cases g2:k<x+j
  ·have:=R2 (k - x) (by omega)
   rw [show x+(k - x)=k by omega] at this
   exact⟨_,by omega,by omega,this⟩
  ·have:=R3 (k - x - j) (by omega)
   rw [show x+j+(k - x - j)=k by omega] at this
   exact⟨_,by omega,by omega,this⟩
theorem rj (hm:2 ^ 41≤m):∀(f:Nat) (l:List Int) (a q b:Nat),b - a<f→a<q→q<b→b≤l.length→l.length<2 ^ 40→Cm cmp c l→
  ∃d,aQ.f m f l (a:Int) (q:Int) (b:Int) cmp=some d∧Mv a b l d∧(Ord c l→Sg c l a q→Sg c l q b→Sg c d a b)
 | 0,l,a,q,b,hf,_,_,_,_,_=>absurd hf (by omega)
 | f+1,l,a,q,b,hf,h1,h2,h3,hs,C=>by
  have wF:(2:Nat) ^ 40=1099511627776:=by decide
  have wZ:(2:Nat) ^ 41=2199023255552:=by decide
  have VA:(2:Nat) ^ 42=4398046511104:=by decide
  unfold aQ.f
  unfold aQ.b
  have e1:i64.wrap ((q:Int) - (a:Int))=((q - a:Nat):Int):=by rw [bl (by omega) (by omega)]; omega
  have e2:i64.wrap ((b:Int) - (q:Int))=((b - q:Nat):Int):=by rw [bl (by omega) (by omega)]; omega
  have hM:=Br (a:=a) (b:=b) (by omega)
  rw [e1,e2,hM]
  by_cases VB:q - a=1
  ·obtain⟨x,k1,k2,k3,k4,k5⟩:=Dh (m:=m) (a:=a) (by omega) hs C m q b (by omega) (by omega) h3
   obtain⟨d,y,g1,g2,g3⟩:=Jb (m:=m) (l:=l) (a:=a) (x:=x) (by omega) (by omega) hs m a l (by omega) (abB _) (by omega) Mv.refl (fun t=>by rw [if_neg (by omega)]; split<;>simp_all)
   rw [if_pos (by simp; omega),k1,abw]
   dsimp only
   rw [g1]
   refine⟨d,rfl,g2.wide (abB _) k3,fun O S1 S2 i j r1 r2 r3=>?_⟩
   have A1:∀t,a≤t→t+1<x→gt d t=gt l (t+1):=fun t w1 w2=>by rw [g3 t,if_pos ⟨w1,w2⟩]
   have A2:∀t,t+1=x→gt d t=gt l a:=fun t w1=>by rw [g3 t,if_neg (by omega),if_pos w1]
   have A3:∀t,x≤t→gt d t=gt l t:=fun t w1=>by rw [g3 t,if_neg (by omega),if_neg (by omega)]
   by_cases i1:i+1<x
   ·rw [A1 i r1 i1]
    by_cases j1:j+1<x
    ·rw [A1 j (by omega) j1]; exact S2 _ _ (by omega) (by omega) (by omega)
    ·have f1:=O.Py _ (a8 (show x - 1<l.length by omega)) _ (a8 (show a<l.length by omega)) (k4 (by omega))
     have f2:=S2.le O (show q≤i+1 by omega) (show i+1≤x - 1 by omega) (by omega) h3
     by_cases j2:j+1=x
     ·rw [A2 j j2]
      exact O.tr _ (a8 (by omega)) _ (a8 (show x - 1<l.length by omega)) _ (a8 (by omega)) f2 f1
     ·rw [A3 j (by omega)]; exact S2 _ _ (by omega) (by omega) (by omega)
   ·rw [A3 j (by omega)]
    by_cases i2:i+1=x
    ·rw [A2 i i2]
     have f1:=k5 (by omega)
     have f2:=S2.le O (show q≤x by omega) (show x≤j by omega) r3 h3
     exact O.tr _ (a8 (by omega)) _ (a8 (show x<l.length by omega)) _ (a8 (by omega)) f1 f2
    ·rw [A3 i (by omega)]; exact S2 _ _ (by omega) r2 r3
  rw [if_neg (by simp; omega)]
  by_cases hb1:b - q=1
  ·obtain⟨x,k1,k2,k3,k4,k5⟩:=Di (m:=m) (q:=q) (by omega) hs C m a q (by omega) (by omega) (by omega)
   obtain⟨d,y,g1,g2,g3⟩:=Jc (m:=m) (l:=l) (q:=q) (x:=x) (by omega) (by omega) hs m q l (by omega) (by omega) (abB _) Mv.refl (fun t=>by rw [if_neg (by omega)]; split<;>simp_all)
   rw [if_pos (by simp; omega),k1,abw]
   dsimp only
   rw [g1]
   refine⟨d,rfl,g2.wide k2 (by omega),fun O S1 S2 i j r1 r2 r3=>?_⟩
   have A1:∀t,x<t→t≤q→gt d t=gt l (t - 1):=fun t w1 w2=>by rw [g3 t,if_pos ⟨w1,w2⟩]
   have A2:gt d x=gt l q:=by rw [g3 x,if_neg (by omega),if_pos rfl]
   have A3:∀t,t<x→gt d t=gt l t:=fun t w1=>by rw [g3 t,if_neg (by omega),if_neg (by omega)]
   by_cases i1:x<i
   ·rw [A1 i i1 (by omega),A1 j (by omega) (by omega)]
    exact S1 _ _ (by omega) (by omega) (by omega)
   ·by_cases i2:i=x
    ·subst i2
     rw [A2,A1 j (by omega) (by omega)]
     have f1:=O.Py _ (a8 (show q<l.length by omega)) _ (a8 (show i<l.length by omega)) (k5 (by omega))
     have f2:=S1.le O r1 (show i≤j - 1 by omega) (by omega) (by omega)
     exact O.tr _ (a8 (by omega)) _ (a8 (show i<l.length by omega)) _ (a8 (by omega)) f1 f2
    ·rw [A3 i (by omega)]
     by_cases j1:x<j
     ·rw [A1 j j1 (by omega)]
      exact S1.le O r1 (by omega) (by omega) (by omega)
     ·have f1:=k4 (by omega)
      have f2:=S1.le O r1 (show i≤x - 1 by omega) (by omega) (by omega)
      by_cases j2:j=x
      ·subst j2
       rw [A2]
       exact O.tr _ (a8 (by omega)) _ (a8 (show j - 1<l.length by omega)) _ (a8 (by omega)) f2 f1
      ·rw [A3 j (by omega)]; exact S1 _ _ r1 r2 (by omega)
  rw [if_neg (by simp; omega)]
  refine OD ?_
  intro z hz
  have OF:∃s r:Nat,z=((s:Int),(r:Int))∧((q > (a+b) / 2∧s=(a+b) / 2+q - b∧r=(a+b) / 2)∨(q≤(a+b) / 2∧s=a∧r=q)):=by
   rcases hz with⟨hc,rfl⟩| ⟨hc,rfl⟩
   ·refine⟨(a+b) / 2+q - b,(a+b) / 2,?_,.inl ⟨by simp only [decide_eq_true_eq] at hc; omega,rfl,rfl⟩⟩
    simp only [abH,and_true]
    simp only [decide_eq_true_eq] at hc
    rw [bl (x:=(((a+b) / 2:Nat):Int)+(q:Int)) (by omega) (by omega),bl (by omega) (by omega)]
    omega
   ·refine⟨a,q,rfl,.inr ⟨?_,rfl,rfl⟩⟩
    simp only [decide_eq_false_iff_not] at hc
    omega
  obtain⟨s,r,rfl,OF⟩:=OF
  clear hz
  dsimp only
  obtain⟨x,k1,k2,k3,k4,k5⟩:=Dj (m:=m) (a:=a) (b:=b) (q:=q) (by omega) hs C m s r (by omega) (by omega) (by omega) (by omega) (by omega)
  rw [k1,abw]
  dsimp only
  generalize hMM:(a+b) / 2=M at *
  obtain⟨E,hE⟩:∃E,E=M+q - x:=⟨_,rfl⟩
  have eE:i64.wrap (i64.wrap ((M:Int)+(q:Int)) - (x:Int))=(E:Int):=by
   rw [bl (x:=(M:Int)+(q:Int)) (by omega) (by omega),bl (by omega) (by omega)]
   omega
  rw [eE]
  rw [←hE] at k4 k5
  have c1:a≤x:=by omega
  have c2:x≤M:=by omega
  have c3:x≤q:=by omega
  have c4:q≤E:=by omega
  have c5:E≤b:=by omega
  have c6:E+x=M+q:=by omega
  have c7:M≤E:=by omega
  have F1:a<x→E<b→0≤c (gt l E) (gt l (x - 1)):=fun _ _=>k4 (by omega)
  have F2:x<q→q<E→c (gt l (E - 1)) (gt l x)<0:=fun _ _=>k5 (by omega)
  refine Ja (fun d=>Pw l d x (q - x) (E - q)) (fun u1 u2=>?_) (fun u=>?_) ?_
  ·simp only [decide_eq_true_eq] at u1 u2
   exact I5 hm (by omega) (by omega) (by omega) hs
  ·simp only [decide_eq_true_eq] at u
   exact Jd (by omega)
  intro d5 R
  try dsimp only
  have M5:Mv a b l d5:=OE R c1 (by omega)
  have l5:=M5.length
  refine Ja (fun d=>Mv a M d5 d∧(Ord c l→Sg c l a q→Sg c l q b→Sg c d a M)) (fun u1 u2=>?_) (fun u=>?_) ?_
  ·simp only [decide_eq_true_eq] at u1 u2
   obtain⟨d,g1,g2,g3⟩:=rj hm f d5 a x M (by omega) (by omega) (by omega) (by omega) (by omega) (C.perm M5.perm)
   refine⟨d,g1,g2,fun O S1 S2=>?_⟩
   obtain⟨v1,v2,v3,v4,v5⟩:=vX c1 c2 c3 c4 c5 c6 h3 R O F1 F2 S1 S2
   exact g3 (O.perm M5.perm) v1 v2
  ·simp only [decide_eq_true_eq] at u
   refine⟨Mv.refl,fun O S1 S2=>?_⟩
   obtain⟨v1,v2,v3,v4,v5⟩:=vX c1 c2 c3 c4 c5 c6 h3 R O F1 F2 S1 S2
   by_cases ua:a=x
   ·rw [ua]; exact v2
   ·rw [show M=x by omega]; exact v1
  rintro d6 ⟨M6,S6⟩
  try dsimp only
  have l6:=M6.length
  have VC:=M5.trans (M6.wide (abB _) (by omega))
  have fin:∀d,Mv M b d6 d→(Ord c l→Sg c l a q→Sg c l q b→Sg c d M b)→Mv a b l d∧(Ord c l→Sg c l a q→Sg c l q b→Sg c d a b):=by
   intro d M7 S7
   refine⟨VC.trans (M7.wide (by omega) (abB _)),fun O S1 S2 i j r1 r2 r3=>?_⟩
   obtain⟨v1,v2,v3,v4,v5⟩:=vX c1 c2 c3 c4 c5 c6 h3 R O F1 F2 S1 S2
   by_cases hj:j<M
   ·rw [M7.out i (by omega),M7.out j (by omega)]
    exact S6 O S1 S2 _ _ r1 r2 hj
   ·by_cases hi:M≤i
    ·exact S7 O S1 S2 _ _ hi r2 r3
    ·obtain⟨j',y1,y2,y3⟩:=M7.im j (by omega) r3
     obtain⟨i',w1,w2,w3⟩:=M6.im i r1 (by omega)
     rw [M7.out i (by omega),y3,M6.out j' (by omega),w3]
     exact v5 _ _ w1 w2 y1 y2
  refine Vy (fun u1 u2=>?_) (fun u=>?_)
  ·simp only [decide_eq_true_eq] at u1 u2
   obtain⟨d,g1,g2,g3⟩:=rj hm f d6 M E b (by omega) (by omega) (by omega) (by omega) (by omega) (C.perm VC.perm)
   refine⟨d,g1,fin d g2 fun O S1 S2=>?_⟩
   obtain⟨v1,v2,v3,v4,v5⟩:=vX c1 c2 c3 c4 c5 c6 h3 R O F1 F2 S1 S2
   refine g3 (O.perm VC.perm) (fun i j y1 y2 y3=>?_) (fun i j y1 y2 y3=>?_)
   ·rw [M6.out i (by omega),M6.out j (by omega)]; exact v3 _ _ y1 y2 y3
   ·rw [M6.out i (by omega),M6.out j (by omega)]; exact v4 _ _ y1 y2 y3
  ·simp only [decide_eq_true_eq] at u
   refine fin d6 Mv.refl fun O S1 S2 i j y1 y2 y3=>?_
   obtain⟨v1,v2,v3,v4,v5⟩:=vX c1 c2 c3 c4 c5 c6 h3 R O F1 F2 S1 S2
   rw [M6.out i (by omega),M6.out j (by omega)]
   by_cases ue:M=E
   ·exact v4 _ _ (by omega) y2 y3
   ·exact v3 _ _ y1 y2 (by omega)
end
end Go.Proofs.YtifafejidnjckaaGreat
namespace Go.Proofs.YtifafejidnjckaaGreat
open Go Go.R
open Go.IntKind (i64 u64 u8 u32)
section
variable {m:Nat}{cmp:Int→Int→Option Int}{c:Int→Int→Int}
def RV (c:Int→Int→Int)(d:List Int)(bs n:Nat):Prop:=∀k i j,k*bs≤i→i<j→j<k*bs+bs→j<n→0≤c (gt d j) (gt d i)
theorem Je (hm:2 ^ 41≤m){n:Nat}{l:List Int}(hn:n=l.length)(hs:l.length<2 ^ 40)(C:Cm cmp c l):∀(f t:Nat) (d:List Int),n - 20*t<f→20*t≤n→Mv 0 (20*t) l d→
  (Ord c l→∀k,k<t→Sg c d (20*k) (20*k+20))→
  ∃d' t' y,cm.l0 m (n:Int) cmp f d ((20*t:Nat):Int) ((20*t+20:Nat):Int)=some (d',((20*t':Nat):Int),y)∧20*t'≤n∧n<20*t'+20∧Mv 0 (20*t') l d'∧(Ord c l→∀k,k<t'→Sg c d' (20*k) (20*k+20))
 | 0,t,d,hf,_,_,_=>absurd hf (by omega)
 | f+1,t,d,hf,h1,M,S=>by
  have wF:(2:Nat) ^ 40=1099511627776:=by decide
  have wZ:(2:Nat) ^ 41=2199023255552:=by decide
  have hl:=M.length
  unfold cm.l0
  by_cases h:20*t+20≤n
  ·obtain⟨d1,e1,M1,S1⟩:=Bx (a:=20*t) (b:=20*t+20) (cmp:=cmp) (c:=c) hm (l:=d) (by omega) (by omega) (by omega) (C.perm M.perm)
   rw [if_pos (by simp only [decide_eq_true_eq]; omega),e1,abw,bl (x:=((20*t+20:Nat):Int)+20) (by omega) (by omega)]
   have:=Je hm hn hs C f (t+1) d1 (by omega) (by omega) ((M.wide (abB _) (by omega)).trans (M1.wide (by omega) (by omega))) (fun O k hk i j k1 k2 k3=>by
    by_cases Kq:k=t
    ·subst Kq; exact S1 (O.perm M.perm) _ _ k1 k2 k3
    ·rw [M1.out i (by omega),M1.out j (by omega)]; exact S O k (by omega) _ _ k1 k2 k3)
   rw [show ((20*(t+1):Nat):Int)=((20*t+20:Nat):Int) by omega,show ((20*(t+1)+20:Nat):Int)=((20*t+20:Nat):Int)+20 by omega] at this
   exact this
  ·exact⟨d,t,_,by rw [if_neg (by simp only [decide_eq_true_eq]; omega)],h1,by omega,M,S⟩
theorem Jf (hm:2 ^ 41≤m){n bs:Nat}{l:List Int}(hn:n=l.length)(hs:l.length<2 ^ 40)(hb:0<bs)(Hy:bs<n)(C:Cm cmp c l)(B:Ord c l→RV c l bs n):∀(f t:Nat) (d:List Int),n - t*(2*bs)<f→t*(2*bs)≤n→Mv 0 (t*(2*bs)) l d→
  (Ord c l→∀k,k<t→Sg c d (k*(2*bs)) (k*(2*bs)+2*bs))→
  ∃d' t' y,cm.l2 m (n:Int) cmp (bs:Int) f d ((t*(2*bs):Nat):Int) ((t*(2*bs)+2*bs:Nat):Int)=some (d',((t'*(2*bs):Nat):Int),y)∧t'*(2*bs)≤n∧n<t'*(2*bs)+2*bs∧Mv 0 (t'*(2*bs)) l d'∧(Ord c l→∀k,k<t'→Sg c d' (k*(2*bs)) (k*(2*bs)+2*bs))
 | 0,t,d,hf,_,_,_=>absurd hf (by omega)
 | f+1,t,d,hf,h1,M,S=>by
  have wF:(2:Nat) ^ 40=1099511627776:=by decide
  have wZ:(2:Nat) ^ 41=2199023255552:=by decide
  have hl:=M.length
  unfold cm.l2
  have ht:(t+1)*(2*bs)=t*(2*bs)+2*bs:=Nat.succ_mul _ _
  have q1:(2*t)*bs=t*(2*bs):=by rw [Nat.mul_assoc,Nat.mul_left_comm]
  have q2:(2*t+1)*bs=t*(2*bs)+bs:=by rw [Nat.succ_mul,q1]
  by_cases h:t*(2*bs)+2*bs≤n
  ·have S0:Ord c l→Sg c d (t*(2*bs)) (t*(2*bs)+bs):=fun O i j k1 k2 k3=>by
    rw [M.out i (by omega),M.out j (by omega)]; exact B O (2*t) i j (by omega) k2 (by omega) (by omega)
   have Z0:Ord c l→Sg c d (t*(2*bs)+bs) (t*(2*bs)+2*bs):=fun O i j k1 k2 k3=>by
    rw [M.out i (by omega),M.out j (by omega)]; exact B O (2*t+1) i j (by omega) k2 (by omega) (by omega)
   have hk:∀k,k<t→k*(2*bs)+2*bs≤t*(2*bs):=fun k hk=>by
    rw [←Nat.succ_mul]; exact acF _ hk
   generalize hA:t*(2*bs)=A at *
   obtain⟨d1,e1,M1,S1⟩:=rj (cmp:=cmp) (c:=c) hm m d A (A+bs) (A+2*bs) (by omega) (by omega) (by omega) (by omega) (by omega) (C.perm M.perm)
   have e0:i64.wrap ((A:Int)+(bs:Int))=((A+bs:Nat):Int):=by rw [bl (by omega) (by omega)]; omega
   have e2:i64.wrap ((2:Int)*(bs:Int))=((2*bs:Nat):Int):=by rw [bl (by omega) (by omega)]; omega
   have e3:i64.wrap (((A+2*bs:Nat):Int)+((2*bs:Nat):Int))=((A+2*bs+2*bs:Nat):Int):=by rw [bl (by omega) (by omega)]; omega
   rw [if_pos (by simp only [decide_eq_true_eq]; omega),e0,e1,abw,e2,e3]
   have:=Jf hm hn hs hb Hy C B f (t+1) d1 (by omega) (by omega) (by rw [ht]; exact (M.wide (abB _) (by omega)).trans (M1.wide (by omega) (by omega))) (fun O k rK i j k1 k2 k3=>by
    by_cases Kq:k=t
    ·subst Kq; rw [hA] at k1 k3; exact S1 (O.perm M.perm) (S0 O) (Z0 O) _ _ k1 k2 k3
    ·have:=hk k (by omega)
     rw [M1.out i (by omega),M1.out j (by omega)]; exact S O k (by omega) _ _ k1 k2 k3)
   rw [ht] at this
   exact this
  ·exact⟨d,t,_,by rw [if_neg (by simp only [decide_eq_true_eq]; omega)],h1,by omega,M,S⟩
theorem Dk (hm:2 ^ 41≤m){n:Nat}:∀(f bs:Nat) (l:List Int),n=l.length→l.length<2 ^ 40→Cm cmp c l→n - bs<f→0<bs→bs<2 ^ 42→(Ord c l→RV c l bs n)→
  ∃d y,cm.l1 m (n:Int) cmp f l (bs:Int)=some (d,y)∧d.Perm l∧(Ord c l→Sg c d 0 n)
 | 0,bs,l,_,_,_,hf,_,_,_=>absurd hf (by omega)
 | f+1,bs,l,hn,hs,C,hf,hb,hb2,B=>by
  have wF:(2:Nat) ^ 40=1099511627776:=by decide
  have wZ:(2:Nat) ^ 41=2199023255552:=by decide
  have VA:(2:Nat) ^ 42=4398046511104:=by decide
  unfold cm.l1
  by_cases h:bs<n
  ·have e2:i64.wrap ((2:Int)*(bs:Int))=((2*bs:Nat):Int):=by rw [bl (by omega) (by omega)]; omega
   have e3:i64.wrap ((bs:Int)*(2:Int))=((2*bs:Nat):Int):=by rw [bl (by omega) (by omega)]; omega
   obtain⟨d1,t,y,k1,k2,k3,M1,S1⟩:=Jf (cmp:=cmp) (c:=c) hm hn hs hb h C B m 0 l (by omega) (by omega) Mv.refl (fun O k hk=>absurd hk (by omega))
   have l1:=M1.length
   simp only [Nat.zero_mul,abY] at k1
   have k1:cm.l2 m (n:Int) cmp (bs:Int) m l (0:Int) ((2*bs:Nat):Int)=_:=k1
   rw [if_pos (by simp only [decide_eq_true_eq]; omega),e2,k1,abw]
   dsimp only
   rw [e3]
   have q1:(2*t)*bs=t*(2*bs):=by rw [Nat.mul_assoc,Nat.mul_left_comm]
   have q2:(2*t+1)*bs=t*(2*bs)+bs:=by rw [Nat.succ_mul,q1]
   have hk:∀k,k<t→k*(2*bs)+2*bs≤t*(2*bs):=fun k hk=>by
    rw [←Nat.succ_mul]; exact acF _ hk
   have rK:∀k,t<k→t*(2*bs)+2*bs≤k*(2*bs):=fun k hk=>by
    rw [←Nat.succ_mul]; exact acF _ hk
   have e0:i64.wrap (((t*(2*bs):Nat):Int)+(bs:Int))=((t*(2*bs)+bs:Nat):Int):=by rw [bl (by omega) (by omega)]; omega
   rw [e0]
   by_cases h2:t*(2*bs)+bs<n
   ·obtain⟨d2,e4,M2,S2⟩:=rj (cmp:=cmp) (c:=c) hm m d1 (t*(2*bs)) (t*(2*bs)+bs) n (by omega) (by omega) (by omega) (by omega) (by omega) (C.perm M1.perm)
    rw [if_pos (by simp only [decide_eq_true_eq]; omega),e4,abw]
    have P2:=M2.perm.trans M1.perm
    obtain⟨d,y,g1,g2,g3⟩:=Dk (n:=n) hm f (2*bs) d2 (by have:=P2.length_eq; omega) (by have:=P2.length_eq; omega) (C.perm P2) (by omega) (by omega) (by omega) (fun O k i j w1 w2 w3 w4=>by
     have O:=O.perm P2.symm
     by_cases u1:k<t
     ·have:=hk k u1
      rw [M2.out i (by omega),M2.out j (by omega)]; exact S1 O k u1 _ _ w1 w2 w3
     ·by_cases u2:k=t
      ·subst u2
       refine S2 (O.perm M1.perm) (fun i j x1 x2 x3=>?_) (fun i j x1 x2 x3=>?_) _ _ w1 w2 w4
       ·rw [M1.out i (by omega),M1.out j (by omega)]; exact B O (2*k) i j (by omega) x2 (by omega) (by omega)
       ·rw [M1.out i (by omega),M1.out j (by omega)]; exact B O (2*k+1) i j (by omega) x2 (by omega) (by omega)
      ·have:=rK k (by omega); omega)
    exact⟨d,y,g1,g2.trans P2,fun O=>g3 (O.perm P2)⟩
   ·rw [if_neg (by simp only [decide_eq_true_eq]; omega)]
    have P2:=M1.perm
    obtain⟨d,y,g1,g2,g3⟩:=Dk (n:=n) hm f (2*bs) d1 (by have:=P2.length_eq; omega) (by have:=P2.length_eq; omega) (C.perm P2) (by omega) (by omega) (by omega) (fun O k i j w1 w2 w3 w4=>by
     have O:=O.perm P2.symm
     by_cases u1:k<t
     ·exact S1 O k u1 _ _ w1 w2 w3
     ·by_cases u2:k=t
      ·subst u2
       rw [M1.out i (by omega),M1.out j (by omega)]; exact B O (2*k) i j (by omega) w2 (by omega) (by omega)
      ·have:=rK k (by omega); omega)
    exact⟨d,y,g1,g2.trans P2,fun O=>g3 (O.perm P2)⟩
  ·refine⟨l,bs,by rw [if_neg (by simp only [decide_eq_true_eq]; omega)],List.Perm.refl _,fun O i j w1 w2 w3=>B O 0 i j (by omega) w2 (by omega) w3⟩
theorem Gm (hm:2 ^ 41≤m){l:List Int}(hs:l.length<2 ^ 40)(C:Cm cmp c l):∃d,gA.f m l cmp=some d∧d.Perm l∧(Ord c l→Sg c d 0 l.length):=by
 have wF:(2:Nat) ^ 40=1099511627776:=by decide
 have wZ:(2:Nat) ^ 41=2199023255552:=by decide
 have VA:(2:Nat) ^ 42=4398046511104:=by decide
 unfold gA.f cm.f
 obtain⟨d1,t,y,k1,k2,k3,M1,S1⟩:=Je (cmp:=cmp) (c:=c) hm rfl hs C m 0 l (by omega) (by omega) Mv.refl (fun O k hk=>absurd hk (by omega))
 have k1:cm.l0 m (l.length:Int) cmp m l (0:Int) (20:Int)=_:=k1
 have l1:=M1.length
 rw [k1,abw]
 dsimp only
 obtain⟨d2,e2,M2,S2⟩:=Bx (a:=20*t) (b:=l.length) (cmp:=cmp) (c:=c) hm (l:=d1) (by omega) (by omega) (by omega) (C.perm M1.perm)
 rw [e2,abw]
 have P2:=M2.perm.trans M1.perm
 obtain⟨d,y,g1,g2,g3⟩:=Dk (cmp:=cmp) (c:=c) (n:=l.length) hm m 20 d2 P2.length_eq.symm (by rw [P2.length_eq]; exact hs) (C.perm P2) (by omega) (by omega) (by omega) (fun O k i j w1 w2 w3 w4=>by
  have O:=O.perm P2.symm
  by_cases u1:k<t
  ·rw [M2.out i (by omega),M2.out j (by omega)]; exact S1 O k u1 _ _ (by omega) w2 (by omega)
  ·exact S2 (O.perm M1.perm) _ _ (by omega) w2 (by omega))
 have g1:cm.l1 m (l.length:Int) cmp m d2 (20:Int)=_:=g1
 rw [g1]
 exact⟨d,rfl,g2.trans P2,fun O=>g3 (O.perm P2)⟩
end
end Go.Proofs.YtifafejidnjckaaGreat
namespace Go.Proofs.YtifafejidnjckaaGreat
open Go Go.R
open Go.IntKind (i64 u64 u8 u32)
def fM (t:aZ):Bool:=decide (1≤t.nodes.length)&&decide (t.nodes.length≤8000)&&decide (0≤t.root)&&decide (t.root<t.nodes.length)&&t.nodes.all fun n=>fu n t.nodes.length
theorem nf {m:Nat}(hm:2 ^ 30≤m)(t:aZ):ib.f m t=some (fM t):=by
 have rl:(2:Nat) ^ 30=1073741824:=by decide
 have wF:(2:Nat) ^ 40=1099511627776:=by decide
 unfold ib.f fM
 by_cases h1:1≤t.nodes.length
 ·rw [if_pos (by simp only [decide_eq_true_eq]; omega),decide_eq_true h1]
  by_cases h2:t.nodes.length≤8000
  ·rw [if_pos (by simp only [decide_eq_true_eq]; omega),decide_eq_true h2]
   by_cases h3:0≤t.root
   ·rw [if_pos (by simp only [decide_eq_true_eq]; omega),decide_eq_true h3]
    by_cases h4:t.root<t.nodes.length
    ·rw [if_pos (by simp only [decide_eq_true_eq]; omega),decide_eq_true h4]
     rw [Gk (g:=fun n=>!(fu n t.nodes.length)) (by omega) (by omega) (fun n _=>by unfold ia.f; rw [Gl (by omega)]; rfl),abw]
     simp [List.not_any_eq_all_not]
    ·rw [if_neg (by simp only [decide_eq_true_eq]; omega),decide_eq_false h4]; rfl
   ·rw [if_neg (by simp only [decide_eq_true_eq]; omega),decide_eq_false h3]; rfl
  ·rw [if_neg (by simp only [decide_eq_true_eq]; omega),decide_eq_false h2]; rfl
 ·rw [if_neg (by simp only [decide_eq_true_eq]; omega),decide_eq_false h1]; rfl
def cI (x y:Int):Int:=if x<y then -1 else if y<x then 1 else 0
def cS (x y:ByteArray):Int:=if Op.bytesLess x.data.toList y.data.toList=true then -1 else if (!HU x y)=true then 1 else 0
def Gn (x y:Int):Int:=if x=0 then y else x
def cT (a b:ah):Int:=if a.kind=b.kind then (if a.kind=3 then Gn (cI a.args.length b.args.length) (cS a.label b.label) else Gn (cS a.label b.label) (cI a.int b.int)) else cI a.kind b.kind
theorem zC {m:Nat}(x y:Int):dI.f m x y=some (cI x y):=by
 unfold dI.f cmp_isNaN_int.f cI
 simp only [beq_self_eq_true,acO,abw,abK,if_false]
 by_cases h:x<y
 ·rw [if_pos (by simpa using h),if_pos h]
 ·rw [if_neg (by simpa using h),if_neg h]
  by_cases h2:y<x
  ·rw [if_pos (by simpa using h2),if_pos h2]
  ·rw [if_neg (by simpa using h2),if_neg h2]
theorem EZ {m:Nat}(x y:ByteArray):cY.f m x y=some (cS x y):=by
 unfold cY.f cmp_isNaN_string.f cS
 simp only [beq_self_eq_true,acO,abw,abK,if_false]
 split
 ·rfl
 ·split
  ·rfl
  ·rfl
theorem By {m:Nat}(hm:3≤m)(x y:Int):cU.f m [x,y]=some (Gn x y):=by
 obtain⟨k,rfl⟩:∃k,m=k+3:=⟨m - 3,by omega⟩
 unfold cU.f Gn
 have e1:i64.wrap ((0:Int)+1)=1:=by decide
 have e2:i64.wrap ((1:Int)+1)=2:=by decide
 have a0:ix [x,y] 0=some x:=rfl
 have a1:ix [x,y] 1=some y:=rfl
 unfold cU.l0
 rw [if_pos (by simp),a0,abw]
 by_cases h:x=0
 ·subst h
  rw [if_neg (by simp),e1,if_pos rfl]
  unfold cU.l0
  rw [if_pos (by simp),a1,abw]
  by_cases h2:y=0
  ·subst h2
   rw [if_neg (by simp),e2]
   unfold cU.l0
   rw [if_neg (by simp)]; rfl
  ·rw [if_pos (by simpa using h2)]; rfl
 ·rw [if_pos (by simpa using h),if_neg h]; rfl
theorem E0 {m:Nat}(hm:3≤m)(a b:ah):eA.f m a b=some (cT a b):=by
 unfold eA.f cT
 by_cases h:a.kind=b.kind
 ·rw [if_neg (by simp [h]),if_pos h]
  by_cases h3:a.kind=3
  ·rw [if_pos (by simpa using h3),if_pos h3,zC,EZ,abw,abw,By hm]; rfl
  ·rw [if_neg (by simpa using h3),if_neg h3,zC,EZ,abw,abw,By hm]; rfl
 ·rw [if_pos (by simpa using h),if_neg h,zC]; rfl
def nd (l:List ah)(i:Int):ah:=l.getD i.toNat ⟨0,0,⟨#[]⟩,[]⟩
theorem iZ {l:List ah}{i:Int}(h0:0≤i)(h1:i<l.length):ix l i=some (nd l i):=by
 unfold ix nd
 have h:i.toNat<l.length:=by omega
 rw [if_pos h0,abO,abD h]; rfl
theorem gQ {l:List ah}{i:Int}(h0:0≤i)(h1:i<l.length):nd l i∈l:=by
 have:=iZ h0 h1
 unfold ix at this
 rw [if_pos h0] at this
 exact abJ this
theorem Jg {m:Nat}(hm:3≤m){l:List ah}{i j:Int}(h0:0≤i)(h1:i<l.length)(h2:0≤j)(h3:j<l.length):eX.f m i j l=some (cT (nd l i) (nd l j)):=by
 unfold eX.f
 rw [iZ h0 h1,iZ h2 h3,abw,abw,E0 hm]; rfl
end Go.Proofs.YtifafejidnjckaaGreat
namespace Go.Proofs.YtifafejidnjckaaGreat
open Go Go.R
open Go.IntKind (i64 u64 u8 u32)
def key (out:List Int)(n:ah)(i:Nat):List Int:=(gt out i+1)::((n.args.map fun a=>gt out a.toNat+1)++abM (8 - n.args.length) 0)
def enum:List (List Int)→Nat→List (List Int × Int)
 | [],_=>[]
 | k::ks,s=>(k,(s:Int))::enum ks (s+1)
theorem ow:∀(ks:List (List Int)) (s:Nat),(enum ks s).length=ks.length
 | [],_=>rfl
 | k::ks,s=>by simp [enum,ow ks]
theorem vY:∀(ks:List (List Int)) (s:Nat) (k:List Int),uY (enum ks s) k=if k∈ks then (((s+ks.idxOf k:Nat):Int),true) else (0,false)
 | [],s,k=>rfl
 | a::ks,s,k=>by
  simp only [enum,uY,vY ks (s+1) k,ab0,List.idxOf_cons]
  by_cases h:k=a
  ·subst h; simp
  ·have h':(a==k)=false:=by simpa using fun z:a=k=>h z.symm
   rw [if_neg h,h']
   by_cases h2:k∈ks
   ·simp only [h2,if_true,or_true,cond_false]
    simp only [abH,and_true]
    omega
   ·simp [h2,h]
theorem Bz:∀(ks:List (List Int)) (s:Nat) (k:List Int),k∉ks→CT (enum ks s) k ((s+ks.length:Nat):Int)=enum (ks++[k]) s
 | [],s,k,_=>rfl
 | a::ks,s,k,h=>by
  have h1:k≠a:=fun z=>h (by simp [z])
  have h2:k∉ks:=fun z=>h (by simp [z])
  simp only [enum,CT,acg,if_neg h1,abR]
  rw [show s+(ks.length+1)=s+1+ks.length by omega,Bz ks (s+1) k h2]
theorem oM {n:Nat}:∀(ks:List (List Int)) (s:Nat) (k:List Int),k.length=n→(∀a∈ks,a.length=n)→uX n (enum ks s) k=true
 | [],s,k,h,_=>by simp [uX,enum,h]
 | a::ks,s,k,h,h2=>by
  have:=oM ks (s+1) k h fun a ha=>h2 a (by simp [ha])
  simp only [uX,abA,beq_iff_eq,h,true_and] at this ⊢
  simp only [enum,acr,abA,beq_iff_eq]
  exact⟨h2 a (by simp),this⟩
structure Part (n:Nat)(out:List Int)(many:Nat):Prop where
 len:out.length=n
 oY:∀i,i<n→0≤gt out i∧gt out i≤many
 XL:∀v:Nat,v≤many→∃i,i<n∧gt out i=v
structure sB (l:List ah)(out:List Int)(p:Nat)(ks:List (List Int)):Prop where
 Kc:ks.Nodup
 mem:∀k,k∈ks↔∃i,i<p∧key out (nd l i) i=k
def lS (l:List ah):Prop:=l.length≤8000∧∀n∈l,n.args.length≤8∧∀a∈n.args,0≤a∧a<l.length
theorem LB {a:Int}{L:List Int}{t:Nat}{v:Int}(hL:L.length=t)(ht:t<8):(a::(L++abM (8 - t) 0)).set (t+1) v=a::((L++[v])++abM (8 - (t+1)) 0):=by
 rw [List.set_cons_succ,acM _ _ (by omega),hL,acE,show 8 - t=(8 - (t+1))+1 by omega,List.replicate_succ,List.set_cons_zero,abX]
 rfl
theorem Jh {m:Nat}{out:List Int}{n:ah}(h8:n.args.length≤8)(ha:∀a∈n.args,0≤a∧a<out.length)(ho:∀i,i<out.length→0≤gt out i∧gt out i<2 ^ 40)(o:Int):∀(f t:Nat),n.args.length - t<f→t≤n.args.length→
  ∃x,aC.l4 m out n f (o::(((n.args.take t).map fun a=>gt out a.toNat+1)++abM (8 - t) 0)) (t:Int)=some (o::((n.args.map fun a=>gt out a.toNat+1)++abM (8 - n.args.length) 0),x)
 | 0,t,hf,_=>absurd hf (by omega)
 | f+1,t,hf,ht=>by
  have wF:(2:Nat) ^ 40=1099511627776:=by decide
  have i40:(2:Int) ^ 40=1099511627776:=by decide
  unfold aC.l4
  by_cases h:t<n.args.length
  ·have hx:ix n.args (t:Int)=some (gt n.args t):=dv h
   obtain⟨b0,b1⟩:=ha _ (a8 h)
   obtain⟨c0,c1⟩:=ho (gt n.args t).toNat (by omega)
   have hy:ix out (gt n.args t)=some (gt out (gt n.args t).toNat):=gP (by omega) (by omega)
   have e1:i64.wrap ((t:Int)+1)=((t+1:Nat):Int):=by rw [bl (by omega) (by omega)]; omega
   have hT:((n.args.take t).map fun a=>gt out a.toNat+1).length=t:=by simp; omega
   have hz:∃z,ix (o::(((n.args.take t).map fun a=>gt out a.toNat+1)++abM (8 - t) 0)) ((t+1:Nat):Int)=some z:=⟨_,dv (by simp; omega)⟩
   obtain⟨z,hz⟩:=hz
   obtain⟨x,ih⟩:=Jh (m:=m) h8 ha ho o f (t+1) (by omega) (by omega)
   have hT1:n.args.take (t+1)=n.args.take t++[gt n.args t]:=by rw [acI,bP h]; rfl
   rw [hT1,abV] at ih
   rw [if_pos (by simp only [decide_eq_true_eq]; omega),hx,abw,hy,abw,e1,hz,abw,abC,bl (x:=gt out (gt n.args t).toNat+1) (by omega) (by omega),LB hT (by omega)]
   exact⟨x,ih⟩
  ·have:t=n.args.length:=by omega
   subst this
   exact⟨_,by rw [if_neg (by simp),ace]⟩
theorem vZ {out:List Int}{n:ah}{i:Nat}(h8:n.args.length≤8):(key out n i).length=9:=by simp [key]; omega
theorem BA {l:List ah}(ok:lS l){i:Nat}(h:i<l.length):(nd l i).args.length≤8∧∀a∈(nd l i).args,0≤a∧a<l.length:=ok.2 _ (gQ (by omega) (by omega))
theorem Dl {m:Nat}(hm:2 ^ 30≤m){l:List ah}{out:List Int}{many:Nat}(ok:lS l)(P:Part l.length out many)(MH:many<2 ^ 30):∀(f p:Nat) (ks:List (List Int)) (next:List Int),l.length - p<f→p≤l.length→sB l out p ks→next.length=l.length→
  (∀i,i<p→gt next i=(ks.idxOf (key out (nd l i) i):Int))→
  ∃VD next' x,aC.l3 m l out f (enum ks 0) next (p:Int)=some (enum VD 0,next',x)∧sB l out l.length VD∧next'.length=l.length∧∀i,i<l.length→gt next' i=(VD.idxOf (key out (nd l i) i):Int)
 | 0,p,ks,next,hf,_,_,_,_=>absurd hf (by omega)
 | f+1,p,ks,next,hf,hp,K,hn,hg=>by
  have rl:(2:Nat) ^ 30=1073741824:=by decide
  have wF:(2:Nat) ^ 40=1099511627776:=by decide
  have i40:(2:Int) ^ 40=1099511627776:=by decide
  have h8000:=ok.1
  have Kp:=P.len
  unfold aC.l3
  by_cases h:p<l.length
  ·obtain⟨n1,n2⟩:=BA ok h
   obtain⟨r0,r1⟩:=P.oY p h
   have e1:i64.wrap ((p:Int)+1)=((p+1:Nat):Int):=by rw [bl (by omega) (by omega)]; omega
   obtain⟨x,hk⟩:=Jh (m:=m) (out:=out) (n:=nd l p) n1 (by rw [Kp]; exact n2) (fun i hi=>by have:=P.oY i (by omega); omega) (gt out p+1) m 0 (by omega) (by omega)
   have hk:aC.l4 m out (nd l p) m [gt out p+1,0,0,0,0,0,0,0,0] 0=some (key out (nd l p) p,x):=hk
   have SW:=vZ (out:=out) (i:=p) n1
   have CC:∀a∈ks,a.length=9:=fun a ha=>by
    obtain⟨i,hi,rfl⟩:=(K.mem a).1 ha
    exact vZ (BA ok (by omega)).1
   have RW:∃z,ix next (p:Int)=some z:=⟨_,dv (by omega)⟩
   obtain⟨z,hz⟩:=RW
   rw [if_pos (by simp only [decide_eq_true_eq]; omega),iZ (by omega) (by omega),abw,dv (by omega),abw,bl (x:=gt out p+1) (by omega) (by omega),hk,abw]
   dsimp only
   have hG:KL 9 (enum ks 0) (key out (nd l p) p)=some (if key out (nd l p) p∈ks then (((ks.idxOf (key out (nd l p) p):Nat):Int),true) else (0,false)):=by
    unfold KL; rw [if_pos (oM _ _ _ SW CC),vY,abY]
   rw [hG,abw,e1,hz]
   by_cases hin:key out (nd l p) p∈ks
   ·rw [if_pos hin,if_neg (by simp),abw,abw,abC]
    refine Dl hm ok P MH f (p+1) ks _ (by omega) (by omega) ⟨K.Kc,fun k=>⟨fun hk=>?_,fun ⟨i,hi,rK⟩=>?_⟩⟩ (by simpa using hn) (fun i hi=>?_)
    ·obtain⟨i,hi,h⟩:=(K.mem k).1 hk; exact⟨i,by omega,h⟩
    ·by_cases LC:i=p
     ·subst LC; rw [←rK]; exact hin
     ·exact (K.mem k).2 ⟨i,by omega,rK⟩
    ·rw [fL (by omega)]
     by_cases LC:i=p
     ·subst LC; rw [if_pos rfl]
     ·rw [if_neg LC]; exact hg i (by omega)
   ·have hS:Qq 9 (enum ks 0) (key out (nd l p) p) (((enum ks 0).length:Nat):Int)=some (enum (ks++[key out (nd l p) p]) 0):=by
     unfold Qq; rw [if_pos (oM _ _ _ SW CC),ow]
     have:=Bz ks 0 _ hin
     rw [abY] at this
     rw [this]
    have hid:(ks++[key out (nd l p) p]).idxOf (key out (nd l p) p)=ks.length:=by
     rw [acR,if_neg hin,List.idxOf_cons_self,abY]
    have Z1:KL 9 (enum (ks++[key out (nd l p) p]) 0) (key out (nd l p) p)=some (((ks.length:Nat):Int),true):=by
     unfold KL
     rw [if_pos (oM _ _ _ SW (fun a ha=>by rcases abP.1 ha with ha | ha; exact CC a ha; simp only [abI] at ha; rw [ha]; exact SW)),vY,if_pos (by simp),abY,hid]
    rw [if_neg hin,if_pos (by simp),hS,abw,Z1,abw,abw,abC]
    refine Dl hm ok P MH f (p+1) (ks++[key out (nd l p) p]) _ (by omega) (by omega) ⟨?_,fun k=>⟨fun hk=>?_,fun ⟨i,hi,rK⟩=>?_⟩⟩ (by simpa using hn) (fun i hi=>?_)
    ·rw [acB]
     refine⟨K.Kc,by simp,fun a ha b hb=>?_⟩
     simp only [abI] at hb
     subst hb; intro e; subst e; exact hin ha
    ·rcases abP.1 hk with hk | hk
     ·obtain⟨i,hi,h⟩:=(K.mem k).1 hk; exact⟨i,by omega,h⟩
     ·simp only [abI] at hk; exact⟨p,by omega,hk.symm⟩
    ·by_cases LC:i=p
     ·subst LC; rw [←rK]; simp
     ·exact ab6 _ ((K.mem k).2 ⟨i,by omega,rK⟩)
    ·rw [fL (by omega)]
     by_cases LC:i=p
     ·subst LC; rw [if_pos rfl,hid]
     ·rw [if_neg LC,acR,if_pos ((K.mem _).2 ⟨i,by omega,rfl⟩)]; exact hg i (by omega)
  ·have:p=l.length:=by omega
   subst this
   exact⟨ks,next,_,by rw [if_neg (by simp)],K,hn,hg⟩
theorem LD {l:List ah}{out:List Int}{ks:List (List Int)}(K:sB l out l.length ks):ks.length≤l.length:=by
 have:=K.Kc.length_le_of_subset (l₂:=(acX l.length).map fun i:Nat=>key out (nd l i) i) (fun k hk=>by
  obtain⟨i,hi,h⟩:=(K.mem k).1 hk
  exact abZ.2 ⟨i,ac0.2 hi,h⟩)
 simpa using this
theorem E1 {l:List ah}{out:List Int}{many:Nat}{ks:List (List Int)}(P:Part l.length out many)(K:sB l out l.length ks):many+1≤ks.length:=by
 have hn:((acX (many+1)).map fun v:Nat=>((v:Int)+1)).Nodup:=by
  unfold List.Nodup
  rw [List.pairwise_map]
  exact List.Pairwise.imp (fun h=>by omega) List.nodup_range
 have:=hn.length_le_of_subset (l₂:=ks.map fun k=>k.headD 0) (fun x hx=>by
  obtain⟨v,hv,rfl⟩:=abZ.1 hx
  obtain⟨i,hi,h⟩:=P.XL v (by have:=ac0.1 hv; omega)
  exact abZ.2 ⟨_,(K.mem _).2 ⟨i,hi,rfl⟩,by simp [key,h]⟩)
 simpa using this
theorem Gp {l:List ah}{out next:List Int}{many:Nat}{ks:List (List Int)}(P:Part l.length out many)(K:sB l out l.length ks)(hn:next.length=l.length)(hg:∀i,i<l.length→gt next i=(ks.idxOf (key out (nd l i) i):Int)):Part l.length next (ks.length - 1):=by
 have:=E1 P K
 refine⟨hn,fun i hi=>?_,fun v hv=>?_⟩
 ·have:=acs ((K.mem _).2 ⟨i,hi,rfl⟩)
  rw [hg i hi]; omega
 ·have hv:v<ks.length:=by omega
  obtain⟨i,hi,h⟩:=(K.mem _).1 (List.getElem_mem hv)
  refine⟨i,hi,?_⟩
  rw [hg i hi,h,K.Kc.idxOf_getElem]
theorem Ji {m:Nat}(hm:2 ^ 30≤m){l:List ah}(ok:lS l)(Inv:List Int→Prop)
  (hI:∀out many ks next,Part l.length out many→Inv out→sB l out l.length ks→next.length=l.length→(∀i,i<l.length→gt next i=(ks.idxOf (key out (nd l i) i):Int))→Inv next):∀(f:Nat) (out:List Int) (many:Nat),l.length - many<f→many<l.length→Part l.length out many→Inv out→
  ∃r MI ks,aC.l2 m l f out (many:Int)=some (.inl r)∧Part l.length r MI∧Inv r∧sB l r l.length ks∧ks.length=MI+1
 | 0,out,many,hf,_,_,_=>absurd hf (by omega)
 | f+1,out,many,hf,hlt,P,I=>by
  have rl:(2:Nat) ^ 30=1073741824:=by decide
  have h8000:=ok.1
  unfold aC.l2
  have e0:pX 8 (l.length:Int) (0:Int)=some (abM l.length 0):=by unfold pX; rw [if_pos ⟨by omega,by rw [abC]; omega⟩,abC]
  obtain⟨ks,next,x,h1,K,hn,hg⟩:=Dl hm ok P (by omega) m 0 [] (abM l.length 0) (by omega) (by omega) ⟨by simp,fun k=>⟨fun h=>by simp at h,fun ⟨i,hi,_⟩=>absurd hi (by omega)⟩⟩ (by simp) (fun i hi=>absurd hi (by omega))
  have h1:aC.l3 m l out m [] (abM l.length 0) 0=_:=h1
  have g1:=LD K
  have g2:=E1 P K
  rw [e0,abw,h1,abw]
  dsimp only
  rw [ow,bl (x:=(many:Int)+1) (by omega) (by omega),bl (x:=(ks.length:Int) - 1) (by omega) (by omega)]
  by_cases h:ks.length=many+1
  ·rw [if_pos (by simp; omega)]
   exact⟨out,many,ks,rfl,P,I,K,h⟩
  ·rw [if_neg (by simp; omega),show (ks.length:Int) - 1=((ks.length - 1:Nat):Int) by omega]
   exact Ji hm ok Inv hI f next (ks.length - 1) (by omega) (by omega) (Gp P K hn hg) (hI _ _ _ _ P I K hn hg)
end Go.Proofs.YtifafejidnjckaaGreat
namespace Go.Proofs.YtifafejidnjckaaGreat
open Go Go.R
open Go.IntKind (i64 u64 u8 u32)
def ints (n:Nat):List Int:=(acX n).map fun k:Nat=>(k:Int)
theorem fB (n:Nat):(ints n).length=n:=by simp [ints]
theorem LF {n k:Nat}(h:k<n):gt (ints n) k=k:=by
 have h1:=bP (l:=ints n) (k:=k) (by rw [fB]; exact h)
 have h2:(ints n)[k]? = some (k:Int):=by
  unfold ints
  rw [ab1,abD (by simpa using h)]
  simp
 rw [h2] at h1; exact (ab8 h1).symm
theorem jL {n:Nat}{x:Int}:x∈ints n↔0≤x∧x<n:=by
 unfold ints
 rw [abZ]
 constructor
 ·rintro⟨k,hk,rfl⟩; have:=ac0.1 hk; omega
 ·intro h; exact⟨x.toNat,ac0.2 (by omega),by omega⟩
theorem Dm (n:Nat):(ints n).Nodup:=by
 unfold ints List.Nodup
 rw [List.pairwise_map]
 exact List.Pairwise.imp (fun h=>by omega) List.nodup_range
theorem wa {l:List Int}(h:l.Nodup){i j:Nat}(hi:i<l.length)(hj:j<l.length)(e:gt l i=gt l j):i=j:=by
 have h1:=bP hi
 have h2:=bP hj
 rw [abD hi] at h1
 rw [abD hj] at h2
 have h1:=ab8 h1
 have h2:=ab8 h2
 exact (List.getElem_inj (h₀:=hi) (h₁:=hj) h).1 (by rw [h1,h2,e])
theorem gq {l:List Int}{x:Int}(h:x∈l):∃k,k<l.length∧gt l k=x:=by
 obtain⟨k,hk,e⟩:=List.getElem_of_mem h
 refine⟨k,hk,?_⟩
 have h1:=bP hk
 rw [abD hk,e] at h1
 exact (ab8 h1).symm
theorem Jj {m:Nat}{z:List Int}(hz:z.length<2 ^ 40):∀(f i:Nat) (d:List Int),z.length - i<f→i≤z.length→d.length=z.length→(∀k,k<i→gt d k=k)→
  ∃x,aC.l0 m z f d (i:Int)=some (ints z.length,x)
 | 0,i,d,hf,_,_,_=>absurd hf (by omega)
 | f+1,i,d,hf,hi,hd,hg=>by
  have wF:(2:Nat) ^ 40=1099511627776:=by decide
  unfold aC.l0
  by_cases h:i<z.length
  ·obtain⟨v,hv⟩:∃v,ix d (i:Int)=some v:=⟨_,dv (by omega)⟩
   rw [if_pos (by simp only [decide_eq_true_eq]; omega),hv,abw,abC,bl (by omega) (by omega),show (i:Int)+1=((i+1:Nat):Int) by omega]
   refine Jj hz f (i+1) _ (by omega) (by omega) (by simpa using hd) fun k hk=>?_
   rw [fL (by omega)]
   by_cases e:k=i
   ·subst e; rw [if_pos rfl]
   ·rw [if_neg e]; exact hg k (by omega)
  ·refine⟨i,?_⟩
   rw [if_neg (by simp only [decide_eq_true_eq]; omega)]
   have:d=ints z.length:=I3 (by rw [fB,hd]) fun k hk=>by rw [hg k (by omega),LF (by omega)]
   rw [this]
def rk (l:List ah)(d:List Int):Nat→Nat
 | 0=>0
 | k+1=>rk l d k+if cT (nd l (gt d k)) (nd l (gt d (k+1)))=0 then 0 else 1
theorem Jk (l:List ah)(d:List Int):∀k,rk l d k≤k
 | 0=>abB _
 | k+1=>by have:=Jk l d k; unfold rk; split<;>omega
theorem zD (l:List ah)(d:List Int)(i:Nat):∀j,i≤j→rk l d i≤rk l d j
 | 0,h=>by
   have:i=0:=by omega
   subst this; exact abB _
 | j+1,h=>by
  by_cases e:i=j+1
  ·subst e; exact abB _
  ·have:=zD l d i j (by omega)
   show _≤rk l d j+_
   omega
theorem Jl (l:List ah)(d:List Int):∀(j v:Nat),v≤rk l d j→∃k,k≤j∧rk l d k=v
 | 0,v,h=>⟨0,abB _,by unfold rk at h ⊢; omega⟩
 | j+1,v,h=>by
  by_cases e:v=rk l d (j+1)
  ·exact⟨j+1,abB _,e.symm⟩
  ·have h2:rk l d (j+1)≤rk l d j+1:=by show rk l d j+_≤_; split<;>omega
   obtain⟨k,hk,e⟩:=Jl l d j v (by omega)
   exact⟨k,by omega,e⟩
theorem Jm {m:Nat}(hm:3≤m){l:List ah}{o d:List Int}(hl:l.length≤8000)(ho:o.length=l.length)(hp:d.Perm (ints l.length)):∀(f p:Nat) (out:List Int),l.length - p<f→p≤l.length→out.length=l.length→(∀k,k<p→gt out (gt d k).toNat=rk l d k)→
  ∃nH x,aC.l1 m l o d f out ((rk l d (p - 1):Nat):Int) (p:Int)=some (nH,((rk l d (l.length - 1):Nat):Int),x)∧nH.length=l.length∧∀k,k<l.length→gt nH (gt d k).toNat=rk l d k
 | 0,p,out,hf,_,_,_=>absurd hf (by omega)
 | f+1,p,out,hf,zQ,RX,hg=>by
  have Vx:d.length=l.length:=by rw [hp.length_eq,fB]
  have hd:∀k,k<l.length→0≤gt d k∧gt d k<l.length:=fun k hk=>jL.1 (hp.mem_iff.1 (a8 (by omega)))
  have Dn:d.Nodup:=hp.symm.nodup (Dm _)
  unfold aC.l1
  by_cases h:p<l.length
  ·obtain⟨d0,d1⟩:=hd p h
   have CE:∀k,k<p+1→gt (out.set (gt d p).toNat ((rk l d p:Nat):Int)) (gt d k).toNat=rk l d k:=fun k hk=>by
    rw [fL (by omega)]
    by_cases e:k=p
    ·subst e; rw [if_pos rfl]
    ·have:gt d k≠gt d p:=fun h=>e (wa Dn (by omega) (by omega) h)
     have:=hd k (by omega)
     rw [if_neg (by omega)]; exact hg k (by omega)
   obtain⟨z,hz⟩:∃z,ix out (gt d p)=some z:=⟨_,gP (k:=(gt d p).toNat) (by omega) (by omega)⟩
   have e1:i64.wrap ((p:Int)+1)=((p+1:Nat):Int):=by rw [bl (by omega) (by omega)]; omega
   have hr:=Jk l d p
   have IH:=Jm hm hl ho hp f (p+1) (out.set (gt d p).toNat ((rk l d p:Nat):Int)) (by omega) (by omega) (by simpa using RX) CE
   rw [show p+1 - 1=p by omega] at IH
   rw [if_pos (by simp only [decide_eq_true_eq]; omega),dv (by omega),abw]
   by_cases h0:0<p
   ·obtain⟨q,rfl⟩:∃q,p=q+1:=⟨p - 1,by omega⟩
    obtain⟨q0,q1⟩:=hd q (by omega)
    rw [show q+1 - 1=q by omega]
    have e2:i64.wrap (((q+1:Nat):Int) - 1)=(q:Int):=by rw [bl (by omega) (by omega)]; omega
    rw [if_pos (by simp only [decide_eq_true_eq]; omega),e2,dv (by omega),abw,iZ q0 q1,abw,iZ d0 d1,abw,E0 hm,abw,hz,e1]
    by_cases hc:cT (nd l (gt d q)) (nd l (gt d (q+1)))=0
    ·have VE:rk l d (q+1)=rk l d q:=by show rk l d q+_=_; rw [if_pos hc]; omega
     rw [if_neg (by simp [hc]),abw]
     rw [VE] at IH; exact IH
    ·have VE:rk l d (q+1)=rk l d q+1:=by show rk l d q+_=_; rw [if_neg hc]
     rw [if_pos (by simpa using hc),abw,bl (by omega) (by omega)]
     rw [VE] at IH; exact IH
   ·have:p=0:=by omega
    subst this
    rw [if_neg (by simp),hz,abw,e1]
    exact IH
  ·have:p=l.length:=by omega
   subst this
   exact⟨out,_,by rw [if_neg (by simp only [decide_eq_true_eq]; omega)],RX,hg⟩
theorem LG {m:Nat}(hm:3≤m)(l:List ah):Cm (fun y0 y1=>eX.f m y0 y1 l) (fun x y=>cT (nd l x) (nd l y)) (ints l.length):=fun x hx y hy=>by
 have hx:=jL.1 hx
 have hy:=jL.1 hy
 exact Jg hm hx.1 hx.2 hy.1 hy.2
theorem zE {m:Nat}(hm:2 ^ 41≤m){l:List ah}(ok:lS l)(h1:1≤l.length)(Inv:List Int→Prop)
  (hI0:∀d out,d.Perm (ints l.length)→(Ord (fun x y=>cT (nd l x) (nd l y)) (ints l.length)→Sg (fun x y=>cT (nd l x) (nd l y)) d 0 l.length)→(∀k,k<l.length→gt out (gt d k).toNat=rk l d k)→Inv out)
  (hI:∀out many ks next,Part l.length out many→Inv out→sB l out l.length ks→next.length=l.length→(∀i,i<l.length→gt next i=(ks.idxOf (key out (nd l i) i):Int))→Inv next) :
  ∃r many ks,aC.f m l=some r∧Part l.length r many∧Inv r∧sB l r l.length ks∧ks.length=many+1:=by
 have wF:(2:Nat) ^ 40=1099511627776:=by decide
 have wZ:(2:Nat) ^ 41=2199023255552:=by decide
 have rl:(2:Nat) ^ 30=1073741824:=by decide
 have h8000:=ok.1
 have e0:pX 8 (l.length:Int) (0:Int)=some (abM l.length 0):=by unfold pX; rw [if_pos ⟨by omega,by rw [abC]; omega⟩,abC]
 unfold aC.f
 obtain⟨x,k1⟩:=Jj (m:=m) (z:=abM l.length 0) (by simp; omega) m 0 (abM l.length 0) (by simp; omega) (by omega) rfl (fun k hk=>absurd hk (by omega))
 have k1:aC.l0 m (abM l.length 0) m (abM l.length 0) 0=_:=k1
 rw [ac7] at k1
 rw [e0,abw,k1,abw]
 dsimp only
 obtain⟨d,k2,hp,hs⟩:=Gm hm (l:=ints l.length) (by rw [fB]; omega) (LG (m:=m) (by omega) l)
 rw [k2,abw,abw]
 obtain⟨out,x,k3,ho,hg⟩:=Jm (m:=m) (l:=l) (o:=ints l.length) (d:=d) (by omega) h8000 (fB _) hp m 0 (abM l.length 0) (by omega) (by omega) (by simp) (fun k hk=>absurd hk (by omega))
 have k3:aC.l1 m l (ints l.length) d m (abM l.length 0) 0 0=_:=k3
 rw [k3,abw]
 dsimp only
 rw [fB] at hs
 have Vx:d.length=l.length:=by rw [hp.length_eq,fB]
 have hP:Part l.length out (rk l d (l.length - 1)):=by
  refine⟨ho,fun i hi=>?_,fun v hv=>?_⟩
  ·obtain⟨k,hk,e⟩:=gq (hp.mem_iff.2 (jL.2 (show 0≤(i:Int)∧(i:Int)<l.length by omega)))
   have:=hg k (by omega)
   rw [e,abC] at this
   have h2:=zD l d k (l.length - 1) (by omega)
   omega
  ·obtain⟨k,hk,e⟩:=Jl l d _ v hv
   have Kj:k<l.length:=by omega
   have:=jL.1 (hp.mem_iff.1 (a8 (l:=d) (k:=k) (by omega)))
   exact⟨(gt d k).toNat,by omega,by rw [hg k Kj,e]⟩
 have Na:=Jk l d (l.length - 1)
 obtain⟨r,many,ks,k4,P,I,K,CC⟩:=Ji (m:=m) (by omega) ok Inv hI m out (rk l d (l.length - 1)) (by omega) (by omega) hP (hI0 d out hp hs hg)
 rw [k4]
 exact⟨r,many,ks,rfl,P,I,K,CC⟩
end Go.Proofs.YtifafejidnjckaaGreat
namespace Go.Proofs.YtifafejidnjckaaGreat
open Go Go.R
open Go.IntKind (i64 u64 u8 u32)
def mu:List Int→Nat→List (Int × Int)
 | [],_=>[]
 | k::ks,s=>(k,(s:Int))::mu ks (s+1)
theorem xX:∀(ks:List Int) (s:Nat) (k:Int),nn (mu ks s) k=if k∈ks then (((s+ks.idxOf k:Nat):Int),true) else (0,false)
 | [],s,k=>rfl
 | a::ks,s,k=>by
  simp only [mu,nn,xX ks (s+1) k,ab0,List.idxOf_cons]
  by_cases h:k=a
  ·subst h; simp
  ·have h':(a==k)=false:=by simpa using fun z:a=k=>h z.symm
   rw [if_neg h,h']
   by_cases h2:k∈ks
   ·simp only [h2,if_true,or_true,cond_false]
    simp only [abH,and_true]
    omega
   ·simp [h2,h]
theorem xY:∀(ks:List Int) (s:Nat) (k:Int),k∉ks→zU (mu ks s) k ((s+ks.length:Nat):Int)=mu (ks++[k]) s
 | [],s,k,_=>rfl
 | a::ks,s,k,h=>by
  have h1:k≠a:=fun z=>h (by simp [z])
  have h2:k∉ks:=fun z=>h (by simp [z])
  simp only [mu,zU,acg,if_neg h1,abR]
  rw [show s+(ks.length+1)=s+1+ks.length by omega,xY ks (s+1) k h2]
def fQ (cls:List Int)(a:Int):Int:=gt cls a.toNat
def idx (cls o:List Int)(a:Int):Int:=((o.map (fQ cls)).idxOf (fQ cls a):Nat)
def w5 (cls:List Int)(l:List ah)(o:List Int)(i:Int):ah:=⟨(nd l i).kind,(nd l i).int,(nd l i).label,(nd l i).args.map (idx cls o)⟩
def tc (cls:List Int)(l:List ah):Nat→Int→List Int→List Int
 | 0,_,o=>o
 | k+1,i,o=>if fQ cls i∈o.map (fQ cls) then o else (nd l i).args.foldl (fun o a=>tc cls l k a o) (o++[i])
structure Vs (cls:List Int)(n:Nat)(o:List Int):Prop where
 Kc:(o.map (fQ cls)).Nodup
 oY:∀x∈o,0≤x∧x<n
structure Ps (cls:List Int)(l:List ah)(o o':List Int)(ns Dp:List ah):Prop where
 vs:Vs cls l.length o'
 pre:∃t,o'=o++t
 len:Dp.length=o'.length
 old:∀k,k<o.length→Dp[k]? = ns[k]?
 new:∀k,o.length≤k→k<o'.length→Dp[k]? = some (w5 cls l o' (gt o' k))
 arg:∀k,o.length≤k→k<o'.length→∀a∈(nd l (gt o' k)).args,fQ cls a∈o'.map (fQ cls)
theorem Vs.xZ {cls:List Int}{n:Nat}{o:List Int}(v:Vs cls n o):o.length≤n:=by
 have hn:o.Nodup:=by
  have:=v.Kc
  unfold List.Nodup at this ⊢
  rw [List.pairwise_map] at this
  exact List.Pairwise.imp (fun h e=>h (by rw [e])) this
 have:=hn.length_le_of_subset (l₂:=ints n) (fun x hx=>jL.2 (v.oY x hx))
 rwa [fB] at this
theorem Ps.refl {cls:List Int}{l:List ah}{o:List Int}{ns:List ah}(v:Vs cls l.length o)(h:ns.length=o.length):Ps cls l o o ns ns:=
 ⟨v,⟨[],by simp⟩,h,fun _ _=>rfl,fun k h1 h2=>by omega,fun k h1 h2=>by omega⟩
theorem ju {a b:List Int}{k:Nat}(h:k<a.length):gt (a++b) k=gt a k:=by
 unfold gt; rw [abO,abO,abS h]
theorem pS {cls o t:List Int}{a:Int}(h:fQ cls a∈o.map (fQ cls)):idx cls (o++t) a=idx cls o a:=by
 unfold idx; rw [abV,acR,if_pos h]
theorem BB {cls:List Int}{l:List ah}{o t:List Int}{i:Int}(h:∀a∈(nd l i).args,fQ cls a∈o.map (fQ cls)):w5 cls l (o++t) i=w5 cls l o i:=by
 unfold w5
 congr 1
 exact acA fun a ha=>pS (h a ha)
theorem Ps.trans {cls:List Int}{l:List ah}{o o1 o2:List Int}{ns n1 n2:List ah}(a:Ps cls l o o1 ns n1)(b:Ps cls l o1 o2 n1 n2):Ps cls l o o2 ns n2:=by
 obtain⟨t1,rfl⟩:=a.pre
 obtain⟨t2,rfl⟩:=b.pre
 have hl:(o++t1).length=o.length+t1.length:=by simp
 refine⟨b.vs,⟨t1++t2,by simp⟩,b.len,fun k hk=>(b.old k (by omega)).trans (a.old k hk),fun k h1 h2=>?_,fun k h1 h2 x hx=>?_⟩
 ·by_cases h:k<(o++t1).length
  ·rw [b.old k h,a.new k h1 h,ju h,BB (a.arg k h1 h)]
  ·exact b.new k (by omega) h2
 ·by_cases h:k<(o++t1).length
  ·rw [ju h] at hx
   rw [abV]
   exact ab6 _ (a.arg k h1 h x hx)
  ·exact b.arg k (by omega) h2 x hx
section
variable {m:Nat}{cls:List Int}{l:List ah}{root:Int}
abbrev RY:=Int→(List (Int × Int))→(List Int)→aZ→aZ→Option (Int × (List (Int × Int)) × aZ)
def MJ (cls:List Int)(l:List ah)(root:Int)(rec:RY)(df:Int→List Int→List Int)(need:Nat):Prop:=∀(i:Int) (o:List Int) (ns:List ah),0≤i→i<l.length→Vs cls l.length o→ns.length=o.length→l.length<need+o.length→
 ∃Dp,rec i (mu (o.map (fQ cls)) 0) cls ⟨ns,0⟩ ⟨l,root⟩=some (idx cls (df i o) i,mu ((df i o).map (fQ cls)) 0,⟨Dp,0⟩)∧Ps cls l o (df i o) ns Dp∧fQ cls i∈(df i o).map (fQ cls)
theorem Jn {rec:RY}{df:Int→List Int→List Int}{need:Nat}(hm:2 ^ 30≤m)(ok:lS l)(V:MJ cls l root rec df need){v:ah}(h8:v.args.length≤8)(ha:∀a∈v.args,0≤a∧a<l.length){o0:List Int}{XM:List ah}(RZ:l.length<need+o0.length):∀(f t:Nat) (o:List Int) (ns:List ah),v.args.length - t<f→t≤v.args.length→Ps cls l o0 o XM ns→(∀a∈v.args.take t,fQ cls a∈o.map (fQ cls))→
  ∃o' Dp x,o'=(v.args.drop t).foldl (fun o a=>df a o) o∧bp.l0 m cls ⟨l,root⟩ rec v f ((v.args.take t).map (idx cls o)) (t:Int) (mu (o.map (fQ cls)) 0) ⟨ns,0⟩=some (v.args.map (idx cls o'),x,mu (o'.map (fQ cls)) 0,⟨Dp,0⟩)∧Ps cls l o0 o' XM Dp∧∀a∈v.args,fQ cls a∈o'.map (fQ cls)
 | 0,t,o,ns,hf,_,_,_=>absurd hf (by omega)
 | f+1,t,o,ns,hf,ht,P,hin=>by
  have rl:(2:Nat) ^ 30=1073741824:=by decide
  unfold bp.l0
  by_cases h:t<v.args.length
  ·obtain⟨b0,b1⟩:=ha _ (a8 h)
   have ho0:o0.length≤o.length:=by obtain⟨s,rfl⟩:=P.pre; simp
   obtain⟨Z2,k1,P1,SG⟩:=V (gt v.args t) o ns b0 b1 P.vs P.len (by omega)
   obtain⟨s,hs⟩:=P1.pre
   have hT1:v.args.take (t+1)=v.args.take t++[gt v.args t]:=by rw [acI,bP h]; rfl
   have hD:v.args.drop t=gt v.args t::v.args.drop (t+1):=by
    obtain⟨h4,h5⟩:=abG.1 (bP h)
    rw [←h5]; exact abT h4
   have VF:∀a∈v.args.take (t+1),fQ cls a∈(df (gt v.args t) o).map (fQ cls):=fun a ha=>by
    rw [hT1] at ha
    rcases abP.1 ha with ha | ha
    ·rw [hs,abV]; exact ab6 _ (hin a ha)
    ·simp only [abI] at ha; subst ha; exact SG
   obtain⟨o',Dp,x,e,k2,P2,h2⟩:=Jn hm ok V h8 ha RZ f (t+1) (df (gt v.args t) o) Z2 (by omega) (by omega) (P.trans P1) VF
   refine⟨o',Dp,x,by rw [hD]; exact e,?_,P2,h2⟩
   have e1:i64.wrap ((t:Int)+1)=((t+1:Nat):Int):=by rw [bl (by omega) (by omega)]; omega
   have pW:app 8 ((v.args.take t).map (idx cls o)) [idx cls (df (gt v.args t) o) (gt v.args t)]=some ((v.args.take (t+1)).map (idx cls (df (gt v.args t) o))):=by
    unfold app
    rw [if_pos (by simp; omega),hT1,abV]
    congr 2
    exact acA fun a ha=>by rw [hs]; exact (pS (hin a ha)).symm
   rw [if_pos (by simp only [decide_eq_true_eq]; omega),dv h,abw,k1,abw,pW,abw,e1]
   exact k2
  ·have:t=v.args.length:=by omega
   subst this
   rw [ace] at hin ⊢
   exact⟨o,ns,_,by rw [List.drop_length]; rfl,by rw [if_neg (by simp)],P,hin⟩
theorem wc (hm:2 ^ 30≤m)(ok:lS l)(hc:cls.length=l.length):∀k,MJ cls l root (bp.f m k) (tc cls l k) k
 | 0=>fun i o ns h0 h1 v hl hn=>absurd v.xZ (by omega)
 | k+1=>fun i o ns h0 h1 v hl hn=>by
  have rl:(2:Nat) ^ 30=1073741824:=by decide
  have h8000:=ok.1
  have LH:=v.xZ
  show ∃Dp,bp.b m (bp.f m k) i (mu (o.map (fQ cls)) 0) cls ⟨ns,0⟩ ⟨l,root⟩=_∧_
  unfold bp.b
  have hx:ix cls i=some (fQ cls i):=gP (by omega) (by omega)
  rw [hx,abw,xX,abY]
  by_cases h:fQ cls i∈o.map (fQ cls)
  ·have hd:tc cls l (k+1) i o=o:=by unfold tc; rw [if_pos h]
   rw [hd,if_pos h]
   exact⟨ns,rfl,Ps.refl v hl,h⟩
  ·have hd:tc cls l (k+1) i o=(nd l i).args.foldl (fun o a=>tc cls l k a o) (o++[i]):=by
    show (if fQ cls i∈o.map (fQ cls) then o else (nd l i).args.foldl (fun o a=>tc cls l k a o) (o++[i]))=_
    rw [if_neg h]
   have v1:Vs cls l.length (o++[i]):=by
    refine⟨?_,fun x hx=>?_⟩
    ·rw [abV,acB]
     refine⟨v.Kc,by simp,fun a ha b hb=>?_⟩
     simp only [ab5,List.map_nil,abI] at hb
     subst hb; intro e; subst e; exact h ha
    ·rcases abP.1 hx with hx | hx
     ·exact v.oY x hx
     ·simp only [abI] at hx; subst hx; exact⟨h0,h1⟩
   have BC:=v1.xZ
   simp only [abQ,abR,ab4] at BC
   have pW:app 56 ns [(⟨(nd l i).kind,(nd l i).int,(nd l i).label,[]⟩:ah)]=some (ns++[⟨(nd l i).kind,(nd l i).int,(nd l i).label,[]⟩]):=by
    unfold app; rw [if_pos (by simp; omega)]
   have Qb:zU (mu (o.map (fQ cls)) 0) (fQ cls i) ((ns.length:Nat):Int)=mu ((o++[i]).map (fQ cls)) 0:=by
    have:=xY (o.map (fQ cls)) 0 (fQ cls i) h
    rw [abY,abL,←hl] at this
    rw [this,abV]; rfl
   obtain⟨n1,n2⟩:=ok.2 _ (gQ h0 h1)
   have P0:Ps cls l (o++[i]) (o++[i]) (ns++[⟨(nd l i).kind,(nd l i).int,(nd l i).label,[]⟩]) (ns++[⟨(nd l i).kind,(nd l i).int,(nd l i).label,[]⟩]):=Ps.refl v1 (by simp [hl])
   obtain⟨o',Dp,x,e,k2,P2,h2⟩:=Jn (m:=m) (v:=nd l i) (need:=k) hm ok (wc hm ok hc k) n1 n2 (o0:=o++[i]) (by simp; omega) m 0 (o++[i]) _ (by omega) (by omega) P0 (fun a ha=>by simp at ha)
   rw [acn] at e
   rw [List.take_zero,List.map_nil] at k2
   have k2:bp.l0 m cls ⟨l,root⟩ (bp.f m k) (nd l i) m [] 0 _ _=_:=k2
   obtain⟨s,hs⟩:=P2.pre
   have Kp:o.length<o'.length:=by rw [hs]; simp
   have R0:Dp[o.length]? = some ⟨(nd l i).kind,(nd l i).int,(nd l i).label,[]⟩:=by
    rw [P2.old _ (by simp),←hl,abN (abB _),acE]; rfl
   have RW:ix Dp ((ns.length:Nat):Int)=some ⟨(nd l i).kind,(nd l i).int,(nd l i).label,[]⟩:=by
    unfold ix; rw [if_pos (by omega),abC,hl,R0]
   have XN:gt o' o.length=i:=by
    rw [hs,ju (by simp)]
    unfold gt; rw [abO,abN (abB _),acE]; rfl
   have VG:idx cls o' i=(o.length:Nat):=by
    rw [hs,pS (by simp)]
    unfold idx
    rw [abV,acR,if_neg h]; simp
   rw [hd,←e,if_neg h,if_neg (by simp),abw,iZ h0 h1,abw,pW,abw,Qb,k2,abw]
   dsimp only
   rw [RW,abw,abC,VG,hl]
   refine⟨_,rfl,⟨P2.vs,⟨[i]++s,by rw [hs]; simp⟩,by simpa using P2.len,fun q hq=>?_,fun q h3 h4=>?_,fun q h3 h4 a ha=>?_⟩,by rw [hs]; simp⟩
   ·rw [List.getElem?_set_ne (by omega),P2.old q (by simp; omega),abS (by omega)]
   ·by_cases hq:q=o.length
    ·subst hq
     rw [List.getElem?_set_self (by rw [P2.len]; omega),XN]; rfl
    ·rw [List.getElem?_set_ne (by omega)]
     exact P2.new q (by simp; omega) h4
   ·by_cases hq:q=o.length
    ·subst hq; rw [XN] at ha; exact h2 a ha
    ·exact P2.arg q (by simp; omega) h4 a ha
end
theorem we {m:Nat}(hm:2 ^ 41≤m){t:aZ}(ok:lS t.nodes)(h1:1≤t.nodes.length)(r0:0≤t.root)(r1:t.root<t.nodes.length)(Inv:List Int→Prop)
  (hI0:∀d out,d.Perm (ints t.nodes.length)→(Ord (fun x y=>cT (nd t.nodes x) (nd t.nodes y)) (ints t.nodes.length)→Sg (fun x y=>cT (nd t.nodes x) (nd t.nodes y)) d 0 t.nodes.length)→(∀k,k<t.nodes.length→gt out (gt d k).toNat=rk t.nodes d k)→Inv out)
  (hI:∀out many ks next,Part t.nodes.length out many→Inv out→sB t.nodes out t.nodes.length ks→next.length=t.nodes.length→(∀i,i<t.nodes.length→gt next i=(ks.idxOf (key out (nd t.nodes i) i):Int))→Inv next) :
  ∃cls many ks ns,eF.f m t=some ⟨ns,0⟩∧Part t.nodes.length cls many∧Inv cls∧sB t.nodes cls t.nodes.length ks∧ks.length=many+1∧Ps cls t.nodes [] (tc cls t.nodes m t.root []) [] ns∧fQ cls t.root∈(tc cls t.nodes m t.root []).map (fQ cls):=by
 have rl:(2:Nat) ^ 30=1073741824:=by decide
 have wZ:(2:Nat) ^ 41=2199023255552:=by decide
 have h8000:=ok.1
 obtain⟨cls,many,ks,k1,P,I,K,CC⟩:=zE hm ok h1 Inv hI0 hI
 obtain⟨ns,k2,P2,h2⟩:=wc (m:=m) (root:=t.root) (by omega) ok P.len m t.root [] [] r0 r1 ⟨by simp,fun x hx=>by simp at hx⟩ rfl (by simp; omega)
 refine⟨cls,many,ks,ns,?_,P,I,K,CC,P2,h2⟩
 unfold eF.f
 have k2:bp.f m m t.root [] cls ⟨[],0⟩ t=_:=k2
 rw [k1,abw,k2]; rfl
end Go.Proofs.YtifafejidnjckaaGreat
namespace Go.Proofs.YtifafejidnjckaaGreat
open Go Go.R
open Go.IntKind (i64 u64 u8 u32)
end Go.Proofs.YtifafejidnjckaaGreat
namespace Go.Proofs.YtifafejidnjckaaGreat
open Go Go.R
open Go.IntKind (i64 u64 u8 u32)
end Go.Proofs.YtifafejidnjckaaGreat
namespace Go.Proofs.YtifafejidnjckaaGreat
open Go Go.R
open Go.IntKind (i64 u64 u8 u32)
end Go.Proofs.YtifafejidnjckaaGreat
namespace Go.Proofs.YtifafejidnjckaaGreat
open Go Go.R
open Go.IntKind (i64 u64 u8 u32)
end Go.Proofs.YtifafejidnjckaaGreat
namespace Go.Proofs.YtifafejidnjckaaGreat
open Go Go.R
open Go.IntKind (i64 u64 u8 u32)
end Go.Proofs.YtifafejidnjckaaGreat
namespace Go.Proofs.YtifafejidnjckaaGreat
open Go Go.R
open Go.IntKind (i64 u64 u8 u32)
end Go.Proofs.YtifafejidnjckaaGreat
namespace Go.Proofs.YtifafejidnjckaaGreat
open Go Go.R
open Go.IntKind (i64 u64 u8 u32)
def VH (t:aZ):Prop:=∀n∈t.nodes,n.kind=0→n.int<2 ^ 63
theorem Jo {s:ByteArray}(h:(s.data.toList==[])=true):s=ab7 #[]:=by
 have h:=beq_iff_eq.1 h
 cases s with
 | mk d=>
  cases d with
  | mk l=>simp only at h; subst h; rfl
theorem SX {l:List Int}(h:l.isEmpty=true):l=[]:=by cases l with | nil=>rfl | cons=>cases h
structure LI (n:ah):Prop where
 kind:n.kind=0∧0≤n.int∧n.label=ab7 #[]∧n.args=[]∨n.kind=1∧(-1099511627776≤n.int∧n.int≤1099511627776)∧n.label=ab7 #[]∧n.args=[]∨n.kind=2∧n.int=0∧n.args=[]∨n.kind=3∧n.int=0∨n.kind=4∧n.args=[]
 label:n.kind=2∨n.kind=3→1≤n.label.size∧n.label.size≤16
 args:n.args.length≤8
theorem jv {n:ah}{size:Int}(h:fu n size=true):LI n∧∀a∈n.args,0≤a∧a<size:=by
 unfold fu at h
 split at h
 ·rename_i k
  simp only [abA,decide_eq_true_eq] at h
  have ha:=SX h.2
  exact⟨⟨.inl ⟨k,h.1.1,Jo h.1.2,ha⟩,fun z=>by omega,by rw [ha]; decide⟩,fun a h=>by rw [ha] at h; cases h⟩
 split at h
 ·rename_i k
  simp only [abA,decide_eq_true_eq] at h
  have ha:=SX h.2
  exact⟨⟨.inr (.inl ⟨k,h.1.1,Jo h.1.2,ha⟩),fun z=>by omega,by rw [ha]; decide⟩,fun a h=>by rw [ha] at h; cases h⟩
 split at h
 ·rename_i k
  simp only [abA,beq_iff_eq] at h
  have ha:=SX h.2
  exact⟨⟨.inr (.inr (.inl ⟨k,h.1.1,ha⟩)),fun z=>xW h.1.2,by rw [ha]; decide⟩,fun a h=>by rw [ha] at h; cases h⟩
 split at h
 ·rename_i k
  simp only [abA,beq_iff_eq,decide_eq_true_eq,abW] at h
  exact⟨⟨.inr (.inr (.inr (.inl ⟨k,h.1.1.1.1⟩))),fun z=>xW h.1.1.1.2,h.1.2⟩,h.2⟩
 split at h
 ·rename_i k
  simp only [abA,decide_eq_true_eq] at h
  have ha:=SX h.2
  exact⟨⟨.inr (.inr (.inr (.inr ⟨k,ha⟩))),fun z=>by omega,by rw [ha]; decide⟩,fun a h=>by rw [ha] at h; cases h⟩
 ·cases h
theorem jW {t:aZ}(h:fM t=true):lS t.nodes∧1≤t.nodes.length∧0≤t.root∧t.root<t.nodes.length∧∀n∈t.nodes,LI n:=by
 unfold fM at h
 simp only [abA,decide_eq_true_eq,abW] at h
 obtain⟨⟨⟨⟨h1,h2⟩,h3⟩,h4⟩,h5⟩:=h
 exact⟨⟨h2,fun n hn=>⟨(jv (h5 n hn)).1.args,(jv (h5 n hn)).2⟩⟩,h1,h3,h4,fun n hn=>(jv (h5 n hn)).1⟩
structure MK (s:aZ):Prop where
 root:s.root=0
 xZ:s.nodes.length≤8000
 nodes:∀x∈s.nodes,LI x∧(x.kind=0→x.int<2 ^ 63)∧∀a∈x.args,0≤a∧a<8000
theorem LI.map {n:ah}(T:LI n)(f:Int→Int):LI ⟨n.kind,n.int,n.label,n.args.map f⟩:=by
 refine⟨?_,T.label,by simpa using T.args⟩
 rcases T.kind with⟨a,b,c,d⟩| ⟨a,b,c,d⟩| ⟨a,b,d⟩| ⟨a,b⟩| ⟨a,d⟩
 ·exact .inl ⟨a,b,c,by simp [d]⟩
 ·exact .inr (.inl ⟨a,b,c,by simp [d]⟩)
 ·exact .inr (.inr (.inl ⟨a,b,by simp [d]⟩))
 ·exact .inr (.inr (.inr (.inl ⟨a,b⟩)))
 ·exact .inr (.inr (.inr (.inr ⟨a,by simp [d]⟩)))
theorem Gq {m:Nat}(hm:2 ^ 41≤m){t:aZ}(h:fM t=true)(h0:VH t):∃s,eF.f m t=some s∧MK s:=by
 obtain⟨ok,h1,r0,r1,hT⟩:=jW h
 obtain⟨cls,many,ks,ns,e,P,_,K,CC,Q,hr⟩:=we hm ok h1 r0 r1 (fun _=>True) (fun _ _ _ _ _=>trivial) (fun _ _ _ _ _ _ _ _ _=>trivial)
 have LH:=Q.vs.xZ
 have h8000:=ok.1
 have hlen:=Q.len
 refine⟨_,e,rfl,by dsimp only; omega,fun x hx=>?_⟩
 obtain⟨k,hk,e2⟩:=List.getElem_of_mem hx
 dsimp only at hk e2
 have:=Q.new k (by simp) (by omega)
 rw [abD hk,e2] at this
 have:=ab8 this
 subst this
 have rN:=Q.vs.oY _ (a8 (l:=tc cls t.nodes m t.root []) (k:=k) (by omega))
 have Dn:=gQ rN.1 rN.2
 have Z5:=h0 _ Dn
 refine⟨(hT _ Dn).map _,fun hk=>Z5 hk,fun a ha=>?_⟩
 obtain⟨b,hb,rfl⟩:=abZ.1 ha
 have hin:=Q.arg k (by simp) (by omega) b hb
 have:=acs hin
 rw [abL] at this
 unfold idx
 omega
end Go.Proofs.YtifafejidnjckaaGreat
namespace Go.Proofs.YtifafejidnjckaaGreat
open Go Go.R Go.Uf
open Go.IntKind (i64 u64 u8 u32)
section
variable {m:Nat}{s s':aj}
theorem sC {f:Int→Option Bool}{g:Int→Bool}(l:List Int)(hl:l.length≤1000000)(hf:∀x∈l,f x=some (g x)):∀(k:Nat) (s1:List Int) (i j:Nat),i≤j→i<l.length→j≤l.length→l.length - j<k→s1.length=l.length→s1.take i=(l.take j).filter (fun x=>!g x)→s1.drop j=l.drop j→
  ∃(s2:List Int) (i2:Nat) (z:Int),eW.l0 m l f k s1 (i:Int) (j:Int)=some (s2,(i2:Int),z)∧i2≤l.length∧s2.length=l.length∧s2.take i2=l.filter (fun x=>!g x)
 | 0,s1,i,j,h1,_,h2,h3,_,_,_=>by omega
 | k+1,s1,i,j,h1,h0,h2,h3,h4,h5,h6=>by
  simp only [eW.l0]
  by_cases hj:j<l.length
  ·have d:decide ((j:Int)<(l.length:Int))=true:=by rw [decide_eq_true_eq]; omega
   have el:=abD hj
   have e1:s1[j]? = some l[j]:=by
    have:=congrArg (fun z=>z[0]?) h6
    simp only [List.getElem?_drop,Nat.add_zero] at this
    rw [this,el]
   have et:l.take (j+1)=l.take j++[l[j]]:=(ab2 hj)
   have VI:i64.wrap ((j:Int)+1)=((j+1:Nat):Int):=by rw [lj (by omega) (by omega)]; omega
   have Z6:i64.wrap ((i:Int)+1)=((i+1:Nat):Int):=by rw [lj (by omega) (by omega)]; omega
   have hd:∀s3:List Int,s3.drop j=l.drop j→s3.drop (j+1)=l.drop (j+1):=fun s3 h=>by
    rw [ac8,←List.drop_drop,←List.drop_drop] at *
    rw [ac8] at *
    have a1:(s3.drop j).drop 1=(l.drop j).drop 1:=by rw [h]
    simpa [List.drop_drop,ac8] using a1
   rw [if_pos d,xU e1]
   simp only [abw,hf _ (abJ el),VI,Z6]
   cases hg:g l[j] with
   | true=>
    rw [if_neg (by decide)]
    exact sC l hl hf k s1 i (j+1) (by omega) h0 (by omega) (by omega) h4 (by rw [et,List.filter_append,h5]; simp [hg]) (hd s1 h6)
   | false=>
    rw [if_pos (by decide)]
    have i1:i<s1.length:=by omega
    have e2:=abD i1
    rw [xU e2,abw,abC]
    by_cases hi:i+1<l.length
    ·refine sC l hl hf k (s1.set i l[j]) (i+1) (j+1) (by omega) hi (by omega) (by omega) (by rw [abF,h4]) ?_ ?_
     ·rw [et,List.filter_append,←h5]
      have:(s1.set i l[j]).take (i+1)=s1.take i++[l[j]]:=by
       rw [ab2 (by rw [abF]; exact i1)]
       rw [List.take_set_of_le (abB _),List.getElem_set_self]
      rw [this]; simp [hg]
     ·rw [List.drop_set_of_lt (by omega)]
      exact hd s1 h6
    ·
     have CL:j+1=l.length:=by omega
     have zT:i=j:=by omega
     cases k with
     | zero=>omega
     | succ k=>
      simp only [eW.l0]
      have d2:decide (((j+1:Nat):Int)<(l.length:Int))=false:=by rw [decide_eq_false_iff_not]; omega
      rw [if_neg (by rw [d2]; decide)]
      refine⟨_,i+1,_,rfl,by omega,by rw [abF,h4],?_⟩
      have:(s1.set i l[j]).take (i+1)=s1.take i++[l[j]]:=by
       rw [ab2 (by rw [abF]; exact i1)]
       rw [List.take_set_of_le (abB _),List.getElem_set_self]
      have R5:l=l.take j++[l[j]]:=by rw [←et,CL,ace]
      rw [this,h5]
      conv=>rhs; rw [R5]
      rw [List.filter_append]; simp [hg]
  ·have d:decide ((j:Int)<(l.length:Int))=false:=by rw [decide_eq_false_iff_not]; omega
   rw [if_neg (by rw [d]; decide)]
   have CL:j=l.length:=by omega
   refine⟨_,i,_,rfl,by omega,h4,?_⟩
   rw [h5,CL,ace]
theorem Jp {f:Int→Option Bool}{g:Int→Bool}(hm:2000000≤m)(l:List Int)(hl:l.length≤1000000)(hf:∀x∈l,f x=some (g x)):eW.f m l f=some (l.filter fun x=>!g x):=by
 unfold eW.f
 rcases EX hm l hl hf with⟨j,e,j1,j2,j3⟩| ⟨e,h⟩
 ·rw [e,abw]
  have hne:((j:Int) == -1)=false:=by rw [beq_eq_false_iff_ne]; omega
  have VI:i64.wrap ((j:Int)+1)=((j+1:Nat):Int):=by rw [lj (by omega) (by omega)]; omega
  have el:=abD j1
  obtain⟨s2,i2,z,e2,g1,g2,g3⟩:=sC (m:=m) l hl hf m l j (j+1) (by omega) j1 (by omega) (by omega) rfl (by
   rw [ab2 j1,List.filter_append]
   have:(l.take j).filter (fun x=>!g x)=l.take j:=by
    rw [List.filter_eq_self]
    intro x hx
    obtain⟨q,hq⟩:=acG hx
    have VB:q<j:=by
     have:=(abG.1 hq).1
     rw [acm] at this; omega
    rw [List.getElem?_take_of_lt VB] at hq
    rw [j3 q VB x hq]; rfl
   rw [this]; simp [j2 _ el]) rfl
  rw [hne,if_neg (by decide),VI,e2]
  simp only [abw]
  have hc:Pk s2 (i2:Int)=some (s2.take i2++abM (s2.length - i2) 0):=by
   unfold Pk; rw [if_pos ⟨Int.natCast_nonneg _,by omega⟩,abC]
  rw [hc,abw]
  have hs:D4 (s2.take i2++abM (s2.length - i2) 0) 0 (i2:Int)=some (s2.take i2):=by
   unfold D4
   rw [if_pos ⟨Int.le_refl _,Int.natCast_nonneg _,by rw [abQ,acm,ac7]; omega⟩]
   congr 1
   simp only [abC,Int.toNat_zero,acn,Nat.sub_zero]
   rw [aca (by rw [acm]; omega),List.take_take,Nat.min_self]
  rw [hs,g3]; rfl
 ·rw [e,abw]
  have hb:((-1:Int) == -1)=true:=rfl
  rw [hb,if_pos rfl]
  congr 1
  rw [eq_comm,List.filter_eq_self]
  intro x hx; rw [h x hx]; rfl
def Z7 (N:List ah):Prop:=∀n,Rg N.length n→fu (gI N n) N.length=true∧((gI N n).kind=0→(gI N n).int=n)
structure Inv2 (s:aj):Prop where
 inv:Inv s
 cl:Cl s.ae (rp s.aB)
 vn:Z7 s.ae
theorem R6 (hm:2000000≤m)(v:Inv s)(n:Int):fb.f m s n=some (if Rg s.ae.length n then (rp s.aB n,0) else (0,1)):=by
 unfold fb.f
 rw [rf hm v.made [n] (by simp)]
 by_cases h:Rg s.ae.length n
 ·simp [h,Bp (m:=m) (by omega) v h]
 ·simp [h]
end
end Go.Proofs.YtifafejidnjckaaGreat
namespace Go.Proofs.YtifafejidnjckaaGreat
open Go Go.R
open Go.IntKind (i64 u64 u8 u32)
theorem wg:∀(x:List UInt8),Op.bytesLess x x=false
 | []=>rfl
 | a::x=>by simp [Op.bytesLess,wg x]
theorem zF:∀(x y:List UInt8),Op.bytesLess x y=true→Op.bytesLess y x=false
 | _,[],h=>by cases ‹List UInt8›<;>simp [Op.bytesLess] at h
 | [],b::y,_=>rfl
 | a::x,b::y,h=>by
  simp only [Op.bytesLess,acu,abA,decide_eq_true_eq,beq_iff_eq] at h
  simp only [Op.bytesLess,Bool.or_eq_false_iff,Bool.and_eq_false_iff,decide_eq_false_iff_not,beq_eq_false_iff_ne]
  rcases h with h | ⟨rfl,h⟩
  ·refine⟨fun h2=>?_,.inl fun e=>?_⟩
   ·rw [acV] at h h2; omega
   ·subst e; rw [acV] at h; omega
  ·exact⟨by rw [acV]; omega,.inr (zF x y h)⟩
theorem Jq:∀(x y:List UInt8),Op.bytesLess x y=true∨x=y∨Op.bytesLess y x=true
 | [],[]=>.inr (.inl rfl)
 | [],b::y=>.inl rfl
 | a::x,[]=>.inr (.inr rfl)
 | a::x,b::y=>by
  simp only [Op.bytesLess,acu,abA,decide_eq_true_eq,beq_iff_eq,List.cons.injEq]
  rcases Nat.lt_trichotomy a.toNat b.toNat with h | h | h
  ·exact .inl (.inl (acV.2 h))
  ·have:a=b:=UInt8.toNat_inj.1 h
   subst this
   rcases Jq x y with h1 | h1 | h1
   ·exact .inl (.inr ⟨rfl,h1⟩)
   ·exact .inr (.inl ⟨rfl,h1⟩)
   ·exact .inr (.inr (.inr ⟨rfl,h1⟩))
  ·exact .inr (.inr (.inl (acV.2 h)))
theorem BD:∀(x y z:List UInt8),Op.bytesLess x y=true→Op.bytesLess y z=true→Op.bytesLess x z=true
 | _,_,[],_,h=>by cases ‹List UInt8›<;>simp [Op.bytesLess] at h
 | _,[],c::z,h,_=>by cases ‹List UInt8›<;>simp [Op.bytesLess] at h
 | [],b::y,c::z,_,_=>rfl
 | a::x,b::y,c::z,h1,h2=>by
  simp only [Op.bytesLess,acu,abA,decide_eq_true_eq,beq_iff_eq] at h1 h2 ⊢
  rcases h1 with h1 | ⟨rfl,h1⟩
  ·rcases h2 with h2 | ⟨rfl,h2⟩
   ·left; rw [acV] at *; omega
   ·exact .inl h1
  ·rcases h2 with h2 | ⟨rfl,h2⟩
   ·exact .inl h2
   ·exact .inr ⟨rfl,BD x y z h1 h2⟩
theorem zG {x y:ByteArray}(h:x.data.toList=y.data.toList):x=y:=by
 cases x with | mk a=>cases y with | mk b=>cases a; cases b; simp only at h; subst h; rfl
structure OG {α:Type}(c:α→α→Int):Prop where
 zero:∀x y,c x y=0→x=y
 refl:∀x,c x x=0
 neg:∀x y,c y x = - c x y
 tr:∀x y z,c x y≤0→c y z≤0→c x z≤0
theorem ox:OG cI:=by
 refine⟨fun x y h=>?_,fun x=>?_,fun x y=>?_,fun x y z h1 h2=>?_⟩
 ·unfold cI at h; split at h
  ·omega
  ·split at h<;>omega
 ·unfold cI; simp
 ·unfold cI; split<;>split<;>(try split)<;>omega
 ·unfold cI at *
  split at h1<;>split at h2<;>(try split at h1)<;>(try split at h2)<;>(try omega)<;>split<;>(try split)<;>omega
theorem BE (x y:ByteArray):cS x y=if Op.bytesLess x.data.toList y.data.toList=true then -1 else if x=y then 0 else 1:=by
 unfold cS HU
 cases h:Op.bytesLess x.data.toList y.data.toList with
 | true=>rfl
 | false=>
  simp only [Bool.false_or,abK,if_false]
  by_cases e:x=y
  ·subst e; simp
  ·rw [if_neg e]
   have:(x.data.toList==y.data.toList)=false:=by
    rw [beq_eq_false_iff_ne]; exact fun h=>e (zG h)
   rw [this]; rfl
theorem Jr:OG cS:=by
 refine⟨fun x y h=>?_,fun x=>?_,fun x y=>?_,fun x y z h1 h2=>?_⟩
 ·rw [BE] at h
  split at h
  ·omega
  ·split at h
   ·assumption
   ·omega
 ·rw [BE,wg]; simp
 ·rw [BE,BE]
  rcases Jq x.data.toList y.data.toList with h | h | h
  ·have h2:=zF _ _ h
   have hne:¬y=x:=fun e=>by subst e; rw [wg] at h; cases h
   rw [if_pos h,h2]; simp [hne]
  ·have:=zG h
   subst this
   rw [wg]; simp
  ·have h2:=zF _ _ h
   have hne:¬x=y:=fun e=>by subst e; rw [wg] at h; cases h
   rw [if_pos h,h2]; simp [hne]
 ·rw [BE] at h1 h2 ⊢
  split at h1
  ·rename_i g1
   split at h2
   ·rename_i g2
    rw [if_pos (BD _ _ _ g1 g2)]; omega
   ·split at h2
    ·rename_i e; subst e; rw [if_pos g1]; omega
    ·omega
  ·split at h1
   ·rename_i e; subst e
    split at h2
    ·rename_i g2; rw [if_pos g2]; omega
    ·split at h2
     ·rename_i g e; rw [if_neg g,if_pos e]; omega
     ·omega
   ·omega
theorem Js {α β:Type}{c:α→α→Int}{d:β→β→Int}(C:OG c)(D:OG d):OG fun (p q:α × β)=>Gn (c p.1 q.1) (d p.2 q.2):=by
 refine⟨fun x y h=>?_,fun x=>?_,fun x y=>?_,fun x y z h1 h2=>?_⟩
 ·unfold Gn at h
  split at h
  ·rename_i h1; exact Prod.ext (C.zero _ _ h1) (D.zero _ _ h)
  ·exact absurd h ‹_›
 ·unfold Gn; rw [C.refl,if_pos rfl,D.refl]
 ·skip
  unfold Gn
  have:=C.neg x.1 y.1
  by_cases h:c x.1 y.1=0
  ·rw [if_pos h,if_pos (by omega),D.neg]
  ·rw [if_neg h,if_neg (by omega),C.neg]
 ·skip
  unfold Gn at *
  by_cases a:c x.1 y.1=0
  ·rw [if_pos a] at h1
   have e:=C.zero _ _ a
   rw [←e] at h2
   by_cases b:c x.1 z.1=0
   ·rw [if_pos b] at h2 ⊢; exact D.tr _ _ _ h1 h2
   ·rw [if_neg b] at h2 ⊢; exact h2
  ·rw [if_neg a] at h1
   have hz:c x.1 z.1≤0:=by
    by_cases b:c y.1 z.1=0
    ·rw [←C.zero _ _ b]; exact h1
    ·rw [if_neg b] at h2; exact C.tr _ _ _ h1 h2
   have hne:c x.1 z.1≠0:=fun e=>by
    have e1:=C.zero _ _ e
    by_cases b:c y.1 z.1=0
    ·have e2:=C.zero _ _ b; rw [e1,←e2] at a; exact a (C.refl _)
    ·rw [if_neg b,←e1] at h2
     have:=C.neg x.1 y.1; omega
   rw [if_neg hne]; exact hz
theorem E2:OG fun (p q:Int × ByteArray)=>Gn (cI p.1 q.1) (cS p.2 q.2):=Js ox Jr
theorem E3:OG fun (p q:ByteArray × Int)=>Gn (cS p.1 q.1) (cI p.2 q.2):=Js Jr ox
theorem ng {a b:ah}(h:a.kind=b.kind):cT a b=if a.kind=3 then Gn (cI a.args.length b.args.length) (cS a.label b.label) else Gn (cS a.label b.label) (cI a.int b.int):=by unfold cT; rw [if_pos h]
theorem kD {a b:ah}(h:a.kind≠b.kind):cT a b=cI a.kind b.kind:=by unfold cT; rw [if_neg h]
theorem jX (a b:ah):cT b a = - cT a b:=by
 by_cases h:a.kind=b.kind
 ·rw [ng h,ng h.symm,←h]
  split
  ·exact E2.neg ((a.args.length:Int),a.label) ((b.args.length:Int),b.label)
  ·exact E3.neg (a.label,a.int) (b.label,b.int)
 ·rw [kD h,kD (Ne.symm h)]; exact ox.neg _ _
theorem BF (a b c:ah)(h1:cT a b≤0)(h2:cT b c≤0):cT a c≤0:=by
 by_cases e1:a.kind=b.kind
 ·by_cases e2:b.kind=c.kind
  ·rw [ng e1] at h1
   rw [ng e2,←e1] at h2
   rw [ng (e1.trans e2)]
   split
   ·rename_i h3; rw [if_pos h3] at h1 h2
    exact E2.tr ((a.args.length:Int),a.label) ((b.args.length:Int),b.label) ((c.args.length:Int),c.label) h1 h2
   ·rename_i h3; rw [if_neg h3] at h1 h2
    exact E3.tr (a.label,a.int) (b.label,b.int) (c.label,c.int) h1 h2
  ·rw [kD e2] at h2
   rw [kD (by rw [e1]; exact e2),e1]; exact h2
 ·rw [kD e1] at h1
  by_cases e2:b.kind=c.kind
  ·rw [kD (by rw [←e2]; exact e1),←e2]; exact h1
  ·rw [kD e2] at h2
   have n1:cI a.kind b.kind≠0:=fun h=>e1 (ox.zero _ _ h)
   have n2:cI b.kind c.kind≠0:=fun h=>e2 (ox.zero _ _ h)
   by_cases e3:a.kind=c.kind
   ·rw [←e3] at h2
    have:=ox.neg a.kind b.kind
    omega
   ·rw [kD e3]; exact ox.tr _ _ _ h1 h2
structure Alike (a b:ah):Prop where
 kind:a.kind=b.kind
 int:a.int=b.int
 label:a.label=b.label
 len:a.args.length=b.args.length
theorem Alike.refl (a:ah):Alike a a:=⟨rfl,rfl,rfl,rfl⟩
theorem Alike.symm {a b:ah}(h:Alike a b):Alike b a:=⟨h.1.symm,h.2.symm,h.3.symm,h.4.symm⟩
theorem Alike.trans {a b c:ah}(h:Alike a b)(k:Alike b c):Alike a c:=⟨h.1.trans k.1,h.2.trans k.2,h.3.trans k.3,h.4.trans k.4⟩
theorem Alike.cT {a b:ah}(h:Alike a b):cT a b=0:=by
 rw [ng h.kind]
 split
 ·rw [h.len,h.label]; exact E2.refl ((b.args.length:Int),b.label)
 ·rw [h.label,h.int]; exact E3.refl (b.label,b.int)
theorem Jt {a b:ah}(h:cT a b=0)(ha:a.kind=3→a.int=0)(hb:b.kind=3→b.int=0)(Z8:a.kind≠3→a.args=[])(hb2:b.kind≠3→b.args=[]):Alike a b:=by
 by_cases e:a.kind=b.kind
 ·rw [ng e] at h
  split at h
  ·rename_i h3
   have:=E2.zero ((a.args.length:Int),a.label) ((b.args.length:Int),b.label) h
   simp only [abH] at this
   exact⟨e,by rw [ha h3,hb (by rw [←e]; exact h3)],this.2,by omega⟩
  ·rename_i h3
   have:=E3.zero (a.label,a.int) (b.label,b.int) h
   simp only [abH] at this
   exact⟨e,this.2,this.1,by rw [Z8 h3,hb2 (by rw [←e]; exact h3)]⟩
 ·rw [kD e] at h
  exact absurd (ox.zero _ _ h) e
theorem OH (l:List ah)(s:List Int):Ord (fun x y=>cT (nd l x) (nd l y)) s:=by
 refine⟨fun x _ y _ z _ h1 h2=>?_,fun x _ y _ h=>?_⟩
 ·skip
  have a1:=jX (nd l x) (nd l y)
  have a2:=jX (nd l y) (nd l z)
  have a3:=jX (nd l x) (nd l z)
  have:=BF (nd l x) (nd l y) (nd l z) (by omega) (by omega)
  omega
 ·skip
  have a1:=jX (nd l x) (nd l y)
  omega
end Go.Proofs.YtifafejidnjckaaGreat
namespace Go.Proofs.YtifafejidnjckaaGreat
open Go Go.R
open Go.IntKind (i64 u64 u8 u32)
structure Gr (l:List ah)(R:Nat→Nat→Prop):Prop where
 oY:∀i j,R i j→i<l.length∧j<l.length
 top:∀i j,R i j→Alike (nd l i) (nd l j)
 arg:∀i j,R i j→∀k,k<(nd l i).args.length→R (gt (nd l i).args k).toNat (gt (nd l j).args k).toNat
structure Min (l:List ah)(r:List Int):Prop where
 len:r.length=l.length
 top:∀i j,i<l.length→j<l.length→gt r i=gt r j→Alike (nd l i) (nd l j)
 arg:∀i j,i<l.length→j<l.length→gt r i=gt r j→∀k,k<(nd l i).args.length→gt r (gt (nd l i).args k).toNat=gt r (gt (nd l j).args k).toNat
 max:∀R,Gr l R→∀i j,R i j→gt r i=gt r j
theorem uh (a:ah):cT a a=0:=(Alike.refl a).cT
theorem w6 {a b c:ah}(h1:cT a b=0)(h2:cT b c=0):cT a c=0:=by
 have n1:=jX a b
 have n2:=jX b c
 have n3:=jX a c
 have t1:=BF a b c (by omega) (by omega)
 have t2:=BF c b a (by omega) (by omega)
 omega
theorem zH {l:List ah}{d:List Int}{k:Nat}:∀j,k≤j→rk l d k=rk l d j→cT (nd l (gt d k)) (nd l (gt d j))=0
 | 0,h,_=>by
   have:k=0:=by omega
   subst this; exact uh _
 | j+1,h,e=>by
  by_cases hk:k=j+1
  ·subst hk; exact uh _
  ·have m1:=zD l d k j (by omega)
   have e2:rk l d (j+1)=rk l d j+if cT (nd l (gt d j)) (nd l (gt d (j+1)))=0 then 0 else 1:=rfl
   by_cases hc:cT (nd l (gt d j)) (nd l (gt d (j+1)))=0
   ·rw [if_pos hc] at e2
    exact w6 (zH j (by omega) (by omega)) hc
   ·rw [if_neg hc] at e2; omega
theorem zI {l:List ah}{d:List Int}{n:Nat}(S:Sg (fun x y=>cT (nd l x) (nd l y)) d 0 n){k q:Nat}(hq:q<n)(h0:cT (nd l (gt d k)) (nd l (gt d q))=0):∀j,k≤j→j≤q→rk l d j=rk l d k
 | 0,h,_=>by
   have:k=0:=by omega
   subst this; rfl
 | j+1,h,hj=>by
  by_cases hk:k=j+1
  ·subst hk; rfl
  ·have ih:=zI S hq h0 j (by omega) (by omega)
   have Z9:cT (nd l (gt d k)) (nd l (gt d j))≤0:=by
    by_cases e:k=j
    ·subst e; rw [uh]; omega
    ·have:0≤cT (nd l (gt d j)) (nd l (gt d k)):=S k j (by omega) (by omega) (by omega)
     have n:=jX (nd l (gt d k)) (nd l (gt d j))
     omega
   have le2:cT (nd l (gt d (j+1))) (nd l (gt d q))≤0:=by
    by_cases e:j+1=q
    ·subst e; rw [uh]; omega
    ·have:0≤cT (nd l (gt d q)) (nd l (gt d (j+1))):=S (j+1) q (by omega) (by omega) hq
     have n:=jX (nd l (gt d (j+1))) (nd l (gt d q))
     omega
   have le3:cT (nd l (gt d q)) (nd l (gt d k))≤0:=by have n:=jX (nd l (gt d k)) (nd l (gt d q)); omega
   have le4:=BF _ _ _ (BF _ _ _ le2 le3) Z9
   have s1:=S j (j+1) (by omega) (by omega) (by omega)
   have n:=jX (nd l (gt d j)) (nd l (gt d (j+1)))
   have hz:cT (nd l (gt d j)) (nd l (gt d (j+1)))=0:=by
    have s1:0≤cT (nd l (gt d (j+1))) (nd l (gt d j)):=s1
    omega
   show rk l d j+(if cT (nd l (gt d j)) (nd l (gt d (j+1)))=0 then 0 else 1)=_
   rw [if_pos hz,ih]; rfl
def LJ (l:List ah)(out:List Int):Prop:=(∀i j,i<l.length→j<l.length→gt out i=gt out j→cT (nd l i) (nd l j)=0)∧∀R,Gr l R→∀i j,R i j→gt out i=gt out j
theorem Gs {l:List ah}{d out:List Int}(hp:d.Perm (ints l.length))(hs:Ord (fun x y=>cT (nd l x) (nd l y)) (ints l.length)→Sg (fun x y=>cT (nd l x) (nd l y)) d 0 l.length)(hg:∀k,k<l.length→gt out (gt d k).toNat=rk l d k):LJ l out:=by
 have S:=hs (OH _ _)
 have Vx:d.length=l.length:=by rw [hp.length_eq,fB]
 have pos:∀i,i<l.length→∃k,k<l.length∧gt d k=i∧gt out i=rk l d k:=fun i hi=>by
  obtain⟨k,hk,e⟩:=gq (hp.mem_iff.2 (jL.2 (show 0≤(i:Int)∧(i:Int)<l.length by omega)))
  have:=hg k (by omega)
  rw [e,abC] at this
  exact⟨k,by omega,e,this⟩
 refine⟨fun i j hi hj e=>?_,fun R B i j hR=>?_⟩
 ·obtain⟨k,hk,ek,VJ⟩:=pos i hi
  obtain⟨q,hq,eq,VK⟩:=pos j hj
  rw [VJ,VK] at e
  rw [←ek,←eq]
  rcases Nat.le_total k q with h | h
  ·exact zH q h (by omega)
  ·have:=zH (l:=l) (d:=d) k h (by omega)
   have n:=jX (nd l (gt d k)) (nd l (gt d q))
   omega
 ·obtain⟨hi,hj⟩:=B.oY i j hR
  obtain⟨k,hk,ek,VJ⟩:=pos i hi
  obtain⟨q,hq,eq,VK⟩:=pos j hj
  have h0:=(B.top i j hR).cT
  rw [←ek,←eq] at h0
  rw [VJ,VK]
  rcases Nat.le_total k q with h | h
  ·rw [zI S hq h0 q h (abB _)]
  ·have n:=jX (nd l (gt d k)) (nd l (gt d q))
   rw [zI S hk (by omega) k h (abB _)]
theorem Ju {l:List ah}(ok:lS l){out:List Int}{i j:Nat}(h1:(nd l i).args.length=(nd l j).args.length)(e:key out (nd l i) i=key out (nd l j) j):gt out i=gt out j∧∀k,k<(nd l i).args.length→gt out (gt (nd l i).args k).toNat=gt out (gt (nd l j).args k).toNat:=by
 unfold key at e
 have e1:=List.cons.inj e
 refine⟨by omega,fun k hk=>?_⟩
 have e2:=e1.2
 rw [h1] at e2
 have e3:=List.append_cancel_right e2
 have e4:=congrArg (fun z=>z[k]?) e3
 simp only [ab1] at e4
 rw [bP hk,bP (by omega)] at e4
 simp only [abE,abz] at e4
 omega
theorem Jv {l:List ah}(ok:lS l)(out:List Int)(many:Nat)(ks:List (List Int))(next:List Int)(P:Part l.length out many)(I:LJ l out)(K:sB l out l.length ks)(hn:next.length=l.length)
  (hg:∀i,i<l.length→gt next i=(ks.idxOf (key out (nd l i) i):Int)):LJ l next:=by
 refine⟨fun i j hi hj e=>?_,fun R B i j hR=>?_⟩
 ·rw [hg i hi,hg j hj] at e
  have e:ks.idxOf (key out (nd l i) i)=ks.idxOf (key out (nd l j) j):=by omega
  have m1:=acs ((K.mem _).2 ⟨i,hi,rfl⟩)
  have m2:=acs ((K.mem _).2 ⟨j,hj,rfl⟩)
  have g1:=List.getElem_idxOf m1
  have g2:=List.getElem_idxOf m2
  have g3:key out (nd l i) i=key out (nd l j) j:=by rw [←g1,←g2]; congr 1
  exact I.1 i j hi hj (by have:=(List.cons.inj g3).1; omega)
 ·obtain⟨hi,hj⟩:=B.oY i j hR
  rw [hg i hi,hg j hj]
  have hk:key out (nd l i) i=key out (nd l j) j:=by
   have hl:=(B.top i j hR).len
   unfold key
   rw [I.2 R B i j hR,hl]
   congr 2
   apply acx fun k=>?_
   simp only [ab1]
   by_cases h:k<(nd l i).args.length
   ·rw [bP h,bP (by omega)]
    simp only [abE,abz]
    rw [I.2 R B _ _ (B.arg i j hR k h)]
   ·rw [abU (by omega),abU (by omega)]
  rw [hk]
theorem OI {l:List ah}{r:List Int}{many:Nat}{ks:List (List Int)}(P:Part l.length r many)(K:sB l r l.length ks)(CC:ks.length=many+1){i j:Nat}(hi:i<l.length)(hj:j<l.length)(e:gt r i=gt r j):key r (nd l i) i=key r (nd l j) j:=by
 by_cases hne:key r (nd l i) i=key r (nd l j) j
 ·exact hne
 ·exfalso
  have hmi:=(K.mem _).2 ⟨i,hi,rfl⟩
  have hmj:=(K.mem _).2 ⟨j,hj,rfl⟩
  have hn:((acX (many+1)).map fun v:Nat=>((v:Int)+1)).Nodup:=by
   unfold List.Nodup
   rw [List.pairwise_map]
   exact List.Pairwise.imp (fun h=>by omega) List.nodup_range
  have:=hn.length_le_of_subset (l₂:=(ks.erase (key r (nd l j) j)).map fun k=>k.headD 0) (fun x hx=>by
   obtain⟨v,hv,rfl⟩:=abZ.1 hx
   obtain⟨q,hq,h⟩:=P.XL v (by have:=ac0.1 hv; omega)
   by_cases J4:key r (nd l q) q=key r (nd l j) j
   ·refine abZ.2 ⟨key r (nd l i) i,(List.mem_erase_of_ne hne).2 hmi,?_⟩
    have h1:=(List.cons.inj J4).1
    simp [key,e]
    omega
   ·exact abZ.2 ⟨_,(List.mem_erase_of_ne J4).2 ((K.mem _).2 ⟨q,hq,rfl⟩),by simp [key,h]⟩)
  rw [abL,abL,List.length_range,List.length_erase_of_mem hmj] at this
  omega
theorem ya {l:List ah}(hT:∀n∈l,LI n){i j:Nat}(hi:i<l.length)(hj:j<l.length)(h:cT (nd l i) (nd l j)=0):Alike (nd l i) (nd l j):=by
 have Ti:=hT _ (gQ (i:=(i:Int)) (by omega) (by omega))
 have Tj:=hT _ (gQ (i:=(j:Int)) (by omega) (by omega))
 have a3:∀{n:ah},LI n→n.kind=3→n.int=0:=fun T h=>by rcases T.kind with z | z | z | z | z<;>(have:=z.1; first | omega | exact z.2)
 have a0:∀{n:ah},LI n→n.kind≠3→n.args=[]:=fun T h=>by
  rcases T.kind with z | z | z | z | z
  ·exact z.2.2.2
  ·exact z.2.2.2
  ·exact z.2.2
  ·exact absurd z.1 h
  ·exact z.2
 exact Jt h (a3 Ti) (a3 Tj) (a0 Ti) (a0 Tj)
theorem nh {m:Nat}(hm:2 ^ 41≤m){t:aZ}(h:fM t=true) :
  ∃cls ns,eF.f m t=some ⟨ns,0⟩∧Min t.nodes cls∧Ps cls t.nodes [] (tc cls t.nodes m t.root []) [] ns∧fQ cls t.root∈(tc cls t.nodes m t.root []).map (fQ cls):=by
 obtain⟨ok,h1,r0,r1,hT⟩:=jW h
 obtain⟨cls,many,ks,ns,e,P,I,K,CC,Q,hr⟩:=we hm ok h1 r0 r1 (LJ t.nodes) (fun d out hp hs hg=>Gs hp hs hg) (fun out many ks next P I K hn hg=>Jv ok out many ks next P I K hn hg)
 refine⟨cls,ns,e,⟨P.len,fun i j hi hj e=>ya hT hi hj (I.1 i j hi hj e),fun i j hi hj e k hk=>?_,I.2⟩,Q,hr⟩
 have hA:=ya hT hi hj (I.1 i j hi hj e)
 exact (Ju ok hA.len (OI P K CC hi hj e)).2 k hk
end Go.Proofs.YtifafejidnjckaaGreat
