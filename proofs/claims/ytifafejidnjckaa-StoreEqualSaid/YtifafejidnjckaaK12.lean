/- Part of the proof: PS4, PS5, PT7, PT8, PT9, PT10, PR2, PR3, PR4, PR5, PR6, PR9, PT12, PA7, PB1, PB2, PB4. -/
import Derived.Test.YtifafejidnjckaaK11
set_option linter.unusedVariables false
set_option linter.unusedSimpArgs false
set_option maxRecDepth 100000
open Bool renaming and_eq_true → XN, false_eq_true → XX, or_eq_true → Yw, not_true → YQ
open ByteArray renaming mk → Yv
open Int renaming toNat_natCast → XY, natCast_nonneg → Y5
open List renaming getElem?_eq_getElem → XO, getElem?_eq_some_iff → XQ, mem_of_getElem? → XT, length_append → XU, length_set → XV, drop_eq_getElem_cons → XW, getElem?_append_left → XZ, length_map → X0, getElem?_append_right → X1, length_cons → X2, append_assoc → X3, getD_eq_getElem?_getD → X4, all_eq_true → X5, replicate → X6, mem_cons → X7, map_cons → X8, mem_singleton → X9, getElem?_eq_none → Yc, map_append → Ye, length_nil → Yf, mem_append → Yg, take_append_of_le_length → Yi, mem_map → Yo, cons_append → Yq, nil_append → Yr, drop_zero → Ys, take_succ_eq_append_getElem → Yu, mem_append_left → Yy, all_cons → YA, getElem?_map → YB, getElem?_of_mem → YC, length_take → YD, idxOf_lt_length_of_mem → YE, ext_getElem? → YS, set_append_right → YV, map_congr_left → Y0, length_replicate → Za, nodup_append → Zc, map_nil → Ze, take_length → Zf
open Nat renaming le_refl → XP, zero_add → Ya, mul_le_mul_right → YF, sub_self → YP, add_zero → Y3, add_comm → Zd
open Option renaming bind_some → XJ, map_some → XR
open Option.some renaming injEq → XM, inj → Yj
open Prod.mk renaming injEq → XS
open UInt8 renaming lt_iff_toNat_lt → YX
namespace Go.Proofs.Ytifafejidnjckaa
open Go Go.R
open Go.IntKind (i64 u64 u8 u32)
section
variable {m:Nat}{cmp:Int→Int→Option Int}{c:Int→Int→Int}
theorem ub {l d:List Int}{a q b M E x:Nat}(h1:a≤x)(h2:x≤M)(h3:x≤q)(h4:q≤E)(h5:E≤b)(h6:E+x=M+q)(hb:b≤l.length)
  (R:Mf l d x (q - x) (E - q)) (O:Ord c l) (F1:a<x→E<b→0≤c (gt l E) (gt l (x - 1))) (F2:x<q→q<E→c (gt l (E - 1)) (gt l x)<0)
  (S1:Sg c l a q) (S2:Sg c l q b) :
  Sg c d a x∧Sg c d x M∧Sg c d M E∧Sg c d E b∧(∀i j,a≤i→i<M→M≤j→j<b→0≤c (gt d j) (gt d i)):=by
 obtain⟨R1,R2,R3,R4⟩:=R
 have g1:∀k,k<x→gt d k=gt l k:=fun k hk=>R4 k (.inl hk)
 have g2:∀k,x≤k→k<M→gt d k=gt l (q+(k - x)):=fun k hk sS=>by
  have:=R2 (k - x) (by omega)
  rw [show x+(k - x)=k by omega,show x+(q - x)+(k - x)=q+(k - x) by omega] at this
  exact this
 have g3:∀k,M≤k→k<E→gt d k=gt l (x+(k - M)):=fun k hk sS=>by
  have:=R3 (k - M) (by omega)
  rw [show x+(E - q)+(k - M)=k by omega] at this
  exact this
 have g4:∀k,E≤k→gt d k=gt l k:=fun k hk=>R4 k (.inr (by omega))
 refine⟨fun i j k1 k2 k3=>?_,fun i j k1 k2 k3=>?_,fun i j k1 k2 k3=>?_,fun i j k1 k2 k3=>?_,fun i j k1 k2 k3 k4=>?_⟩
 ·rw [g1 i (by omega),g1 j (by omega)]; exact S1 _ _ k1 k2 (by omega)
 ·rw [g2 i (by omega) (by omega),g2 j (by omega) (by omega)]; exact S2 _ _ (by omega) (by omega) (by omega)
 ·rw [g3 i (by omega) (by omega),g3 j (by omega) (by omega)]; exact S1 _ _ (by omega) (by omega) (by omega)
 ·rw [g4 i (by omega),g4 j (by omega)]; exact S2 _ _ (by omega) (by omega) (by omega)
 ·by_cases hi:i<x
  ·rw [g1 i hi]
   by_cases hj:j<E
   ·rw [g3 j k3 hj]; exact S1 _ _ k1 (by omega) (by omega)
   ·rw [g4 j (by omega)]
    have f1:=F1 (by omega) (by omega)
    have f2:=S1.le O k1 (show i≤x - 1 by omega) (by omega) (by omega)
    have f3:=S2.le O (show q≤E from h4) (show E≤j by omega) k4 hb
    exact O.tr _ (bX (by omega)) _ (bX (show E<l.length by omega)) _ (bX (by omega)) (O.tr _ (bX (by omega)) _ (bX (show x - 1<l.length by omega)) _ (bX (by omega)) f2 f1) f3
  ·rw [g2 i (by omega) k2]
   by_cases hj:j<E
   ·rw [g3 j k3 hj]
    have f1:=O.Mg _ (bX (show E - 1<l.length by omega)) _ (bX (show x<l.length by omega)) (F2 (by omega) (by omega))
    have f2:=S2.le O (show q≤q+(i - x) by omega) (show q+(i - x)≤E - 1 by omega) (by omega) hb
    have f3:=S1.le O h1 (show x≤x+(j - M) by omega) (by omega) (by omega)
    exact O.tr _ (bX (by omega)) _ (bX (show x<l.length by omega)) _ (bX (by omega)) (O.tr _ (bX (by omega)) _ (bX (show E - 1<l.length by omega)) _ (bX (by omega)) f2 f1) f3
   ·rw [g4 j (by omega)]; exact S2 _ _ (by omega) (by omega) k4
theorem GL {l:List Int}{x i j:Nat}(h:i=0∨j=0):Mf l l x i j:=
 ⟨List.Perm.refl _,fun k hk=>by rw [show i=0 by omega,Y3],fun k hk=>by rw [show j=0 by omega,Y3],fun _ _=>rfl⟩
theorem Lx {l d:List Int}{x i j a b:Nat}(R:Mf l d x i j)(h1:a≤x)(h2:x+i+j≤b):Mv a b l d:=by
 obtain⟨R1,R2,R3,R4⟩:=R
 refine⟨R1,fun k hk=>R4 k (by omega),fun k k1 k2=>?_⟩
 by_cases g1:k<x∨x+i+j≤k
 ·exact⟨k,k1,k2,R4 k g1⟩
 ·by_cases g2:k<x+j
  ·have:=R2 (k - x) (by omega)
   rw [show x+(k - x)=k by omega] at this
   exact⟨_,by omega,by omega,this⟩
  ·have:=R3 (k - x - j) (by omega)
   rw [show x+j+(k - x - j)=k by omega] at this
   exact⟨_,by omega,by omega,this⟩
theorem pX (hm:2 ^ 41≤m):∀(f:Nat) (l:List Int) (a q b:Nat),b - a<f→a<q→q<b→b≤l.length→l.length<2 ^ 40→Cm cmp c l→
  ∃d,aL.f m f l (a:Int) (q:Int) (b:Int) cmp=some d∧Mv a b l d∧(Ord c l→Sg c l a q→Sg c l q b→Sg c d a b)
 | 0,l,a,q,b,hf,_,_,_,_,_=>absurd hf (by omega)
 | f+1,l,a,q,b,hf,h1,h2,h3,hs,C=>by
  have ux:(2:Nat) ^ 40=1099511627776:=by decide
  have xo:(2:Nat) ^ 41=2199023255552:=by decide
  have RQ:(2:Nat) ^ 42=4398046511104:=by decide
  unfold aL.f
  unfold aL.b
  have e1:i64.wrap ((q:Int) - (a:Int))=((q - a:Nat):Int):=by rw [bM (by omega) (by omega)]; omega
  have e2:i64.wrap ((b:Int) - (q:Int))=((b - q:Nat):Int):=by rw [bM (by omega) (by omega)]; omega
  have hM:=zh (a:=a) (b:=b) (by omega)
  rw [e1,e2,hM]
  by_cases RR:q - a=1
  ·obtain⟨x,k1,k2,k3,k4,k5⟩:=AY (m:=m) (a:=a) (by omega) hs C m q b (by omega) (by omega) h3
   obtain⟨d,y,g1,g2,g3⟩:=GJ (m:=m) (l:=l) (a:=a) (x:=x) (by omega) (by omega) hs m a l (by omega) (XP _) (by omega) Mv.refl (fun t=>by rw [if_neg (by omega)]; split<;>simp_all)
   rw [if_pos (by simp; omega),k1,XJ]
   dsimp only
   rw [g1]
   refine⟨d,rfl,g2.wide (XP _) k3,fun O S1 S2 i j r1 r2 r3=>?_⟩
   have A1:∀t,a≤t→t+1<x→gt d t=gt l (t+1):=fun t w1 w2=>by rw [g3 t,if_pos ⟨w1,w2⟩]
   have A2:∀t,t+1=x→gt d t=gt l a:=fun t w1=>by rw [g3 t,if_neg (by omega),if_pos w1]
   have A3:∀t,x≤t→gt d t=gt l t:=fun t w1=>by rw [g3 t,if_neg (by omega),if_neg (by omega)]
   by_cases i1:i+1<x
   ·rw [A1 i r1 i1]
    by_cases j1:j+1<x
    ·rw [A1 j (by omega) j1]; exact S2 _ _ (by omega) (by omega) (by omega)
    ·have f1:=O.Mg _ (bX (show x - 1<l.length by omega)) _ (bX (show a<l.length by omega)) (k4 (by omega))
     have f2:=S2.le O (show q≤i+1 by omega) (show i+1≤x - 1 by omega) (by omega) h3
     by_cases j2:j+1=x
     ·rw [A2 j j2]
      exact O.tr _ (bX (by omega)) _ (bX (show x - 1<l.length by omega)) _ (bX (by omega)) f2 f1
     ·rw [A3 j (by omega)]; exact S2 _ _ (by omega) (by omega) (by omega)
   ·rw [A3 j (by omega)]
    by_cases i2:i+1=x
    ·rw [A2 i i2]
     have f1:=k5 (by omega)
     have f2:=S2.le O (show q≤x by omega) (show x≤j by omega) r3 h3
     exact O.tr _ (bX (by omega)) _ (bX (show x<l.length by omega)) _ (bX (by omega)) f1 f2
    ·rw [A3 i (by omega)]; exact S2 _ _ (by omega) r2 r3
  rw [if_neg (by simp; omega)]
  by_cases hb1:b - q=1
  ·obtain⟨x,k1,k2,k3,k4,k5⟩:=AZ (m:=m) (q:=q) (by omega) hs C m a q (by omega) (by omega) (by omega)
   obtain⟨d,y,g1,g2,g3⟩:=GK (m:=m) (l:=l) (q:=q) (x:=x) (by omega) (by omega) hs m q l (by omega) (by omega) (XP _) Mv.refl (fun t=>by rw [if_neg (by omega)]; split<;>simp_all)
   rw [if_pos (by simp; omega),k1,XJ]
   dsimp only
   rw [g1]
   refine⟨d,rfl,g2.wide k2 (by omega),fun O S1 S2 i j r1 r2 r3=>?_⟩
   have A1:∀t,x<t→t≤q→gt d t=gt l (t - 1):=fun t w1 w2=>by rw [g3 t,if_pos ⟨w1,w2⟩]
   have A2:gt d x=gt l q:=by rw [g3 x,if_neg (by omega),if_pos rfl]
   have A3:∀t,t<x→gt d t=gt l t:=fun t w1=>by rw [g3 t,if_neg (by omega),if_neg (by omega)]
   by_cases i1:x<i
   ·rw [A1 i i1 (by omega),A1 j (by omega) (by omega)]
    exact S1 _ _ (by omega) (by omega) (by omega)
   ·by_cases i2:i=x
    ·subst i2
     rw [A2,A1 j (by omega) (by omega)]
     have f1:=O.Mg _ (bX (show q<l.length by omega)) _ (bX (show i<l.length by omega)) (k5 (by omega))
     have f2:=S1.le O r1 (show i≤j - 1 by omega) (by omega) (by omega)
     exact O.tr _ (bX (by omega)) _ (bX (show i<l.length by omega)) _ (bX (by omega)) f1 f2
    ·rw [A3 i (by omega)]
     by_cases j1:x<j
     ·rw [A1 j j1 (by omega)]
      exact S1.le O r1 (by omega) (by omega) (by omega)
     ·have f1:=k4 (by omega)
      have f2:=S1.le O r1 (show i≤x - 1 by omega) (by omega) (by omega)
      by_cases j2:j=x
      ·subst j2
       rw [A2]
       exact O.tr _ (bX (by omega)) _ (bX (show j - 1<l.length by omega)) _ (bX (by omega)) f2 f1
      ·rw [A3 j (by omega)]; exact S1 _ _ r1 r2 (by omega)
  rw [if_neg (by simp; omega)]
  refine Lw ?_
  intro z hz
  have TX:∃s r:Nat,z=((s:Int),(r:Int))∧((q > (a+b) / 2∧s=(a+b) / 2+q - b∧r=(a+b) / 2)∨(q≤(a+b) / 2∧s=a∧r=q)):=by
   rcases hz with⟨hc,rfl⟩| ⟨hc,rfl⟩
   ·refine⟨(a+b) / 2+q - b,(a+b) / 2,?_,.inl ⟨by simp only [decide_eq_true_eq] at hc; omega,rfl,rfl⟩⟩
    simp only [XS,and_true]
    simp only [decide_eq_true_eq] at hc
    rw [bM (x:=(((a+b) / 2:Nat):Int)+(q:Int)) (by omega) (by omega),bM (by omega) (by omega)]
    omega
   ·refine⟨a,q,rfl,.inr ⟨?_,rfl,rfl⟩⟩
    simp only [decide_eq_false_iff_not] at hc
    omega
  obtain⟨s,r,rfl,TX⟩:=TX
  clear hz
  dsimp only
  obtain⟨x,k1,k2,k3,k4,k5⟩:=A0 (m:=m) (a:=a) (b:=b) (q:=q) (by omega) hs C m s r (by omega) (by omega) (by omega) (by omega) (by omega)
  rw [k1,XJ]
  dsimp only
  generalize Xy:(a+b) / 2=M at *
  obtain⟨E,hE⟩:∃E,E=M+q - x:=⟨_,rfl⟩
  have eE:i64.wrap (i64.wrap ((M:Int)+(q:Int)) - (x:Int))=(E:Int):=by
   rw [bM (x:=(M:Int)+(q:Int)) (by omega) (by omega),bM (by omega) (by omega)]
   omega
  rw [eE]
  rw [←hE] at k4 k5
  have c1:a≤x:=by omega
  have c2:x≤M:=by omega
  have c3:x≤q:=by omega
  have c4:q≤E:=by omega
  have c5:E≤b:=by omega
  have c6:E+x=M+q:=by omega
  have c7:M≤E:=by omega
  have F1:a<x→E<b→0≤c (gt l E) (gt l (x - 1)):=fun _ _=>k4 (by omega)
  have F2:x<q→q<E→c (gt l (E - 1)) (gt l x)<0:=fun _ _=>k5 (by omega)
  refine GI (fun d=>Mf l d x (q - x) (E - q)) (fun u1 u2=>?_) (fun u=>?_) ?_
  ·simp only [decide_eq_true_eq] at u1 u2
   exact GC hm (by omega) (by omega) (by omega) hs
  ·simp only [decide_eq_true_eq] at u
   exact GL (by omega)
  intro d5 R
  try dsimp only
  have M5:Mv a b l d5:=Lx R c1 (by omega)
  have l5:=M5.length
  refine GI (fun d=>Mv a M d5 d∧(Ord c l→Sg c l a q→Sg c l q b→Sg c d a M)) (fun u1 u2=>?_) (fun u=>?_) ?_
  ·simp only [decide_eq_true_eq] at u1 u2
   obtain⟨d,g1,g2,g3⟩:=pX hm f d5 a x M (by omega) (by omega) (by omega) (by omega) (by omega) (C.perm M5.perm)
   refine⟨d,g1,g2,fun O S1 S2=>?_⟩
   obtain⟨v1,v2,v3,v4,v5⟩:=ub c1 c2 c3 c4 c5 c6 h3 R O F1 F2 S1 S2
   exact g3 (O.perm M5.perm) v1 v2
  ·simp only [decide_eq_true_eq] at u
   refine⟨Mv.refl,fun O S1 S2=>?_⟩
   obtain⟨v1,v2,v3,v4,v5⟩:=ub c1 c2 c3 c4 c5 c6 h3 R O F1 F2 S1 S2
   by_cases ua:a=x
   ·rw [ua]; exact v2
   ·rw [show M=x by omega]; exact v1
  rintro d6 ⟨M6,S6⟩
  try dsimp only
  have l6:=M6.length
  have RU:=M5.trans (M6.wide (XP _) (by omega))
  have fin:∀d,Mv M b d6 d→(Ord c l→Sg c l a q→Sg c l q b→Sg c d M b)→Mv a b l d∧(Ord c l→Sg c l a q→Sg c l q b→Sg c d a b):=by
   intro d M7 S7
   refine⟨RU.trans (M7.wide (by omega) (XP _)),fun O S1 S2 i j r1 r2 r3=>?_⟩
   obtain⟨v1,v2,v3,v4,v5⟩:=ub c1 c2 c3 c4 c5 c6 h3 R O F1 F2 S1 S2
   by_cases hj:j<M
   ·rw [M7.out i (by omega),M7.out j (by omega)]
    exact S6 O S1 S2 _ _ r1 r2 hj
   ·by_cases hi:M≤i
    ·exact S7 O S1 S2 _ _ hi r2 r3
    ·obtain⟨j',y1,y2,y3⟩:=M7.im j (by omega) r3
     obtain⟨i',w1,w2,w3⟩:=M6.im i r1 (by omega)
     rw [M7.out i (by omega),y3,M6.out j' (by omega),w3]
     exact v5 _ _ w1 w2 y1 y2
  refine RN (fun u1 u2=>?_) (fun u=>?_)
  ·simp only [decide_eq_true_eq] at u1 u2
   obtain⟨d,g1,g2,g3⟩:=pX hm f d6 M E b (by omega) (by omega) (by omega) (by omega) (by omega) (C.perm RU.perm)
   refine⟨d,g1,fin d g2 fun O S1 S2=>?_⟩
   obtain⟨v1,v2,v3,v4,v5⟩:=ub c1 c2 c3 c4 c5 c6 h3 R O F1 F2 S1 S2
   refine g3 (O.perm RU.perm) (fun i j y1 y2 y3=>?_) (fun i j y1 y2 y3=>?_)
   ·rw [M6.out i (by omega),M6.out j (by omega)]; exact v3 _ _ y1 y2 y3
   ·rw [M6.out i (by omega),M6.out j (by omega)]; exact v4 _ _ y1 y2 y3
  ·simp only [decide_eq_true_eq] at u
   refine fin d6 Mv.refl fun O S1 S2 i j y1 y2 y3=>?_
   obtain⟨v1,v2,v3,v4,v5⟩:=ub c1 c2 c3 c4 c5 c6 h3 R O F1 F2 S1 S2
   rw [M6.out i (by omega),M6.out j (by omega)]
   by_cases ue:M=E
   ·exact v4 _ _ (by omega) y2 y3
   ·exact v3 _ _ y1 y2 (by omega)
end
end Go.Proofs.Ytifafejidnjckaa
namespace Go.Proofs.Ytifafejidnjckaa
open Go Go.R
open Go.IntKind (i64 u64 u8 u32)
section
variable {m:Nat}{cmp:Int→Int→Option Int}{c:Int→Int→Int}
def NU (c:Int→Int→Int)(d:List Int)(bs n:Nat):Prop:=∀k i j,k*bs≤i→i<j→j<k*bs+bs→j<n→0≤c (gt d j) (gt d i)
theorem GM (hm:2 ^ 41≤m){n:Nat}{l:List Int}(hn:n=l.length)(hs:l.length<2 ^ 40)(C:Cm cmp c l):∀(f t:Nat) (d:List Int),n - 20*t<f→20*t≤n→Mv 0 (20*t) l d→
  (Ord c l→∀k,k<t→Sg c d (20*k) (20*k+20))→
  ∃d' t' y,bV.l0 m (n:Int) cmp f d ((20*t:Nat):Int) ((20*t+20:Nat):Int)=some (d',((20*t':Nat):Int),y)∧20*t'≤n∧n<20*t'+20∧Mv 0 (20*t') l d'∧(Ord c l→∀k,k<t'→Sg c d' (20*k) (20*k+20))
 | 0,t,d,hf,_,_,_=>absurd hf (by omega)
 | f+1,t,d,hf,h1,M,S=>by
  have ux:(2:Nat) ^ 40=1099511627776:=by decide
  have xo:(2:Nat) ^ 41=2199023255552:=by decide
  have hl:=M.length
  unfold bV.l0
  by_cases h:20*t+20≤n
  ·obtain⟨d1,e1,M1,S1⟩:=zk (a:=20*t) (b:=20*t+20) (cmp:=cmp) (c:=c) hm (l:=d) (by omega) (by omega) (by omega) (C.perm M.perm)
   rw [if_pos (by simp only [decide_eq_true_eq]; omega),e1,XJ,bM (x:=((20*t+20:Nat):Int)+20) (by omega) (by omega)]
   have:=GM hm hn hs C f (t+1) d1 (by omega) (by omega) ((M.wide (XP _) (by omega)).trans (M1.wide (by omega) (by omega))) (fun O k hk i j k1 k2 k3=>by
    by_cases HQ:k=t
    ·subst HQ; exact S1 (O.perm M.perm) _ _ k1 k2 k3
    ·rw [M1.out i (by omega),M1.out j (by omega)]; exact S O k (by omega) _ _ k1 k2 k3)
   rw [show ((20*(t+1):Nat):Int)=((20*t+20:Nat):Int) by omega,show ((20*(t+1)+20:Nat):Int)=((20*t+20:Nat):Int)+20 by omega] at this
   exact this
  ·exact⟨d,t,_,by rw [if_neg (by simp only [decide_eq_true_eq]; omega)],h1,by omega,M,S⟩
theorem GN (hm:2 ^ 41≤m){n bs:Nat}{l:List Int}(hn:n=l.length)(hs:l.length<2 ^ 40)(hb:0<bs)(Ff:bs<n)(C:Cm cmp c l)(B:Ord c l→NU c l bs n):∀(f t:Nat) (d:List Int),n - t*(2*bs)<f→t*(2*bs)≤n→Mv 0 (t*(2*bs)) l d→
  (Ord c l→∀k,k<t→Sg c d (k*(2*bs)) (k*(2*bs)+2*bs))→
  ∃d' t' y,bV.l2 m (n:Int) cmp (bs:Int) f d ((t*(2*bs):Nat):Int) ((t*(2*bs)+2*bs:Nat):Int)=some (d',((t'*(2*bs):Nat):Int),y)∧t'*(2*bs)≤n∧n<t'*(2*bs)+2*bs∧Mv 0 (t'*(2*bs)) l d'∧(Ord c l→∀k,k<t'→Sg c d' (k*(2*bs)) (k*(2*bs)+2*bs))
 | 0,t,d,hf,_,_,_=>absurd hf (by omega)
 | f+1,t,d,hf,h1,M,S=>by
  have ux:(2:Nat) ^ 40=1099511627776:=by decide
  have xo:(2:Nat) ^ 41=2199023255552:=by decide
  have hl:=M.length
  unfold bV.l2
  have ht:(t+1)*(2*bs)=t*(2*bs)+2*bs:=Nat.succ_mul _ _
  have q1:(2*t)*bs=t*(2*bs):=by rw [Nat.mul_assoc,Nat.mul_left_comm]
  have q2:(2*t+1)*bs=t*(2*bs)+bs:=by rw [Nat.succ_mul,q1]
  by_cases h:t*(2*bs)+2*bs≤n
  ·have S0:Ord c l→Sg c d (t*(2*bs)) (t*(2*bs)+bs):=fun O i j k1 k2 k3=>by
    rw [M.out i (by omega),M.out j (by omega)]; exact B O (2*t) i j (by omega) k2 (by omega) (by omega)
   have VY:Ord c l→Sg c d (t*(2*bs)+bs) (t*(2*bs)+2*bs):=fun O i j k1 k2 k3=>by
    rw [M.out i (by omega),M.out j (by omega)]; exact B O (2*t+1) i j (by omega) k2 (by omega) (by omega)
   have hk:∀k,k<t→k*(2*bs)+2*bs≤t*(2*bs):=fun k hk=>by
    rw [←Nat.succ_mul]; exact YF _ hk
   generalize hA:t*(2*bs)=A at *
   obtain⟨d1,e1,M1,S1⟩:=pX (cmp:=cmp) (c:=c) hm m d A (A+bs) (A+2*bs) (by omega) (by omega) (by omega) (by omega) (by omega) (C.perm M.perm)
   have e0:i64.wrap ((A:Int)+(bs:Int))=((A+bs:Nat):Int):=by rw [bM (by omega) (by omega)]; omega
   have e2:i64.wrap ((2:Int)*(bs:Int))=((2*bs:Nat):Int):=by rw [bM (by omega) (by omega)]; omega
   have e3:i64.wrap (((A+2*bs:Nat):Int)+((2*bs:Nat):Int))=((A+2*bs+2*bs:Nat):Int):=by rw [bM (by omega) (by omega)]; omega
   rw [if_pos (by simp only [decide_eq_true_eq]; omega),e0,e1,XJ,e2,e3]
   have:=GN hm hn hs hb Ff C B f (t+1) d1 (by omega) (by omega) (by rw [ht]; exact (M.wide (XP _) (by omega)).trans (M1.wide (by omega) (by omega))) (fun O k sS i j k1 k2 k3=>by
    by_cases HQ:k=t
    ·subst HQ; rw [hA] at k1 k3; exact S1 (O.perm M.perm) (S0 O) (VY O) _ _ k1 k2 k3
    ·have:=hk k (by omega)
     rw [M1.out i (by omega),M1.out j (by omega)]; exact S O k (by omega) _ _ k1 k2 k3)
   rw [ht] at this
   exact this
  ·exact⟨d,t,_,by rw [if_neg (by simp only [decide_eq_true_eq]; omega)],h1,by omega,M,S⟩
theorem A4 (hm:2 ^ 41≤m){n:Nat}:∀(f bs:Nat) (l:List Int),n=l.length→l.length<2 ^ 40→Cm cmp c l→n - bs<f→0<bs→bs<2 ^ 42→(Ord c l→NU c l bs n)→
  ∃d y,bV.l1 m (n:Int) cmp f l (bs:Int)=some (d,y)∧d.Perm l∧(Ord c l→Sg c d 0 n)
 | 0,bs,l,_,_,_,hf,_,_,_=>absurd hf (by omega)
 | f+1,bs,l,hn,hs,C,hf,hb,hb2,B=>by
  have ux:(2:Nat) ^ 40=1099511627776:=by decide
  have xo:(2:Nat) ^ 41=2199023255552:=by decide
  have RQ:(2:Nat) ^ 42=4398046511104:=by decide
  unfold bV.l1
  by_cases h:bs<n
  ·have e2:i64.wrap ((2:Int)*(bs:Int))=((2*bs:Nat):Int):=by rw [bM (by omega) (by omega)]; omega
   have e3:i64.wrap ((bs:Int)*(2:Int))=((2*bs:Nat):Int):=by rw [bM (by omega) (by omega)]; omega
   obtain⟨d1,t,y,k1,k2,k3,M1,S1⟩:=GN (cmp:=cmp) (c:=c) hm hn hs hb h C B m 0 l (by omega) (by omega) Mv.refl (fun O k hk=>absurd hk (by omega))
   have l1:=M1.length
   simp only [Nat.zero_mul,Ya] at k1
   have k1:bV.l2 m (n:Int) cmp (bs:Int) m l (0:Int) ((2*bs:Nat):Int)=_:=k1
   rw [if_pos (by simp only [decide_eq_true_eq]; omega),e2,k1,XJ]
   dsimp only
   rw [e3]
   have q1:(2*t)*bs=t*(2*bs):=by rw [Nat.mul_assoc,Nat.mul_left_comm]
   have q2:(2*t+1)*bs=t*(2*bs)+bs:=by rw [Nat.succ_mul,q1]
   have hk:∀k,k<t→k*(2*bs)+2*bs≤t*(2*bs):=fun k hk=>by
    rw [←Nat.succ_mul]; exact YF _ hk
   have sS:∀k,t<k→t*(2*bs)+2*bs≤k*(2*bs):=fun k hk=>by
    rw [←Nat.succ_mul]; exact YF _ hk
   have e0:i64.wrap (((t*(2*bs):Nat):Int)+(bs:Int))=((t*(2*bs)+bs:Nat):Int):=by rw [bM (by omega) (by omega)]; omega
   rw [e0]
   by_cases h2:t*(2*bs)+bs<n
   ·obtain⟨d2,e4,M2,S2⟩:=pX (cmp:=cmp) (c:=c) hm m d1 (t*(2*bs)) (t*(2*bs)+bs) n (by omega) (by omega) (by omega) (by omega) (by omega) (C.perm M1.perm)
    rw [if_pos (by simp only [decide_eq_true_eq]; omega),e4,XJ]
    have P2:=M2.perm.trans M1.perm
    obtain⟨d,y,g1,g2,g3⟩:=A4 (n:=n) hm f (2*bs) d2 (by have:=P2.length_eq; omega) (by have:=P2.length_eq; omega) (C.perm P2) (by omega) (by omega) (by omega) (fun O k i j w1 w2 w3 w4=>by
     have O:=O.perm P2.symm
     by_cases u1:k<t
     ·have:=hk k u1
      rw [M2.out i (by omega),M2.out j (by omega)]; exact S1 O k u1 _ _ w1 w2 w3
     ·by_cases u2:k=t
      ·subst u2
       refine S2 (O.perm M1.perm) (fun i j x1 x2 x3=>?_) (fun i j x1 x2 x3=>?_) _ _ w1 w2 w4
       ·rw [M1.out i (by omega),M1.out j (by omega)]; exact B O (2*k) i j (by omega) x2 (by omega) (by omega)
       ·rw [M1.out i (by omega),M1.out j (by omega)]; exact B O (2*k+1) i j (by omega) x2 (by omega) (by omega)
      ·have:=sS k (by omega); omega)
    exact⟨d,y,g1,g2.trans P2,fun O=>g3 (O.perm P2)⟩
   ·rw [if_neg (by simp only [decide_eq_true_eq]; omega)]
    have P2:=M1.perm
    obtain⟨d,y,g1,g2,g3⟩:=A4 (n:=n) hm f (2*bs) d1 (by have:=P2.length_eq; omega) (by have:=P2.length_eq; omega) (C.perm P2) (by omega) (by omega) (by omega) (fun O k i j w1 w2 w3 w4=>by
     have O:=O.perm P2.symm
     by_cases u1:k<t
     ·exact S1 O k u1 _ _ w1 w2 w3
     ·by_cases u2:k=t
      ·subst u2
       rw [M1.out i (by omega),M1.out j (by omega)]; exact B O (2*k) i j (by omega) w2 (by omega) (by omega)
      ·have:=sS k (by omega); omega)
    exact⟨d,y,g1,g2.trans P2,fun O=>g3 (O.perm P2)⟩
  ·refine⟨l,bs,by rw [if_neg (by simp only [decide_eq_true_eq]; omega)],List.Perm.refl _,fun O i j w1 w2 w3=>B O 0 i j (by omega) w2 (by omega) w3⟩
theorem Ei (hm:2 ^ 41≤m){l:List Int}(hs:l.length<2 ^ 40)(C:Cm cmp c l):∃d,fM.f m l cmp=some d∧d.Perm l∧(Ord c l→Sg c d 0 l.length):=by
 have ux:(2:Nat) ^ 40=1099511627776:=by decide
 have xo:(2:Nat) ^ 41=2199023255552:=by decide
 have RQ:(2:Nat) ^ 42=4398046511104:=by decide
 unfold fM.f bV.f
 obtain⟨d1,t,y,k1,k2,k3,M1,S1⟩:=GM (cmp:=cmp) (c:=c) hm rfl hs C m 0 l (by omega) (by omega) Mv.refl (fun O k hk=>absurd hk (by omega))
 have k1:bV.l0 m (l.length:Int) cmp m l (0:Int) (20:Int)=_:=k1
 have l1:=M1.length
 rw [k1,XJ]
 dsimp only
 obtain⟨d2,e2,M2,S2⟩:=zk (a:=20*t) (b:=l.length) (cmp:=cmp) (c:=c) hm (l:=d1) (by omega) (by omega) (by omega) (C.perm M1.perm)
 rw [e2,XJ]
 have P2:=M2.perm.trans M1.perm
 obtain⟨d,y,g1,g2,g3⟩:=A4 (cmp:=cmp) (c:=c) (n:=l.length) hm m 20 d2 P2.length_eq.symm (by rw [P2.length_eq]; exact hs) (C.perm P2) (by omega) (by omega) (by omega) (fun O k i j w1 w2 w3 w4=>by
  have O:=O.perm P2.symm
  by_cases u1:k<t
  ·rw [M2.out i (by omega),M2.out j (by omega)]; exact S1 O k u1 _ _ (by omega) w2 (by omega)
  ·exact S2 (O.perm M1.perm) _ _ (by omega) w2 (by omega))
 have g1:bV.l1 m (l.length:Int) cmp m d2 (20:Int)=_:=g1
 rw [g1]
 exact⟨d,rfl,g2.trans P2,fun O=>g3 (O.perm P2)⟩
end
end Go.Proofs.Ytifafejidnjckaa
namespace Go.Proofs.Ytifafejidnjckaa
open Go Go.R
open Go.IntKind (i64 u64 u8 u32)
def gf (t:bc):Bool:=decide (1≤t.nodes.length)&&decide (t.nodes.length≤8000)&&decide (0≤t.root)&&decide (t.root<t.nodes.length)&&t.nodes.all fun n=>fA n t.nodes.length
theorem mr {m:Nat}(hm:2 ^ 30≤m)(t:bc):fO.f m t=some (gf t):=by
 have JB:(2:Nat) ^ 30=1073741824:=by decide
 have ux:(2:Nat) ^ 40=1099511627776:=by decide
 unfold fO.f gf
 by_cases h1:1≤t.nodes.length
 ·rw [if_pos (by simp only [decide_eq_true_eq]; omega),decide_eq_true h1]
  by_cases h2:t.nodes.length≤8000
  ·rw [if_pos (by simp only [decide_eq_true_eq]; omega),decide_eq_true h2]
   by_cases h3:0≤t.root
   ·rw [if_pos (by simp only [decide_eq_true_eq]; omega),decide_eq_true h3]
    by_cases h4:t.root<t.nodes.length
    ·rw [if_pos (by simp only [decide_eq_true_eq]; omega),decide_eq_true h4]
     rw [Eg (g:=fun n=>!(fA n t.nodes.length)) (by omega) (by omega) (fun n _=>by unfold gA.f; rw [Eh (by omega)]; rfl),XJ]
     simp [List.not_any_eq_all_not]
    ·rw [if_neg (by simp only [decide_eq_true_eq]; omega),decide_eq_false h4]; rfl
   ·rw [if_neg (by simp only [decide_eq_true_eq]; omega),decide_eq_false h3]; rfl
  ·rw [if_neg (by simp only [decide_eq_true_eq]; omega),decide_eq_false h2]; rfl
 ·rw [if_neg (by simp only [decide_eq_true_eq]; omega),decide_eq_false h1]; rfl
def cI (x y:Int):Int:=if x<y then -1 else if y<x then 1 else 0
def cS (x y:ByteArray):Int:=if Op.bytesLess x.data.toList y.data.toList=true then -1 else if (!FA x y)=true then 1 else 0
def Ej (x y:Int):Int:=if x=0 then y else x
def cT (a b:aj):Int:=if a.kind=b.kind then (if a.kind=3 then Ej (cI a.args.length b.args.length) (cS a.label b.label) else Ej (cS a.label b.label) (cI a.int b.int)) else cI a.kind b.kind
theorem xp {m:Nat}(x y:Int):di.f m x y=some (cI x y):=by
 unfold di.f cmp_isNaN_int.f cI
 simp only [beq_self_eq_true,YQ,XJ,XX,if_false]
 by_cases h:x<y
 ·rw [if_pos (by simpa using h),if_pos h]
 ·rw [if_neg (by simpa using h),if_neg h]
  by_cases h2:y<x
  ·rw [if_pos (by simpa using h2),if_pos h2]
  ·rw [if_neg (by simpa using h2),if_neg h2]
theorem C2 {m:Nat}(x y:ByteArray):cy.f m x y=some (cS x y):=by
 unfold cy.f cmp_isNaN_string.f cS
 simp only [beq_self_eq_true,YQ,XJ,XX,if_false]
 split
 ·rfl
 ·split
  ·rfl
  ·rfl
theorem zl {m:Nat}(hm:3≤m)(x y:Int):cu.f m [x,y]=some (Ej x y):=by
 obtain⟨k,rfl⟩:∃k,m=k+3:=⟨m - 3,by omega⟩
 unfold cu.f Ej
 have e1:i64.wrap ((0:Int)+1)=1:=by decide
 have e2:i64.wrap ((1:Int)+1)=2:=by decide
 have a0:ix [x,y] 0=some x:=rfl
 have a1:ix [x,y] 1=some y:=rfl
 unfold cu.l0
 rw [if_pos (by simp),a0,XJ]
 by_cases h:x=0
 ·subst h
  rw [if_neg (by simp),e1,if_pos rfl]
  unfold cu.l0
  rw [if_pos (by simp),a1,XJ]
  by_cases h2:y=0
  ·subst h2
   rw [if_neg (by simp),e2]
   unfold cu.l0
   rw [if_neg (by simp)]; rfl
  ·rw [if_pos (by simpa using h2)]; rfl
 ·rw [if_pos (by simpa using h),if_neg h]; rfl
theorem xq {m:Nat}(hm:3≤m)(a b:aj):dj.f m a b=some (cT a b):=by
 unfold dj.f cT
 by_cases h:a.kind=b.kind
 ·rw [if_neg (by simp [h]),if_pos h]
  by_cases h3:a.kind=3
  ·rw [if_pos (by simpa using h3),if_pos h3,xp,C2,XJ,XJ,zl hm]; rfl
  ·rw [if_neg (by simpa using h3),if_neg h3,xp,C2,XJ,XJ,zl hm]; rfl
 ·rw [if_pos (by simpa using h),if_neg h,xp]; rfl
def nd (l:List aj)(i:Int):aj:=l.getD i.toNat ⟨0,0,⟨#[]⟩,[]⟩
theorem uc {l:List aj}{i:Int}(h0:0≤i)(h1:i<l.length):ix l i=some (nd l i):=by
 unfold ix nd
 have h:i.toNat<l.length:=by omega
 rw [if_pos h0,X4,XO h]; rfl
theorem kZ {l:List aj}{i:Int}(h0:0≤i)(h1:i<l.length):nd l i∈l:=by
 have:=uc h0 h1
 unfold ix at this
 rw [if_pos h0] at this
 exact XT this
theorem GO {m:Nat}(hm:3≤m){l:List aj}{i j:Int}(h0:0≤i)(h1:i<l.length)(h2:0≤j)(h3:j<l.length):eA.f m i j l=some (cT (nd l i) (nd l j)):=by
 unfold eA.f
 rw [uc h0 h1,uc h2 h3,XJ,XJ,xq hm]; rfl
end Go.Proofs.Ytifafejidnjckaa
namespace Go.Proofs.Ytifafejidnjckaa
open Go Go.R
open Go.IntKind (i64 u64 u8 u32)
def key (out:List Int)(n:aj)(i:Nat):List Int:=(gt out i+1)::((n.args.map fun a=>gt out a.toNat+1)++X6 (8 - n.args.length) 0)
def enum:List (List Int)→Nat→List (List Int × Int)
 | [],_=>[]
 | k::ks,s=>(k,(s:Int))::enum ks (s+1)
theorem nF:∀(ks:List (List Int)) (s:Nat),(enum ks s).length=ks.length
 | [],_=>rfl
 | k::ks,s=>by simp [enum,nF ks]
theorem ud:∀(ks:List (List Int)) (s:Nat) (k:List Int),tj (enum ks s) k=if k∈ks then (((s+ks.idxOf k:Nat):Int),true) else (0,false)
 | [],s,k=>rfl
 | a::ks,s,k=>by
  simp only [enum,tj,ud ks (s+1) k,X7,List.idxOf_cons]
  by_cases h:k=a
  ·subst h; simp
  ·have h':(a==k)=false:=by simpa using fun z:a=k=>h z.symm
   rw [if_neg h,h']
   by_cases h2:k∈ks
   ·simp only [h2,if_true,or_true,cond_false]
    simp only [XS,and_true]
    omega
   ·simp [h2,h]
theorem zm:∀(ks:List (List Int)) (s:Nat) (k:List Int),k∉ks→Au (enum ks s) k ((s+ks.length:Nat):Int)=enum (ks++[k]) s
 | [],s,k,_=>rfl
 | a::ks,s,k,h=>by
  have h1:k≠a:=fun z=>h (by simp [z])
  have h2:k∉ks:=fun z=>h (by simp [z])
  simp only [enum,Au,Yq,if_neg h1,X2]
  rw [show s+(ks.length+1)=s+1+ks.length by omega,zm ks (s+1) k h2]
theorem nX {n:Nat}:∀(ks:List (List Int)) (s:Nat) (k:List Int),k.length=n→(∀a∈ks,a.length=n)→ti n (enum ks s) k=true
 | [],s,k,h,_=>by simp [ti,enum,h]
 | a::ks,s,k,h,h2=>by
  have:=nX ks (s+1) k h fun a ha=>h2 a (by simp [ha])
  simp only [ti,XN,beq_iff_eq,h,true_and] at this ⊢
  simp only [enum,YA,XN,beq_iff_eq]
  exact⟨h2 a (by simp),this⟩
structure Part (n:Nat)(out:List Int)(many:Nat):Prop where
 len:out.length=n
 nY:∀i,i<n→0≤gt out i∧gt out i≤many
 TY:∀v:Nat,v≤many→∃i,i<n∧gt out i=v
structure qJ (l:List aj)(out:List Int)(p:Nat)(ks:List (List Int)):Prop where
 IK:ks.Nodup
 mem:∀k,k∈ks↔∃i,i<p∧key out (nd l i) i=k
def C3 (l:List aj):Prop:=l.length≤8000∧∀n∈l,n.args.length≤8∧∀a∈n.args,0≤a∧a<l.length
theorem IL {a:Int}{L:List Int}{t:Nat}{v:Int}(hL:L.length=t)(ht:t<8):(a::(L++X6 (8 - t) 0)).set (t+1) v=a::((L++[v])++X6 (8 - (t+1)) 0):=by
 rw [List.set_cons_succ,YV _ _ (by omega),hL,YP,show 8 - t=(8 - (t+1))+1 by omega,List.replicate_succ,List.set_cons_zero,X3]
 rfl
theorem GP {m:Nat}{out:List Int}{n:aj}(h8:n.args.length≤8)(ha:∀a∈n.args,0≤a∧a<out.length)(ho:∀i,i<out.length→0≤gt out i∧gt out i<2 ^ 40)(o:Int):∀(f t:Nat),n.args.length - t<f→t≤n.args.length→
  ∃x,ay.l4 m out n f (o::(((n.args.take t).map fun a=>gt out a.toNat+1)++X6 (8 - t) 0)) (t:Int)=some (o::((n.args.map fun a=>gt out a.toNat+1)++X6 (8 - n.args.length) 0),x)
 | 0,t,hf,_=>absurd hf (by omega)
 | f+1,t,hf,ht=>by
  have ux:(2:Nat) ^ 40=1099511627776:=by decide
  have i40:(2:Int) ^ 40=1099511627776:=by decide
  unfold ay.l4
  by_cases h:t<n.args.length
  ·have hx:ix n.args (t:Int)=some (gt n.args t):=gd h
   obtain⟨b0,b1⟩:=ha _ (bX h)
   obtain⟨c0,c1⟩:=ho (gt n.args t).toNat (by omega)
   have hy:ix out (gt n.args t)=some (gt out (gt n.args t).toNat):=AU (by omega) (by omega)
   have e1:i64.wrap ((t:Int)+1)=((t+1:Nat):Int):=by rw [bM (by omega) (by omega)]; omega
   have hT:((n.args.take t).map fun a=>gt out a.toNat+1).length=t:=by simp; omega
   have hz:∃z,ix (o::(((n.args.take t).map fun a=>gt out a.toNat+1)++X6 (8 - t) 0)) ((t+1:Nat):Int)=some z:=⟨_,gd (by simp; omega)⟩
   obtain⟨z,hz⟩:=hz
   obtain⟨x,ih⟩:=GP (m:=m) h8 ha ho o f (t+1) (by omega) (by omega)
   have hT1:n.args.take (t+1)=n.args.take t++[gt n.args t]:=by rw [List.take_add_one,eF h]; rfl
   rw [hT1,Ye] at ih
   rw [if_pos (by simp only [decide_eq_true_eq]; omega),hx,XJ,hy,XJ,e1,hz,XJ,XY,bM (x:=gt out (gt n.args t).toNat+1) (by omega) (by omega),IL hT (by omega)]
   exact⟨x,ih⟩
  ·have:t=n.args.length:=by omega
   subst this
   exact⟨_,by rw [if_neg (by simp),Zf]⟩
theorem uf {out:List Int}{n:aj}{i:Nat}(h8:n.args.length≤8):(key out n i).length=9:=by simp [key]; omega
theorem JC {l:List aj}(ok:C3 l){i:Nat}(h:i<l.length):(nd l i).args.length≤8∧∀a∈(nd l i).args,0≤a∧a<l.length:=ok.2 _ (kZ (by omega) (by omega))
theorem A5 {m:Nat}(hm:2 ^ 30≤m){l:List aj}{out:List Int}{many:Nat}(ok:C3 l)(P:Part l.length out many)(JD:many<2 ^ 30):∀(f p:Nat) (ks:List (List Int)) (next:List Int),l.length - p<f→p≤l.length→qJ l out p ks→next.length=l.length→
  (∀i,i<p→gt next i=(ks.idxOf (key out (nd l i) i):Int))→
  ∃RV next' x,ay.l3 m l out f (enum ks 0) next (p:Int)=some (enum RV 0,next',x)∧qJ l out l.length RV∧next'.length=l.length∧∀i,i<l.length→gt next' i=(RV.idxOf (key out (nd l i) i):Int)
 | 0,p,ks,next,hf,_,_,_,_=>absurd hf (by omega)
 | f+1,p,ks,next,hf,hp,K,hn,hg=>by
  have JB:(2:Nat) ^ 30=1073741824:=by decide
  have ux:(2:Nat) ^ 40=1099511627776:=by decide
  have i40:(2:Int) ^ 40=1099511627776:=by decide
  have h8000:=ok.1
  have HP:=P.len
  unfold ay.l3
  by_cases h:p<l.length
  ·obtain⟨n1,n2⟩:=JC ok h
   obtain⟨r0,r1⟩:=P.nY p h
   have e1:i64.wrap ((p:Int)+1)=((p+1:Nat):Int):=by rw [bM (by omega) (by omega)]; omega
   obtain⟨x,hk⟩:=GP (m:=m) (out:=out) (n:=nd l p) n1 (by rw [HP]; exact n2) (fun i hi=>by have:=P.nY i (by omega); omega) (gt out p+1) m 0 (by omega) (by omega)
   have hk:ay.l4 m out (nd l p) m [gt out p+1,0,0,0,0,0,0,0,0] 0=some (key out (nd l p) p,x):=hk
   have OL:=uf (out:=out) (i:=p) n1
   have Bs:∀a∈ks,a.length=9:=fun a ha=>by
    obtain⟨i,hi,rfl⟩:=(K.mem a).1 ha
    exact uf (JC ok (by omega)).1
   have RW:∃z,ix next (p:Int)=some z:=⟨_,gd (by omega)⟩
   obtain⟨z,hz⟩:=RW
   rw [if_pos (by simp only [decide_eq_true_eq]; omega),uc (by omega) (by omega),XJ,gd (by omega),XJ,bM (x:=gt out p+1) (by omega) (by omega),hk,XJ]
   dsimp only
   have hG:Ic 9 (enum ks 0) (key out (nd l p) p)=some (if key out (nd l p) p∈ks then (((ks.idxOf (key out (nd l p) p):Nat):Int),true) else (0,false)):=by
    unfold Ic; rw [if_pos (nX _ _ _ OL Bs),ud,Ya]
   rw [hG,XJ,e1,hz]
   by_cases hin:key out (nd l p) p∈ks
   ·rw [if_pos hin,if_neg (by simp),XJ,XJ,XY]
    refine A5 hm ok P JD f (p+1) ks _ (by omega) (by omega) ⟨K.IK,fun k=>⟨fun hk=>?_,fun ⟨i,hi,sS⟩=>?_⟩⟩ (by simpa using hn) (fun i hi=>?_)
    ·obtain⟨i,hi,h⟩:=(K.mem k).1 hk; exact⟨i,by omega,h⟩
    ·by_cases IM:i=p
     ·subst IM; rw [←sS]; exact hin
     ·exact (K.mem k).2 ⟨i,by omega,sS⟩
    ·rw [qI (by omega)]
     by_cases IM:i=p
     ·subst IM; rw [if_pos rfl]
     ·rw [if_neg IM]; exact hg i (by omega)
   ·have hS:M4 9 (enum ks 0) (key out (nd l p) p) (((enum ks 0).length:Nat):Int)=some (enum (ks++[key out (nd l p) p]) 0):=by
     unfold M4; rw [if_pos (nX _ _ _ OL Bs),nF]
     have:=zm ks 0 _ hin
     rw [Ya] at this
     rw [this]
    have hid:(ks++[key out (nd l p) p]).idxOf (key out (nd l p) p)=ks.length:=by
     rw [List.idxOf_append,if_neg hin,List.idxOf_cons_self,Ya]
    have VZ:Ic 9 (enum (ks++[key out (nd l p) p]) 0) (key out (nd l p) p)=some (((ks.length:Nat):Int),true):=by
     unfold Ic
     rw [if_pos (nX _ _ _ OL (fun a ha=>by rcases Yg.1 ha with ha | ha; exact Bs a ha; simp only [X9] at ha; rw [ha]; exact OL)),ud,if_pos (by simp),Ya,hid]
    rw [if_neg hin,if_pos (by simp),hS,XJ,VZ,XJ,XJ,XY]
    refine A5 hm ok P JD f (p+1) (ks++[key out (nd l p) p]) _ (by omega) (by omega) ⟨?_,fun k=>⟨fun hk=>?_,fun ⟨i,hi,sS⟩=>?_⟩⟩ (by simpa using hn) (fun i hi=>?_)
    ·rw [Zc]
     refine⟨K.IK,by simp,fun a ha b hb=>?_⟩
     simp only [X9] at hb
     subst hb; intro e; subst e; exact hin ha
    ·rcases Yg.1 hk with hk | hk
     ·obtain⟨i,hi,h⟩:=(K.mem k).1 hk; exact⟨i,by omega,h⟩
     ·simp only [X9] at hk; exact⟨p,by omega,hk.symm⟩
    ·by_cases IM:i=p
     ·subst IM; rw [←sS]; simp
     ·exact Yy _ ((K.mem k).2 ⟨i,by omega,sS⟩)
    ·rw [qI (by omega)]
     by_cases IM:i=p
     ·subst IM; rw [if_pos rfl,hid]
     ·rw [if_neg IM,List.idxOf_append,if_pos ((K.mem _).2 ⟨i,by omega,rfl⟩)]; exact hg i (by omega)
  ·have:p=l.length:=by omega
   subst this
   exact⟨ks,next,_,by rw [if_neg (by simp)],K,hn,hg⟩
theorem IN {l:List aj}{out:List Int}{ks:List (List Int)}(K:qJ l out l.length ks):ks.length≤l.length:=by
 have:=K.IK.length_le_of_subset (l₂:=(List.range l.length).map fun i:Nat=>key out (nd l i) i) (fun k hk=>by
  obtain⟨i,hi,h⟩:=(K.mem k).1 hk
  exact Yo.2 ⟨i,List.mem_range.2 hi,h⟩)
 simpa using this
theorem C4 {l:List aj}{out:List Int}{many:Nat}{ks:List (List Int)}(P:Part l.length out many)(K:qJ l out l.length ks):many+1≤ks.length:=by
 have hn:((List.range (many+1)).map fun v:Nat=>((v:Int)+1)).Nodup:=by
  unfold List.Nodup
  rw [List.pairwise_map]
  exact List.Pairwise.imp (fun h=>by omega) List.nodup_range
 have:=hn.length_le_of_subset (l₂:=ks.map fun k=>k.headD 0) (fun x hx=>by
  obtain⟨v,hv,rfl⟩:=Yo.1 hx
  obtain⟨i,hi,h⟩:=P.TY v (by have:=List.mem_range.1 hv; omega)
  exact Yo.2 ⟨_,(K.mem _).2 ⟨i,hi,rfl⟩,by simp [key,h]⟩)
 simpa using this
theorem Ek {l:List aj}{out next:List Int}{many:Nat}{ks:List (List Int)}(P:Part l.length out many)(K:qJ l out l.length ks)(hn:next.length=l.length)(hg:∀i,i<l.length→gt next i=(ks.idxOf (key out (nd l i) i):Int)):Part l.length next (ks.length - 1):=by
 have:=C4 P K
 refine⟨hn,fun i hi=>?_,fun v hv=>?_⟩
 ·have:=YE ((K.mem _).2 ⟨i,hi,rfl⟩)
  rw [hg i hi]; omega
 ·have hv:v<ks.length:=by omega
  obtain⟨i,hi,h⟩:=(K.mem _).1 (List.getElem_mem hv)
  refine⟨i,hi,?_⟩
  rw [hg i hi,h,K.IK.idxOf_getElem]
theorem GQ {m:Nat}(hm:2 ^ 30≤m){l:List aj}(ok:C3 l)(Inv:List Int→Prop)
  (hI:∀out many ks next,Part l.length out many→Inv out→qJ l out l.length ks→next.length=l.length→(∀i,i<l.length→gt next i=(ks.idxOf (key out (nd l i) i):Int))→Inv next):∀(f:Nat) (out:List Int) (many:Nat),l.length - many<f→many<l.length→Part l.length out many→Inv out→
  ∃r JE ks,ay.l2 m l f out (many:Int)=some (.inl r)∧Part l.length r JE∧Inv r∧qJ l r l.length ks∧ks.length=JE+1
 | 0,out,many,hf,_,_,_=>absurd hf (by omega)
 | f+1,out,many,hf,hlt,P,I=>by
  have JB:(2:Nat) ^ 30=1073741824:=by decide
  have h8000:=ok.1
  unfold ay.l2
  have e0:Ez 8 (l.length:Int) (0:Int)=some (X6 l.length 0):=by unfold Ez; rw [if_pos ⟨by omega,by rw [XY]; omega⟩,XY]
  obtain⟨ks,next,x,h1,K,hn,hg⟩:=A5 hm ok P (by omega) m 0 [] (X6 l.length 0) (by omega) (by omega) ⟨by simp,fun k=>⟨fun h=>by simp at h,fun ⟨i,hi,_⟩=>absurd hi (by omega)⟩⟩ (by simp) (fun i hi=>absurd hi (by omega))
  have h1:ay.l3 m l out m [] (X6 l.length 0) 0=_:=h1
  have g1:=IN K
  have g2:=C4 P K
  rw [e0,XJ,h1,XJ]
  dsimp only
  rw [nF,bM (x:=(many:Int)+1) (by omega) (by omega),bM (x:=(ks.length:Int) - 1) (by omega) (by omega)]
  by_cases h:ks.length=many+1
  ·rw [if_pos (by simp; omega)]
   exact⟨out,many,ks,rfl,P,I,K,h⟩
  ·rw [if_neg (by simp; omega),show (ks.length:Int) - 1=((ks.length - 1:Nat):Int) by omega]
   exact GQ hm ok Inv hI f next (ks.length - 1) (by omega) (by omega) (Ek P K hn hg) (hI _ _ _ _ P I K hn hg)
end Go.Proofs.Ytifafejidnjckaa
namespace Go.Proofs.Ytifafejidnjckaa
open Go Go.R
open Go.IntKind (i64 u64 u8 u32)
def ints (n:Nat):List Int:=(List.range n).map fun k:Nat=>(k:Int)
theorem fi (n:Nat):(ints n).length=n:=by simp [ints]
theorem IP {n k:Nat}(h:k<n):gt (ints n) k=k:=by
 have h1:=eF (l:=ints n) (k:=k) (by rw [fi]; exact h)
 have h2:(ints n)[k]? = some (k:Int):=by
  unfold ints
  rw [YB,XO (by simpa using h)]
  simp
 rw [h2] at h1; exact (Yj h1).symm
theorem jC {n:Nat}{x:Int}:x∈ints n↔0≤x∧x<n:=by
 unfold ints
 rw [Yo]
 constructor
 ·rintro⟨k,hk,rfl⟩; have:=List.mem_range.1 hk; omega
 ·intro h; exact⟨x.toNat,List.mem_range.2 (by omega),by omega⟩
theorem A6 (n:Nat):(ints n).Nodup:=by
 unfold ints List.Nodup
 rw [List.pairwise_map]
 exact List.Pairwise.imp (fun h=>by omega) List.nodup_range
theorem Ly {l:List Int}(h:l.Nodup){i j:Nat}(hi:i<l.length)(hj:j<l.length)(e:gt l i=gt l j):i=j:=by
 have h1:=eF hi
 have h2:=eF hj
 rw [XO hi] at h1
 rw [XO hj] at h2
 have h1:=Yj h1
 have h2:=Yj h2
 exact (List.getElem_inj (h₀:=hi) (h₁:=hj) h).1 (by rw [h1,h2,e])
theorem vF {l:List Int}{x:Int}(h:x∈l):∃k,k<l.length∧gt l k=x:=by
 obtain⟨k,hk,e⟩:=List.getElem_of_mem h
 refine⟨k,hk,?_⟩
 have h1:=eF hk
 rw [XO hk,e] at h1
 exact (Yj h1).symm
theorem GR {m:Nat}{z:List Int}(hz:z.length<2 ^ 40):∀(f i:Nat) (d:List Int),z.length - i<f→i≤z.length→d.length=z.length→(∀k,k<i→gt d k=k)→
  ∃x,ay.l0 m z f d (i:Int)=some (ints z.length,x)
 | 0,i,d,hf,_,_,_=>absurd hf (by omega)
 | f+1,i,d,hf,hi,hd,hg=>by
  have ux:(2:Nat) ^ 40=1099511627776:=by decide
  unfold ay.l0
  by_cases h:i<z.length
  ·obtain⟨v,hv⟩:∃v,ix d (i:Int)=some v:=⟨_,gd (by omega)⟩
   rw [if_pos (by simp only [decide_eq_true_eq]; omega),hv,XJ,XY,bM (by omega) (by omega),show (i:Int)+1=((i+1:Nat):Int) by omega]
   refine GR hz f (i+1) _ (by omega) (by omega) (by simpa using hd) fun k hk=>?_
   rw [qI (by omega)]
   by_cases e:k=i
   ·subst e; rw [if_pos rfl]
   ·rw [if_neg e]; exact hg k (by omega)
  ·refine⟨i,?_⟩
   rw [if_neg (by simp only [decide_eq_true_eq]; omega)]
   have:d=ints z.length:=Lv (by rw [fi,hd]) fun k hk=>by rw [hg k (by omega),IP (by omega)]
   rw [this]
def rk (l:List aj)(d:List Int):Nat→Nat
 | 0=>0
 | k+1=>rk l d k+if cT (nd l (gt d k)) (nd l (gt d (k+1)))=0 then 0 else 1
theorem GS (l:List aj)(d:List Int):∀k,rk l d k≤k
 | 0=>XP _
 | k+1=>by have:=GS l d k; unfold rk; split<;>omega
theorem xr (l:List aj)(d:List Int)(i:Nat):∀j,i≤j→rk l d i≤rk l d j
 | 0,h=>by
   have:i=0:=by omega
   subst this; exact XP _
 | j+1,h=>by
  by_cases e:i=j+1
  ·subst e; exact XP _
  ·have:=xr l d i j (by omega)
   show _≤rk l d j+_
   omega
theorem GU (l:List aj)(d:List Int):∀(j v:Nat),v≤rk l d j→∃k,k≤j∧rk l d k=v
 | 0,v,h=>⟨0,XP _,by unfold rk at h ⊢; omega⟩
 | j+1,v,h=>by
  by_cases e:v=rk l d (j+1)
  ·exact⟨j+1,XP _,e.symm⟩
  ·have h2:rk l d (j+1)≤rk l d j+1:=by show rk l d j+_≤_; split<;>omega
   obtain⟨k,hk,e⟩:=GU l d j v (by omega)
   exact⟨k,by omega,e⟩
theorem GV {m:Nat}(hm:3≤m){l:List aj}{o d:List Int}(hl:l.length≤8000)(ho:o.length=l.length)(hp:d.Perm (ints l.length)):∀(f p:Nat) (out:List Int),l.length - p<f→p≤l.length→out.length=l.length→(∀k,k<p→gt out (gt d k).toNat=rk l d k)→
  ∃mQ x,ay.l1 m l o d f out ((rk l d (p - 1):Nat):Int) (p:Int)=some (mQ,((rk l d (l.length - 1):Nat):Int),x)∧mQ.length=l.length∧∀k,k<l.length→gt mQ (gt d k).toNat=rk l d k
 | 0,p,out,hf,_,_,_=>absurd hf (by omega)
 | f+1,p,out,hf,Bk,NV,hg=>by
  have RL:d.length=l.length:=by rw [hp.length_eq,fi]
  have hd:∀k,k<l.length→0≤gt d k∧gt d k<l.length:=fun k hk=>jC.1 (hp.mem_iff.1 (bX (by omega)))
  have JF:d.Nodup:=hp.symm.nodup (A6 _)
  unfold ay.l1
  by_cases h:p<l.length
  ·obtain⟨d0,d1⟩:=hd p h
   have E1:∀k,k<p+1→gt (out.set (gt d p).toNat ((rk l d p:Nat):Int)) (gt d k).toNat=rk l d k:=fun k hk=>by
    rw [qI (by omega)]
    by_cases e:k=p
    ·subst e; rw [if_pos rfl]
    ·have:gt d k≠gt d p:=fun h=>e (Ly JF (by omega) (by omega) h)
     have:=hd k (by omega)
     rw [if_neg (by omega)]; exact hg k (by omega)
   obtain⟨z,hz⟩:∃z,ix out (gt d p)=some z:=⟨_,AU (k:=(gt d p).toNat) (by omega) (by omega)⟩
   have e1:i64.wrap ((p:Int)+1)=((p+1:Nat):Int):=by rw [bM (by omega) (by omega)]; omega
   have hr:=GS l d p
   have IH:=GV hm hl ho hp f (p+1) (out.set (gt d p).toNat ((rk l d p:Nat):Int)) (by omega) (by omega) (by simpa using NV) E1
   rw [show p+1 - 1=p by omega] at IH
   rw [if_pos (by simp only [decide_eq_true_eq]; omega),gd (by omega),XJ]
   by_cases h0:0<p
   ·obtain⟨q,rfl⟩:∃q,p=q+1:=⟨p - 1,by omega⟩
    obtain⟨q0,q1⟩:=hd q (by omega)
    rw [show q+1 - 1=q by omega]
    have e2:i64.wrap (((q+1:Nat):Int) - 1)=(q:Int):=by rw [bM (by omega) (by omega)]; omega
    rw [if_pos (by simp only [decide_eq_true_eq]; omega),e2,gd (by omega),XJ,uc q0 q1,XJ,uc d0 d1,XJ,xq hm,XJ,hz,e1]
    by_cases hc:cT (nd l (gt d q)) (nd l (gt d (q+1)))=0
    ·have RX:rk l d (q+1)=rk l d q:=by show rk l d q+_=_; rw [if_pos hc]; omega
     rw [if_neg (by simp [hc]),XJ]
     rw [RX] at IH; exact IH
    ·have RX:rk l d (q+1)=rk l d q+1:=by show rk l d q+_=_; rw [if_neg hc]
     rw [if_pos (by simpa using hc),XJ,bM (by omega) (by omega)]
     rw [RX] at IH; exact IH
   ·have:p=0:=by omega
    subst this
    rw [if_neg (by simp),hz,XJ,e1]
    exact IH
  ·have:p=l.length:=by omega
   subst this
   exact⟨out,_,by rw [if_neg (by simp only [decide_eq_true_eq]; omega)],NV,hg⟩
theorem IQ {m:Nat}(hm:3≤m)(l:List aj):Cm (fun y0 y1=>eA.f m y0 y1 l) (fun x y=>cT (nd l x) (nd l y)) (ints l.length):=fun x hx y hy=>by
 have hx:=jC.1 hx
 have hy:=jC.1 hy
 exact GO hm hx.1 hx.2 hy.1 hy.2
theorem xt {m:Nat}(hm:2 ^ 41≤m){l:List aj}(ok:C3 l)(h1:1≤l.length)(Inv:List Int→Prop)
  (hI0:∀d out,d.Perm (ints l.length)→(Ord (fun x y=>cT (nd l x) (nd l y)) (ints l.length)→Sg (fun x y=>cT (nd l x) (nd l y)) d 0 l.length)→(∀k,k<l.length→gt out (gt d k).toNat=rk l d k)→Inv out)
  (hI:∀out many ks next,Part l.length out many→Inv out→qJ l out l.length ks→next.length=l.length→(∀i,i<l.length→gt next i=(ks.idxOf (key out (nd l i) i):Int))→Inv next) :
  ∃r many ks,ay.f m l=some r∧Part l.length r many∧Inv r∧qJ l r l.length ks∧ks.length=many+1:=by
 have ux:(2:Nat) ^ 40=1099511627776:=by decide
 have xo:(2:Nat) ^ 41=2199023255552:=by decide
 have JB:(2:Nat) ^ 30=1073741824:=by decide
 have h8000:=ok.1
 have e0:Ez 8 (l.length:Int) (0:Int)=some (X6 l.length 0):=by unfold Ez; rw [if_pos ⟨by omega,by rw [XY]; omega⟩,XY]
 unfold ay.f
 obtain⟨x,k1⟩:=GR (m:=m) (z:=X6 l.length 0) (by simp; omega) m 0 (X6 l.length 0) (by simp; omega) (by omega) rfl (fun k hk=>absurd hk (by omega))
 have k1:ay.l0 m (X6 l.length 0) m (X6 l.length 0) 0=_:=k1
 rw [Za] at k1
 rw [e0,XJ,k1,XJ]
 dsimp only
 obtain⟨d,k2,hp,hs⟩:=Ei hm (l:=ints l.length) (by rw [fi]; omega) (IQ (m:=m) (by omega) l)
 rw [k2,XJ,XJ]
 obtain⟨out,x,k3,ho,hg⟩:=GV (m:=m) (l:=l) (o:=ints l.length) (d:=d) (by omega) h8000 (fi _) hp m 0 (X6 l.length 0) (by omega) (by omega) (by simp) (fun k hk=>absurd hk (by omega))
 have k3:ay.l1 m l (ints l.length) d m (X6 l.length 0) 0 0=_:=k3
 rw [k3,XJ]
 dsimp only
 rw [fi] at hs
 have RL:d.length=l.length:=by rw [hp.length_eq,fi]
 have hP:Part l.length out (rk l d (l.length - 1)):=by
  refine⟨ho,fun i hi=>?_,fun v hv=>?_⟩
  ·obtain⟨k,hk,e⟩:=vF (hp.mem_iff.2 (jC.2 (show 0≤(i:Int)∧(i:Int)<l.length by omega)))
   have:=hg k (by omega)
   rw [e,XY] at this
   have h2:=xr l d k (l.length - 1) (by omega)
   omega
  ·obtain⟨k,hk,e⟩:=GU l d _ v hv
   have OX:k<l.length:=by omega
   have:=jC.1 (hp.mem_iff.1 (bX (l:=d) (k:=k) (by omega)))
   exact⟨(gt d k).toNat,by omega,by rw [hg k OX,e]⟩
 have SE:=GS l d (l.length - 1)
 obtain⟨r,many,ks,k4,P,I,K,Bs⟩:=GQ (m:=m) (by omega) ok Inv hI m out (rk l d (l.length - 1)) (by omega) (by omega) hP (hI0 d out hp hs hg)
 rw [k4]
 exact⟨r,many,ks,rfl,P,I,K,Bs⟩
end Go.Proofs.Ytifafejidnjckaa
namespace Go.Proofs.Ytifafejidnjckaa
open Go Go.R
open Go.IntKind (i64 u64 u8 u32)
def lG:List Int→Nat→List (Int × Int)
 | [],_=>[]
 | k::ks,s=>(k,(s:Int))::lG ks (s+1)
theorem vG:∀(ks:List Int) (s:Nat) (k:Int),mz (lG ks s) k=if k∈ks then (((s+ks.idxOf k:Nat):Int),true) else (0,false)
 | [],s,k=>rfl
 | a::ks,s,k=>by
  simp only [lG,mz,vG ks (s+1) k,X7,List.idxOf_cons]
  by_cases h:k=a
  ·subst h; simp
  ·have h':(a==k)=false:=by simpa using fun z:a=k=>h z.symm
   rw [if_neg h,h']
   by_cases h2:k∈ks
   ·simp only [h2,if_true,or_true,cond_false]
    simp only [XS,and_true]
    omega
   ·simp [h2,h]
theorem vH:∀(ks:List Int) (s:Nat) (k:Int),k∉ks→xG (lG ks s) k ((s+ks.length:Nat):Int)=lG (ks++[k]) s
 | [],s,k,_=>rfl
 | a::ks,s,k,h=>by
  have h1:k≠a:=fun z=>h (by simp [z])
  have h2:k∉ks:=fun z=>h (by simp [z])
  simp only [lG,xG,Yq,if_neg h1,X2]
  rw [show s+(ks.length+1)=s+1+ks.length by omega,vH ks (s+1) k h2]
def gh (cls:List Int)(a:Int):Int:=gt cls a.toNat
def idx (cls o:List Int)(a:Int):Int:=((o.map (gh cls)).idxOf (gh cls a):Nat)
def xu (cls:List Int)(l:List aj)(o:List Int)(i:Int):aj:=⟨(nd l i).kind,(nd l i).int,(nd l i).label,(nd l i).args.map (idx cls o)⟩
def ug (cls:List Int)(l:List aj):Nat→Int→List Int→List Int
 | 0,_,o=>o
 | k+1,i,o=>if gh cls i∈o.map (gh cls) then o else (nd l i).args.foldl (fun o a=>ug cls l k a o) (o++[i])
structure Vs (cls:List Int)(n:Nat)(o:List Int):Prop where
 IK:(o.map (gh cls)).Nodup
 nY:∀x∈o,0≤x∧x<n
structure Ps (cls:List Int)(l:List aj)(o o':List Int)(ns A7:List aj):Prop where
 vs:Vs cls l.length o'
 pre:∃t,o'=o++t
 len:A7.length=o'.length
 old:∀k,k<o.length→A7[k]? = ns[k]?
 new:∀k,o.length≤k→k<o'.length→A7[k]? = some (xu cls l o' (gt o' k))
 arg:∀k,o.length≤k→k<o'.length→∀a∈(nd l (gt o' k)).args,gh cls a∈o'.map (gh cls)
theorem Vs.ED {cls:List Int}{n:Nat}{o:List Int}(v:Vs cls n o):o.length≤n:=by
 have hn:o.Nodup:=by
  have:=v.IK
  unfold List.Nodup at this ⊢
  rw [List.pairwise_map] at this
  exact List.Pairwise.imp (fun h e=>h (by rw [e])) this
 have:=hn.length_le_of_subset (l₂:=ints n) (fun x hx=>jC.2 (v.nY x hx))
 rwa [fi] at this
theorem Ps.refl {cls:List Int}{l:List aj}{o:List Int}{ns:List aj}(v:Vs cls l.length o)(h:ns.length=o.length):Ps cls l o o ns ns:=
 ⟨v,⟨[],by simp⟩,h,fun _ _=>rfl,fun k h1 h2=>by omega,fun k h1 h2=>by omega⟩
theorem qK {a b:List Int}{k:Nat}(h:k<a.length):gt (a++b) k=gt a k:=by
 unfold gt; rw [X4,X4,XZ h]
theorem oT {cls o t:List Int}{a:Int}(h:gh cls a∈o.map (gh cls)):idx cls (o++t) a=idx cls o a:=by
 unfold idx; rw [Ye,List.idxOf_append,if_pos h]
theorem zn {cls:List Int}{l:List aj}{o t:List Int}{i:Int}(h:∀a∈(nd l i).args,gh cls a∈o.map (gh cls)):xu cls l (o++t) i=xu cls l o i:=by
 unfold xu
 congr 1
 exact Y0 fun a ha=>oT (h a ha)
theorem Ps.trans {cls:List Int}{l:List aj}{o o1 o2:List Int}{ns n1 n2:List aj}(a:Ps cls l o o1 ns n1)(b:Ps cls l o1 o2 n1 n2):Ps cls l o o2 ns n2:=by
 obtain⟨t1,rfl⟩:=a.pre
 obtain⟨t2,rfl⟩:=b.pre
 have hl:(o++t1).length=o.length+t1.length:=by simp
 refine⟨b.vs,⟨t1++t2,by simp⟩,b.len,fun k hk=>(b.old k (by omega)).trans (a.old k hk),fun k h1 h2=>?_,fun k h1 h2 x hx=>?_⟩
 ·by_cases h:k<(o++t1).length
  ·rw [b.old k h,a.new k h1 h,qK h,zn (a.arg k h1 h)]
  ·exact b.new k (by omega) h2
 ·by_cases h:k<(o++t1).length
  ·rw [qK h] at hx
   rw [Ye]
   exact Yy _ (a.arg k h1 h x hx)
  ·exact b.arg k (by omega) h2 x hx
section
variable {m:Nat}{cls:List Int}{l:List aj}{root:Int}
abbrev NW:=Int→(List (Int × Int))→(List Int)→bc→bc→Option (Int × (List (Int × Int)) × bc)
def JG (cls:List Int)(l:List aj)(root:Int)(rec:NW)(df:Int→List Int→List Int)(need:Nat):Prop:=∀(i:Int) (o:List Int) (ns:List aj),0≤i→i<l.length→Vs cls l.length o→ns.length=o.length→l.length<need+o.length→
 ∃A7,rec i (lG (o.map (gh cls)) 0) cls ⟨ns,0⟩ ⟨l,root⟩=some (idx cls (df i o) i,lG ((df i o).map (gh cls)) 0,⟨A7,0⟩)∧Ps cls l o (df i o) ns A7∧gh cls i∈(df i o).map (gh cls)
theorem GW {rec:NW}{df:Int→List Int→List Int}{need:Nat}(hm:2 ^ 30≤m)(ok:C3 l)(V:JG cls l root rec df need){v:aj}(h8:v.args.length≤8)(ha:∀a∈v.args,0≤a∧a<l.length){o0:List Int}{TZ:List aj}(NX:l.length<need+o0.length):∀(f t:Nat) (o:List Int) (ns:List aj),v.args.length - t<f→t≤v.args.length→Ps cls l o0 o TZ ns→(∀a∈v.args.take t,gh cls a∈o.map (gh cls))→
  ∃o' A7 x,o'=(v.args.drop t).foldl (fun o a=>df a o) o∧bf.l0 m cls ⟨l,root⟩ rec v f ((v.args.take t).map (idx cls o)) (t:Int) (lG (o.map (gh cls)) 0) ⟨ns,0⟩=some (v.args.map (idx cls o'),x,lG (o'.map (gh cls)) 0,⟨A7,0⟩)∧Ps cls l o0 o' TZ A7∧∀a∈v.args,gh cls a∈o'.map (gh cls)
 | 0,t,o,ns,hf,_,_,_=>absurd hf (by omega)
 | f+1,t,o,ns,hf,ht,P,hin=>by
  have JB:(2:Nat) ^ 30=1073741824:=by decide
  unfold bf.l0
  by_cases h:t<v.args.length
  ·obtain⟨b0,b1⟩:=ha _ (bX h)
   have Xz:o0.length≤o.length:=by obtain⟨s,rfl⟩:=P.pre; simp
   obtain⟨V0,k1,P1,Oo⟩:=V (gt v.args t) o ns b0 b1 P.vs P.len (by omega)
   obtain⟨s,hs⟩:=P1.pre
   have hT1:v.args.take (t+1)=v.args.take t++[gt v.args t]:=by rw [List.take_add_one,eF h]; rfl
   have hD:v.args.drop t=gt v.args t::v.args.drop (t+1):=by
    obtain⟨h4,h5⟩:=XQ.1 (eF h)
    rw [←h5]; exact XW h4
   have RY:∀a∈v.args.take (t+1),gh cls a∈(df (gt v.args t) o).map (gh cls):=fun a ha=>by
    rw [hT1] at ha
    rcases Yg.1 ha with ha | ha
    ·rw [hs,Ye]; exact Yy _ (hin a ha)
    ·simp only [X9] at ha; subst ha; exact Oo
   obtain⟨o',A7,x,e,k2,P2,h2⟩:=GW hm ok V h8 ha NX f (t+1) (df (gt v.args t) o) V0 (by omega) (by omega) (P.trans P1) RY
   refine⟨o',A7,x,by rw [hD]; exact e,?_,P2,h2⟩
   have e1:i64.wrap ((t:Int)+1)=((t+1:Nat):Int):=by rw [bM (by omega) (by omega)]; omega
   have L5:app 8 ((v.args.take t).map (idx cls o)) [idx cls (df (gt v.args t) o) (gt v.args t)]=some ((v.args.take (t+1)).map (idx cls (df (gt v.args t) o))):=by
    unfold app
    rw [if_pos (by simp; omega),hT1,Ye]
    congr 2
    exact Y0 fun a ha=>by rw [hs]; exact (oT (hin a ha)).symm
   rw [if_pos (by simp only [decide_eq_true_eq]; omega),gd h,XJ,k1,XJ,L5,XJ,e1]
   exact k2
  ·have:t=v.args.length:=by omega
   subst this
   rw [Zf] at hin ⊢
   exact⟨o,ns,_,by rw [List.drop_length]; rfl,by rw [if_neg (by simp)],P,hin⟩
theorem uh (hm:2 ^ 30≤m)(ok:C3 l)(hc:cls.length=l.length):∀k,JG cls l root (bf.f m k) (ug cls l k) k
 | 0=>fun i o ns h0 h1 v hl hn=>absurd v.ED (by omega)
 | k+1=>fun i o ns h0 h1 v hl hn=>by
  have JB:(2:Nat) ^ 30=1073741824:=by decide
  have h8000:=ok.1
  have V1:=v.ED
  show ∃A7,bf.b m (bf.f m k) i (lG (o.map (gh cls)) 0) cls ⟨ns,0⟩ ⟨l,root⟩=_∧_
  unfold bf.b
  have hx:ix cls i=some (gh cls i):=AU (by omega) (by omega)
  rw [hx,XJ,vG,Ya]
  by_cases h:gh cls i∈o.map (gh cls)
  ·have hd:ug cls l (k+1) i o=o:=by unfold ug; rw [if_pos h]
   rw [hd,if_pos h]
   exact⟨ns,rfl,Ps.refl v hl,h⟩
  ·have hd:ug cls l (k+1) i o=(nd l i).args.foldl (fun o a=>ug cls l k a o) (o++[i]):=by
    show (if gh cls i∈o.map (gh cls) then o else (nd l i).args.foldl (fun o a=>ug cls l k a o) (o++[i]))=_
    rw [if_neg h]
   have v1:Vs cls l.length (o++[i]):=by
    refine⟨?_,fun x hx=>?_⟩
    ·rw [Ye,Zc]
     refine⟨v.IK,by simp,fun a ha b hb=>?_⟩
     simp only [X8,Ze,X9] at hb
     subst hb; intro e; subst e; exact h ha
    ·rcases Yg.1 hx with hx | hx
     ·exact v.nY x hx
     ·simp only [X9] at hx; subst hx; exact⟨h0,h1⟩
   have NY:=v1.ED
   simp only [XU,X2,Yf] at NY
   have L5:app 56 ns [(⟨(nd l i).kind,(nd l i).int,(nd l i).label,[]⟩:aj)]=some (ns++[⟨(nd l i).kind,(nd l i).int,(nd l i).label,[]⟩]):=by
    unfold app; rw [if_pos (by simp; omega)]
   have MJ:xG (lG (o.map (gh cls)) 0) (gh cls i) ((ns.length:Nat):Int)=lG ((o++[i]).map (gh cls)) 0:=by
    have:=vH (o.map (gh cls)) 0 (gh cls i) h
    rw [Ya,X0,←hl] at this
    rw [this,Ye]; rfl
   obtain⟨n1,n2⟩:=ok.2 _ (kZ h0 h1)
   have P0:Ps cls l (o++[i]) (o++[i]) (ns++[⟨(nd l i).kind,(nd l i).int,(nd l i).label,[]⟩]) (ns++[⟨(nd l i).kind,(nd l i).int,(nd l i).label,[]⟩]):=Ps.refl v1 (by simp [hl])
   obtain⟨o',A7,x,e,k2,P2,h2⟩:=GW (m:=m) (v:=nd l i) (need:=k) hm ok (uh hm ok hc k) n1 n2 (o0:=o++[i]) (by simp; omega) m 0 (o++[i]) _ (by omega) (by omega) P0 (fun a ha=>by simp at ha)
   rw [Ys] at e
   rw [List.take_zero,Ze] at k2
   have k2:bf.l0 m cls ⟨l,root⟩ (bf.f m k) (nd l i) m [] 0 _ _=_:=k2
   obtain⟨s,hs⟩:=P2.pre
   have HP:o.length<o'.length:=by rw [hs]; simp
   have NZ:A7[o.length]? = some ⟨(nd l i).kind,(nd l i).int,(nd l i).label,[]⟩:=by
    rw [P2.old _ (by simp),←hl,X1 (XP _),YP]; rfl
   have RW:ix A7 ((ns.length:Nat):Int)=some ⟨(nd l i).kind,(nd l i).int,(nd l i).label,[]⟩:=by
    unfold ix; rw [if_pos (by omega),XY,hl,NZ]
   have T0:gt o' o.length=i:=by
    rw [hs,qK (by simp)]
    unfold gt; rw [X4,X1 (XP _),YP]; rfl
   have RZ:idx cls o' i=(o.length:Nat):=by
    rw [hs,oT (by simp)]
    unfold idx
    rw [Ye,List.idxOf_append,if_neg h]; simp
   rw [hd,←e,if_neg h,if_neg (by simp),XJ,uc h0 h1,XJ,L5,XJ,MJ,k2,XJ]
   dsimp only
   rw [RW,XJ,XY,RZ,hl]
   refine⟨_,rfl,⟨P2.vs,⟨[i]++s,by rw [hs]; simp⟩,by simpa using P2.len,fun q hq=>?_,fun q h3 h4=>?_,fun q h3 h4 a ha=>?_⟩,by rw [hs]; simp⟩
   ·rw [List.getElem?_set_ne (by omega),P2.old q (by simp; omega),XZ (by omega)]
   ·by_cases hq:q=o.length
    ·subst hq
     rw [List.getElem?_set_self (by rw [P2.len]; omega),T0]; rfl
    ·rw [List.getElem?_set_ne (by omega)]
     exact P2.new q (by simp; omega) h4
   ·by_cases hq:q=o.length
    ·subst hq; rw [T0] at ha; exact h2 a ha
    ·exact P2.arg q (by simp; omega) h4 a ha
end
theorem A8 {m:Nat}(hm:2 ^ 41≤m){t:bc}(ok:C3 t.nodes)(h1:1≤t.nodes.length)(r0:0≤t.root)(r1:t.root<t.nodes.length)(Inv:List Int→Prop)
  (hI0:∀d out,d.Perm (ints t.nodes.length)→(Ord (fun x y=>cT (nd t.nodes x) (nd t.nodes y)) (ints t.nodes.length)→Sg (fun x y=>cT (nd t.nodes x) (nd t.nodes y)) d 0 t.nodes.length)→(∀k,k<t.nodes.length→gt out (gt d k).toNat=rk t.nodes d k)→Inv out)
  (hI:∀out many ks next,Part t.nodes.length out many→Inv out→qJ t.nodes out t.nodes.length ks→next.length=t.nodes.length→(∀i,i<t.nodes.length→gt next i=(ks.idxOf (key out (nd t.nodes i) i):Int))→Inv next) :
  ∃cls many ks ns,dw.f m t=some ⟨ns,0⟩∧Part t.nodes.length cls many∧Inv cls∧qJ t.nodes cls t.nodes.length ks∧ks.length=many+1∧Ps cls t.nodes [] (ug cls t.nodes m t.root []) [] ns∧gh cls t.root∈(ug cls t.nodes m t.root []).map (gh cls):=by
 have JB:(2:Nat) ^ 30=1073741824:=by decide
 have xo:(2:Nat) ^ 41=2199023255552:=by decide
 have h8000:=ok.1
 obtain⟨cls,many,ks,k1,P,I,K,Bs⟩:=xt hm ok h1 Inv hI0 hI
 obtain⟨ns,k2,P2,h2⟩:=uh (m:=m) (root:=t.root) (by omega) ok P.len m t.root [] [] r0 r1 ⟨by simp,fun x hx=>by simp at hx⟩ rfl (by simp; omega)
 refine⟨cls,many,ks,ns,?_,P,I,K,Bs,P2,h2⟩
 unfold dw.f
 have k2:bf.f m m t.root [] cls ⟨[],0⟩ t=_:=k2
 rw [k1,XJ,k2]; rfl
end Go.Proofs.Ytifafejidnjckaa
namespace Go.Proofs.Ytifafejidnjckaa
open Go Go.R
open Go.IntKind (i64 u64 u8 u32)
end Go.Proofs.Ytifafejidnjckaa
namespace Go.Proofs.Ytifafejidnjckaa
open Go Go.R
open Go.IntKind (i64 u64 u8 u32)
end Go.Proofs.Ytifafejidnjckaa
namespace Go.Proofs.Ytifafejidnjckaa
open Go Go.R
open Go.IntKind (i64 u64 u8 u32)
end Go.Proofs.Ytifafejidnjckaa
namespace Go.Proofs.Ytifafejidnjckaa
open Go Go.R
open Go.IntKind (i64 u64 u8 u32)
end Go.Proofs.Ytifafejidnjckaa
namespace Go.Proofs.Ytifafejidnjckaa
open Go Go.R
open Go.IntKind (i64 u64 u8 u32)
end Go.Proofs.Ytifafejidnjckaa
namespace Go.Proofs.Ytifafejidnjckaa
open Go Go.R
open Go.IntKind (i64 u64 u8 u32)
end Go.Proofs.Ytifafejidnjckaa
namespace Go.Proofs.Ytifafejidnjckaa
open Go Go.R
open Go.IntKind (i64 u64 u8 u32)
theorem GX {s:ByteArray}(h:(s.data.toList==[])=true):s=Yv #[]:=by
 have h:=beq_iff_eq.1 h
 cases s with
 | mk d=>
  cases d with
  | mk l=>simp only at h; subst h; rfl
theorem N0 {l:List Int}(h:l.isEmpty=true):l=[]:=by cases l with | nil=>rfl | cons=>cases h
structure El (n:aj):Prop where
 kind:n.kind=0∧0≤n.int∧n.label=Yv #[]∧n.args=[]∨n.kind=1∧(-1099511627776≤n.int∧n.int≤1099511627776)∧n.label=Yv #[]∧n.args=[]∨n.kind=2∧n.int=0∧n.args=[]∨n.kind=3∧n.int=0∨n.kind=4∧n.args=[]
 label:n.kind=2∨n.kind=3→1≤n.label.size∧n.label.size≤16
 args:n.args.length≤8
theorem lH {n:aj}{size:Int}(h:fA n size=true):El n∧∀a∈n.args,0≤a∧a<size:=by
 unfold fA at h
 split at h
 ·rename_i k
  simp only [XN,decide_eq_true_eq] at h
  have ha:=N0 h.2
  exact⟨⟨.inl ⟨k,h.1.1,GX h.1.2,ha⟩,fun z=>by omega,by rw [ha]; decide⟩,fun a h=>by rw [ha] at h; cases h⟩
 split at h
 ·rename_i k
  simp only [XN,decide_eq_true_eq] at h
  have ha:=N0 h.2
  exact⟨⟨.inr (.inl ⟨k,h.1.1,GX h.1.2,ha⟩),fun z=>by omega,by rw [ha]; decide⟩,fun a h=>by rw [ha] at h; cases h⟩
 split at h
 ·rename_i k
  simp only [XN,beq_iff_eq] at h
  have ha:=N0 h.2
  exact⟨⟨.inr (.inr (.inl ⟨k,h.1.1,ha⟩)),fun z=>vD h.1.2,by rw [ha]; decide⟩,fun a h=>by rw [ha] at h; cases h⟩
 split at h
 ·rename_i k
  simp only [XN,beq_iff_eq,decide_eq_true_eq,X5] at h
  exact⟨⟨.inr (.inr (.inr (.inl ⟨k,h.1.1.1.1⟩))),fun z=>vD h.1.1.1.2,h.1.2⟩,h.2⟩
 split at h
 ·rename_i k
  simp only [XN,decide_eq_true_eq] at h
  have ha:=N0 h.2
  exact⟨⟨.inr (.inr (.inr (.inr ⟨k,ha⟩))),fun z=>by omega,by rw [ha]; decide⟩,fun a h=>by rw [ha] at h; cases h⟩
 ·cases h
theorem jm {t:bc}(h:gf t=true):C3 t.nodes∧1≤t.nodes.length∧0≤t.root∧t.root<t.nodes.length∧∀n∈t.nodes,El n:=by
 unfold gf at h
 simp only [XN,decide_eq_true_eq,X5] at h
 obtain⟨⟨⟨⟨h1,h2⟩,h3⟩,h4⟩,h5⟩:=h
 exact⟨⟨h2,fun n hn=>⟨(lH (h5 n hn)).1.args,(lH (h5 n hn)).2⟩⟩,h1,h3,h4,fun n hn=>(lH (h5 n hn)).1⟩
end Go.Proofs.Ytifafejidnjckaa
namespace Go.Proofs.Ytifafejidnjckaa
open Go Go.R Go.Uf
open Go.IntKind (i64 u64 u8 u32)
section
variable {m:Nat}{s s':ab}
theorem qL {f:Int→Option Bool}{g:Int→Bool}(l:List Int)(hl:l.length≤1000000)(hf:∀x∈l,f x=some (g x)):∀(k:Nat) (s1:List Int) (i j:Nat),i≤j→i<l.length→j≤l.length→l.length - j<k→s1.length=l.length→s1.take i=(l.take j).filter (fun x=>!g x)→s1.drop j=l.drop j→
  ∃(s2:List Int) (i2:Nat) (z:Int),ez.l0 m l f k s1 (i:Int) (j:Int)=some (s2,(i2:Int),z)∧i2≤l.length∧s2.length=l.length∧s2.take i2=l.filter (fun x=>!g x)
 | 0,s1,i,j,h1,_,h2,h3,_,_,_=>by omega
 | k+1,s1,i,j,h1,h0,h2,h3,h4,h5,h6=>by
  simp only [ez.l0]
  by_cases hj:j<l.length
  ·have d:decide ((j:Int)<(l.length:Int))=true:=by rw [decide_eq_true_eq]; omega
   have el:=XO hj
   have e1:s1[j]? = some l[j]:=by
    have:=congrArg (fun z=>z[0]?) h6
    simp only [List.getElem?_drop,Y3] at this
    rw [this,el]
   have et:l.take (j+1)=l.take j++[l[j]]:=(Yu hj)
   have R0:i64.wrap ((j:Int)+1)=((j+1:Nat):Int):=by rw [jT (by omega) (by omega)]; omega
   have V3:i64.wrap ((i:Int)+1)=((i+1:Nat):Int):=by rw [jT (by omega) (by omega)]; omega
   have hd:∀s3:List Int,s3.drop j=l.drop j→s3.drop (j+1)=l.drop (j+1):=fun s3 h=>by
    rw [Zd,←List.drop_drop,←List.drop_drop] at *
    rw [Zd] at *
    have a1:(s3.drop j).drop 1=(l.drop j).drop 1:=by rw [h]
    simpa [List.drop_drop,Zd] using a1
   rw [if_pos d,uw e1]
   simp only [XJ,hf _ (XT el),R0,V3]
   cases hg:g l[j] with
   | true=>
    rw [if_neg (by decide)]
    exact qL l hl hf k s1 i (j+1) (by omega) h0 (by omega) (by omega) h4 (by rw [et,List.filter_append,h5]; simp [hg]) (hd s1 h6)
   | false=>
    rw [if_pos (by decide)]
    have i1:i<s1.length:=by omega
    have e2:=XO i1
    rw [uw e2,XJ,XY]
    by_cases hi:i+1<l.length
    ·refine qL l hl hf k (s1.set i l[j]) (i+1) (j+1) (by omega) hi (by omega) (by omega) (by rw [XV,h4]) ?_ ?_
     ·rw [et,List.filter_append,←h5]
      have:(s1.set i l[j]).take (i+1)=s1.take i++[l[j]]:=by
       rw [Yu (by rw [XV]; exact i1)]
       rw [List.take_set_of_le (XP _),List.getElem_set_self]
      rw [this]; simp [hg]
     ·rw [List.drop_set_of_lt (by omega)]
      exact hd s1 h6
    ·
     have Hw:j+1=l.length:=by omega
     have zJ:i=j:=by omega
     cases k with
     | zero=>omega
     | succ k=>
      simp only [ez.l0]
      have d2:decide (((j+1:Nat):Int)<(l.length:Int))=false:=by rw [decide_eq_false_iff_not]; omega
      rw [if_neg (by rw [d2]; decide)]
      refine⟨_,i+1,_,rfl,by omega,by rw [XV,h4],?_⟩
      have:(s1.set i l[j]).take (i+1)=s1.take i++[l[j]]:=by
       rw [Yu (by rw [XV]; exact i1)]
       rw [List.take_set_of_le (XP _),List.getElem_set_self]
      have N1:l=l.take j++[l[j]]:=by rw [←et,Hw,Zf]
      rw [this,h5]
      conv=>rhs; rw [N1]
      rw [List.filter_append]; simp [hg]
  ·have d:decide ((j:Int)<(l.length:Int))=false:=by rw [decide_eq_false_iff_not]; omega
   rw [if_neg (by rw [d]; decide)]
   have Hw:j=l.length:=by omega
   refine⟨_,i,_,rfl,by omega,h4,?_⟩
   rw [h5,Hw,Zf]
theorem GY {f:Int→Option Bool}{g:Int→Bool}(hm:2000000≤m)(l:List Int)(hl:l.length≤1000000)(hf:∀x∈l,f x=some (g x)):ez.f m l f=some (l.filter fun x=>!g x):=by
 unfold ez.f
 rcases CY hm l hl hf with⟨j,e,j1,j2,j3⟩| ⟨e,h⟩
 ·rw [e,XJ]
  have hne:((j:Int) == -1)=false:=by rw [beq_eq_false_iff_ne]; omega
  have R0:i64.wrap ((j:Int)+1)=((j+1:Nat):Int):=by rw [jT (by omega) (by omega)]; omega
  have el:=XO j1
  obtain⟨s2,i2,z,e2,g1,g2,g3⟩:=qL (m:=m) l hl hf m l j (j+1) (by omega) j1 (by omega) (by omega) rfl (by
   rw [Yu j1,List.filter_append]
   have:(l.take j).filter (fun x=>!g x)=l.take j:=by
    rw [List.filter_eq_self]
    intro x hx
    obtain⟨q,hq⟩:=YC hx
    have RR:q<j:=by
     have:=(XQ.1 hq).1
     rw [YD] at this; omega
    rw [List.getElem?_take_of_lt RR] at hq
    rw [j3 q RR x hq]; rfl
   rw [this]; simp [j2 _ el]) rfl
  rw [hne,if_neg (by decide),R0,e2]
  simp only [XJ]
  have hc:L9 s2 (i2:Int)=some (s2.take i2++X6 (s2.length - i2) 0):=by
   unfold L9; rw [if_pos ⟨Y5 _,by omega⟩,XY]
  rw [hc,XJ]
  have hs:Ju (s2.take i2++X6 (s2.length - i2) 0) 0 (i2:Int)=some (s2.take i2):=by
   unfold Ju
   rw [if_pos ⟨Int.le_refl _,Y5 _,by rw [XU,YD,Za]; omega⟩]
   congr 1
   simp only [XY,Int.toNat_zero,Ys,Nat.sub_zero]
   rw [Yi (by rw [YD]; omega),List.take_take,Nat.min_self]
  rw [hs,g3]; rfl
 ·rw [e,XJ]
  have hb:((-1:Int) == -1)=true:=rfl
  rw [hb,if_pos rfl]
  congr 1
  rw [eq_comm,List.filter_eq_self]
  intro x hx; rw [h x hx]; rfl
def IS (N:List aj)(l:List Int):List Int:=ly (l.filter fun n=>(dq N n).kind==0)
theorem sk (hm:2000000≤m){l:List Int}(hl:l.length≤8000)(hr:∀n∈l,Rg s.aa.length n):cQ.f m s l=some (IS s.aa l):=by
 unfold cQ.f
 have h1:Ez 8 (l.length:Int) (0:Int)=some (X6 l.length 0):=by
  unfold Ez; rw [if_pos ⟨Y5 _,by rw [XY]; omega⟩,XY]
 have h2:Nn (X6 l.length (0:Int)) l=some l:=by
  unfold Nn; rw [if_pos (by rw [Za]; exact XP _)]; simp
 rw [h1,XJ,h2,XJ]
 rw [GY hm l (by omega) (g:=fun n=>!((dq s.aa n).kind==0)) (fun x hx=>by simp only [du.f,AT (hr x hx),XJ])]
 simp only [XJ,Bool.not_not]
 rfl
theorem ui (hm:2000000≤m)(v:Inv s)(c:Cl s.aa (rp s.ae)){a b:Int}(ha:Rg s.aa.length a)(hb:Rg s.aa.length b) :
  ∃l ok s',aB.f m s a b=some (l,ok,s')∧CU s s' l∧Inv s'∧l.length≤8000∧
   (ok=false→∀T,Cl s.aa T→gB s.aa (rp s.ae) T→T a=T b→False)∧
   (ok=true→Cl s.aa (rp s'.ae)∧gB s.aa (rp s.ae) (rp s'.ae)∧rp s'.ae a=rp s'.ae b∧∀T,Cl s.aa T→gB s.aa (rp s.ae) T→T a=T b→gB s.aa (rp s'.ae) T):=by
 have n1:=xi s.ae
 have n2:=v.len
 have n3:=v.max
 obtain⟨out,e1,e2⟩:=qH (m:=m) (by omega) m s [] [⟨a,b⟩] 0 (by simp) (by simp only [X2,Yf]; omega) (by simp only [X2,Yf]; omega) (by simp) v
  (fun p hp=>by simp only [X9] at hp; subst hp; exact⟨ha,hb⟩) (by
   rw [Ys]; exact IF c v.args)
 have e1:aB.l0 m m [] [⟨a,b⟩] 0 s=some out:=e1
 unfold aB.f
 rw [e1,XJ]
 match out,e2 with
 | .inl (Gy,b',s'),⟨uu,l,e,u,v',hl,hT⟩=>
  subst uu
  rw [Yr] at e hl
  subst e
  exact⟨Gy,false,s',rfl,u,v',hl,fun _ T cT sT pT=>hT T cT sT fun p hp=>by
   simp only [Ys,X8,Ze,X9] at hp; subst hp; exact pT,fun h=>by cases h⟩
 | .inr (Gy,JA,i',s'),⟨l,e,u,v',hl,hc,hs,hq,hT⟩=>
  rw [Yr] at e hl
  subst e
  exact⟨Gy,true,s',rfl,u,v',hl,(fun h=>by cases h),fun _=>⟨hc,hs,hq (a,b) (by simp [xK]),fun T cT sT pT=>hT T cT sT fun p hp=>by
   simp only [Ys,X8,Ze,X9] at hp; subst hp; exact pT⟩⟩
def V4 (N:List aj):Prop:=∀n,Rg N.length n→fA (dq N n) N.length=true∧((dq N n).kind=0→(dq N n).int=n)
structure Inv2 (s:ab):Prop where
 inv:Inv s
 cl:Cl s.aa (rp s.ae)
 vn:V4 s.aa
def jb (s:ab)(l:List Int):Bool:=l.all fun n=>decide (Rg s.aa.length n)
theorem xw {a b:Int}(h:jb s [a,b]=true):Rg s.aa.length a∧Rg s.aa.length b:=by
 simpa [jb] using h
theorem C5 (hm:2000000≤m)(v:Inv2 s)(a b:Int):∃l e s',bU.f m s a b=some (l,e,s')∧Inv2 s'∧s'.ak=s.ak∧s'.aa=s.aa∧
  ((jb s [a,b]=false∧e=1∧s'=s)∨
   (jb s [a,b]=true∧e=8∧s'=s∧∀T,Cl s.aa T→gB s.aa (rp s.ae) T→T a=T b→False)∨
   (jb s [a,b]=true∧e=0∧gB s.aa (rp s.ae) (rp s'.ae)∧rp s'.ae a=rp s'.ae b∧∀T,Cl s.aa T→gB s.aa (rp s.ae) T→T a=T b→gB s.aa (rp s'.ae) T)):=by
 unfold bU.f
 rw [nU hm v.inv.made [a,b] (by simp)]
 show ∃l e s',((some (if jb s [a,b]=true then (0:Int) else 1)).bind _)=_∧_
 rw [XJ]
 cases hn:jb s [a,b] with
 | false=>
  refine⟨[],1,s,by simp,v,rfl,rfl,.inl ⟨rfl,rfl,rfl⟩⟩
 | true=>
  obtain⟨ra,rb⟩:=xw hn
  obtain⟨l,ok,s',e,u,v',hl,h1,h2⟩:=ui hm v.inv v.cl ra rb
  have e0:(!((if true=true then (0:Int) else 1)==0))=false:=rfl
  rw [e0,if_neg (by decide),e,XJ]
  cases ok with
  | false=>
   rw [if_pos (show (!(l,false,s').2.1)=true from rfl)]
   simp only [xn (m:=m) (by omega) hl u,XJ]
   exact⟨_,_,s,rfl,v,rfl,rfl,.inr (.inl ⟨by simp,rfl,rfl,h1 rfl⟩)⟩
  | true=>
   rw [if_neg (show ¬(!(l,true,s').2.1)=true by simp)]
   have eN:s'.aa=s.aa:=u.2.1
   simp only []
   rw [sk hm hl (fun n hn=>by rw [eN,←v.inv.len]; exact (u.2.2.2.1 n hn).1)]
   obtain⟨k1,k2,k3,k4⟩:=h2 rfl
   exact⟨_,_,s',rfl,⟨v',by rw [eN]; exact k1,by rw [eN]; exact v.vn⟩,u.1,eN,.inr (.inr ⟨by simp,rfl,k2,k3,k4⟩)⟩
theorem Lz (hm:2000000≤m)(v:Inv2 s)(a b:Int):∃t l e,b7.f m s a b=some (t,l,e,s):=by
 unfold b7.f
 rw [nU hm v.inv.made [a,b] (by simp)]
 show ∃t l e,((some (if jb s [a,b]=true then (0:Int) else 1)).bind _)=_
 rw [XJ]
 cases hn:jb s [a,b] with
 | false=>exact⟨0,[],1,by simp⟩
 | true=>
  obtain⟨ra,rb⟩:=xw hn
  obtain⟨l,ok,s',e,u,v',hl,h1,h2⟩:=ui hm v.inv v.cl ra rb
  have e0:(!((if true=true then (0:Int) else 1)==0))=false:=rfl
  rw [e0,if_neg (by decide),e,XJ]
  simp only [xn (m:=m) (by omega) hl u,XJ]
  rw [sk hm hl (fun n hn=>by rw [←v.inv.len]; exact (u.2.2.2.1 n hn).1)]
  simp only [XJ]
  cases ok with
  | false=>exact⟨0,[],0,by simp⟩
  | true=>
   rw [if_neg (by simp)]
   split
   ·exact⟨_,_,_,rfl⟩
   ·exact⟨_,_,_,rfl⟩
theorem N2 (hm:2000000≤m)(v:Inv s)(n:Int):dI.f m s n=some (if Rg s.aa.length n then (rp s.ae n,0) else (0,1)):=by
 unfold dI.f
 rw [nU hm v.made [n] (by simp)]
 by_cases h:Rg s.aa.length n
 ·simp [h,tW (m:=m) (by omega) v h]
 ·simp [h]
end
end Go.Proofs.Ytifafejidnjckaa
namespace Go.Proofs.Ytifafejidnjckaa
open Go Go.R
open Go.IntKind (i64 u64 u8 u32)
theorem uj:∀(x:List UInt8),Op.bytesLess x x=false
 | []=>rfl
 | a::x=>by simp [Op.bytesLess,uj x]
theorem xy:∀(x y:List UInt8),Op.bytesLess x y=true→Op.bytesLess y x=false
 | _,[],h=>by cases ‹List UInt8›<;>simp [Op.bytesLess] at h
 | [],b::y,_=>rfl
 | a::x,b::y,h=>by
  simp only [Op.bytesLess,Yw,XN,decide_eq_true_eq,beq_iff_eq] at h
  simp only [Op.bytesLess,Bool.or_eq_false_iff,Bool.and_eq_false_iff,decide_eq_false_iff_not,beq_eq_false_iff_ne]
  rcases h with h | ⟨rfl,h⟩
  ·refine⟨fun h2=>?_,.inl fun e=>?_⟩
   ·rw [YX] at h h2; omega
   ·subst e; rw [YX] at h; omega
  ·exact⟨by rw [YX]; omega,.inr (xy x y h)⟩
theorem GZ:∀(x y:List UInt8),Op.bytesLess x y=true∨x=y∨Op.bytesLess y x=true
 | [],[]=>.inr (.inl rfl)
 | [],b::y=>.inl rfl
 | a::x,[]=>.inr (.inr rfl)
 | a::x,b::y=>by
  simp only [Op.bytesLess,Yw,XN,decide_eq_true_eq,beq_iff_eq,List.cons.injEq]
  rcases Nat.lt_trichotomy a.toNat b.toNat with h | h | h
  ·exact .inl (.inl (YX.2 h))
  ·have:a=b:=UInt8.toNat_inj.1 h
   subst this
   rcases GZ x y with h1 | h1 | h1
   ·exact .inl (.inr ⟨rfl,h1⟩)
   ·exact .inr (.inl ⟨rfl,h1⟩)
   ·exact .inr (.inr (.inr ⟨rfl,h1⟩))
  ·exact .inr (.inr (.inl (YX.2 h)))
theorem zo:∀(x y z:List UInt8),Op.bytesLess x y=true→Op.bytesLess y z=true→Op.bytesLess x z=true
 | _,_,[],_,h=>by cases ‹List UInt8›<;>simp [Op.bytesLess] at h
 | _,[],c::z,h,_=>by cases ‹List UInt8›<;>simp [Op.bytesLess] at h
 | [],b::y,c::z,_,_=>rfl
 | a::x,b::y,c::z,h1,h2=>by
  simp only [Op.bytesLess,Yw,XN,decide_eq_true_eq,beq_iff_eq] at h1 h2 ⊢
  rcases h1 with h1 | ⟨rfl,h1⟩
  ·rcases h2 with h2 | ⟨rfl,h2⟩
   ·left; rw [YX] at *; omega
   ·exact .inl h1
  ·rcases h2 with h2 | ⟨rfl,h2⟩
   ·exact .inl h2
   ·exact .inr ⟨rfl,zo x y z h1 h2⟩
theorem A9 {x y:ByteArray}(h:x.data.toList=y.data.toList):x=y:=by
 cases x with | mk a=>cases y with | mk b=>cases a; cases b; simp only at h; subst h; rfl
structure LA {α:Type}(c:α→α→Int):Prop where
 zero:∀x y,c x y=0→x=y
 refl:∀x,c x x=0
 neg:∀x y,c y x = - c x y
 tr:∀x y z,c x y≤0→c y z≤0→c x z≤0
theorem nG:LA cI:=by
 refine⟨fun x y h=>?_,fun x=>?_,fun x y=>?_,fun x y z h1 h2=>?_⟩
 ·unfold cI at h; split at h
  ·omega
  ·split at h<;>omega
 ·unfold cI; simp
 ·unfold cI; split<;>split<;>(try split)<;>omega
 ·unfold cI at *
  split at h1<;>split at h2<;>(try split at h1)<;>(try split at h2)<;>(try omega)<;>split<;>(try split)<;>omega
theorem zp (x y:ByteArray):cS x y=if Op.bytesLess x.data.toList y.data.toList=true then -1 else if x=y then 0 else 1:=by
 unfold cS FA
 cases h:Op.bytesLess x.data.toList y.data.toList with
 | true=>rfl
 | false=>
  simp only [Bool.false_or,XX,if_false]
  by_cases e:x=y
  ·subst e; simp
  ·rw [if_neg e]
   have:(x.data.toList==y.data.toList)=false:=by
    rw [beq_eq_false_iff_ne]; exact fun h=>e (A9 h)
   rw [this]; rfl
theorem G0:LA cS:=by
 refine⟨fun x y h=>?_,fun x=>?_,fun x y=>?_,fun x y z h1 h2=>?_⟩
 ·rw [zp] at h
  split at h
  ·omega
  ·split at h
   ·assumption
   ·omega
 ·rw [zp,uj]; simp
 ·rw [zp,zp]
  rcases GZ x.data.toList y.data.toList with h | h | h
  ·have h2:=xy _ _ h
   have hne:¬y=x:=fun e=>by subst e; rw [uj] at h; cases h
   rw [if_pos h,h2]; simp [hne]
  ·have:=A9 h
   subst this
   rw [uj]; simp
  ·have h2:=xy _ _ h
   have hne:¬x=y:=fun e=>by subst e; rw [uj] at h; cases h
   rw [if_pos h,h2]; simp [hne]
 ·rw [zp] at h1 h2 ⊢
  split at h1
  ·rename_i g1
   split at h2
   ·rename_i g2
    rw [if_pos (zo _ _ _ g1 g2)]; omega
   ·split at h2
    ·rename_i e; subst e; rw [if_pos g1]; omega
    ·omega
  ·split at h1
   ·rename_i e; subst e
    split at h2
    ·rename_i g2; rw [if_pos g2]; omega
    ·split at h2
     ·rename_i g e; rw [if_neg g,if_pos e]; omega
     ·omega
   ·omega
theorem G1 {α β:Type}{c:α→α→Int}{d:β→β→Int}(C:LA c)(D:LA d):LA fun (p q:α × β)=>Ej (c p.1 q.1) (d p.2 q.2):=by
 refine⟨fun x y h=>?_,fun x=>?_,fun x y=>?_,fun x y z h1 h2=>?_⟩
 ·unfold Ej at h
  split at h
  ·rename_i h1; exact Prod.ext (C.zero _ _ h1) (D.zero _ _ h)
  ·exact absurd h ‹_›
 ·unfold Ej; rw [C.refl,if_pos rfl,D.refl]
 ·skip
  unfold Ej
  have:=C.neg x.1 y.1
  by_cases h:c x.1 y.1=0
  ·rw [if_pos h,if_pos (by omega),D.neg]
  ·rw [if_neg h,if_neg (by omega),C.neg]
 ·skip
  unfold Ej at *
  by_cases a:c x.1 y.1=0
  ·rw [if_pos a] at h1
   have e:=C.zero _ _ a
   rw [←e] at h2
   by_cases b:c x.1 z.1=0
   ·rw [if_pos b] at h2 ⊢; exact D.tr _ _ _ h1 h2
   ·rw [if_neg b] at h2 ⊢; exact h2
  ·rw [if_neg a] at h1
   have hz:c x.1 z.1≤0:=by
    by_cases b:c y.1 z.1=0
    ·rw [←C.zero _ _ b]; exact h1
    ·rw [if_neg b] at h2; exact C.tr _ _ _ h1 h2
   have hne:c x.1 z.1≠0:=fun e=>by
    have e1:=C.zero _ _ e
    by_cases b:c y.1 z.1=0
    ·have e2:=C.zero _ _ b; rw [e1,←e2] at a; exact a (C.refl _)
    ·rw [if_neg b,←e1] at h2
     have:=C.neg x.1 y.1; omega
   rw [if_neg hne]; exact hz
theorem C6:LA fun (p q:Int × ByteArray)=>Ej (cI p.1 q.1) (cS p.2 q.2):=G1 nG G0
theorem C7:LA fun (p q:ByteArray × Int)=>Ej (cS p.1 q.1) (cI p.2 q.2):=G1 G0 nG
theorem mu {a b:aj}(h:a.kind=b.kind):cT a b=if a.kind=3 then Ej (cI a.args.length b.args.length) (cS a.label b.label) else Ej (cS a.label b.label) (cI a.int b.int):=by unfold cT; rw [if_pos h]
theorem jU {a b:aj}(h:a.kind≠b.kind):cT a b=cI a.kind b.kind:=by unfold cT; rw [if_neg h]
theorem jo (a b:aj):cT b a = - cT a b:=by
 by_cases h:a.kind=b.kind
 ·rw [mu h,mu h.symm,←h]
  split
  ·exact C6.neg ((a.args.length:Int),a.label) ((b.args.length:Int),b.label)
  ·exact C7.neg (a.label,a.int) (b.label,b.int)
 ·rw [jU h,jU (Ne.symm h)]; exact nG.neg _ _
theorem zq (a b c:aj)(h1:cT a b≤0)(h2:cT b c≤0):cT a c≤0:=by
 by_cases e1:a.kind=b.kind
 ·by_cases e2:b.kind=c.kind
  ·rw [mu e1] at h1
   rw [mu e2,←e1] at h2
   rw [mu (e1.trans e2)]
   split
   ·rename_i h3; rw [if_pos h3] at h1 h2
    exact C6.tr ((a.args.length:Int),a.label) ((b.args.length:Int),b.label) ((c.args.length:Int),c.label) h1 h2
   ·rename_i h3; rw [if_neg h3] at h1 h2
    exact C7.tr (a.label,a.int) (b.label,b.int) (c.label,c.int) h1 h2
  ·rw [jU e2] at h2
   rw [jU (by rw [e1]; exact e2),e1]; exact h2
 ·rw [jU e1] at h1
  by_cases e2:b.kind=c.kind
  ·rw [jU (by rw [←e2]; exact e1),←e2]; exact h1
  ·rw [jU e2] at h2
   have n1:cI a.kind b.kind≠0:=fun h=>e1 (nG.zero _ _ h)
   have n2:cI b.kind c.kind≠0:=fun h=>e2 (nG.zero _ _ h)
   by_cases e3:a.kind=c.kind
   ·rw [←e3] at h2
    have:=nG.neg a.kind b.kind
    omega
   ·rw [jU e3]; exact nG.tr _ _ _ h1 h2
structure Alike (a b:aj):Prop where
 kind:a.kind=b.kind
 int:a.int=b.int
 label:a.label=b.label
 len:a.args.length=b.args.length
theorem Alike.refl (a:aj):Alike a a:=⟨rfl,rfl,rfl,rfl⟩
theorem Alike.symm {a b:aj}(h:Alike a b):Alike b a:=⟨h.1.symm,h.2.symm,h.3.symm,h.4.symm⟩
theorem Alike.trans {a b c:aj}(h:Alike a b)(k:Alike b c):Alike a c:=⟨h.1.trans k.1,h.2.trans k.2,h.3.trans k.3,h.4.trans k.4⟩
theorem Alike.cT {a b:aj}(h:Alike a b):cT a b=0:=by
 rw [mu h.kind]
 split
 ·rw [h.len,h.label]; exact C6.refl ((b.args.length:Int),b.label)
 ·rw [h.label,h.int]; exact C7.refl (b.label,b.int)
theorem zr {a b:aj}(h:cT a b=0)(ha:a.kind=3→a.int=0)(hb:b.kind=3→b.int=0)(V5:a.kind≠3→a.args=[])(hb2:b.kind≠3→b.args=[]):Alike a b:=by
 by_cases e:a.kind=b.kind
 ·rw [mu e] at h
  split at h
  ·rename_i h3
   have:=C6.zero ((a.args.length:Int),a.label) ((b.args.length:Int),b.label) h
   simp only [XS] at this
   exact⟨e,by rw [ha h3,hb (by rw [←e]; exact h3)],this.2,by omega⟩
  ·rename_i h3
   have:=C7.zero (a.label,a.int) (b.label,b.int) h
   simp only [XS] at this
   exact⟨e,this.2,this.1,by rw [V5 h3,hb2 (by rw [←e]; exact h3)]⟩
 ·rw [jU e] at h
  exact absurd (nG.zero _ _ h) e
theorem LB (l:List aj)(s:List Int):Ord (fun x y=>cT (nd l x) (nd l y)) s:=by
 refine⟨fun x _ y _ z _ h1 h2=>?_,fun x _ y _ h=>?_⟩
 ·skip
  have a1:=jo (nd l x) (nd l y)
  have a2:=jo (nd l y) (nd l z)
  have a3:=jo (nd l x) (nd l z)
  have:=zq (nd l x) (nd l y) (nd l z) (by omega) (by omega)
  omega
 ·skip
  have a1:=jo (nd l x) (nd l y)
  omega
end Go.Proofs.Ytifafejidnjckaa
namespace Go.Proofs.Ytifafejidnjckaa
open Go Go.R
open Go.IntKind (i64 u64 u8 u32)
structure T3 (l:List aj)(R:Nat→Nat→Prop):Prop where
 nY:∀i j,R i j→i<l.length∧j<l.length
 top:∀i j,R i j→Alike (nd l i) (nd l j)
 arg:∀i j,R i j→∀k,k<(nd l i).args.length→R (gt (nd l i).args k).toNat (gt (nd l j).args k).toNat
structure Min (l:List aj)(r:List Int):Prop where
 len:r.length=l.length
 top:∀i j,i<l.length→j<l.length→gt r i=gt r j→Alike (nd l i) (nd l j)
 arg:∀i j,i<l.length→j<l.length→gt r i=gt r j→∀k,k<(nd l i).args.length→gt r (gt (nd l i).args k).toNat=gt r (gt (nd l j).args k).toNat
 max:∀R,T3 l R→∀i j,R i j→gt r i=gt r j
theorem sm (a:aj):cT a a=0:=(Alike.refl a).cT
theorem uR {a b c:aj}(h1:cT a b=0)(h2:cT b c=0):cT a c=0:=by
 have n1:=jo a b
 have n2:=jo b c
 have n3:=jo a c
 have t1:=zq a b c (by omega) (by omega)
 have t2:=zq c b a (by omega) (by omega)
 omega
theorem xz {l:List aj}{d:List Int}{k:Nat}:∀j,k≤j→rk l d k=rk l d j→cT (nd l (gt d k)) (nd l (gt d j))=0
 | 0,h,_=>by
   have:k=0:=by omega
   subst this; exact sm _
 | j+1,h,e=>by
  by_cases hk:k=j+1
  ·subst hk; exact sm _
  ·have m1:=xr l d k j (by omega)
   have e2:rk l d (j+1)=rk l d j+if cT (nd l (gt d j)) (nd l (gt d (j+1)))=0 then 0 else 1:=rfl
   by_cases hc:cT (nd l (gt d j)) (nd l (gt d (j+1)))=0
   ·rw [if_pos hc] at e2
    exact uR (xz j (by omega) (by omega)) hc
   ·rw [if_neg hc] at e2; omega
theorem xA {l:List aj}{d:List Int}{n:Nat}(S:Sg (fun x y=>cT (nd l x) (nd l y)) d 0 n){k q:Nat}(hq:q<n)(h0:cT (nd l (gt d k)) (nd l (gt d q))=0):∀j,k≤j→j≤q→rk l d j=rk l d k
 | 0,h,_=>by
   have:k=0:=by omega
   subst this; rfl
 | j+1,h,hj=>by
  by_cases hk:k=j+1
  ·subst hk; rfl
  ·have ih:=xA S hq h0 j (by omega) (by omega)
   have V6:cT (nd l (gt d k)) (nd l (gt d j))≤0:=by
    by_cases e:k=j
    ·subst e; rw [sm]; omega
    ·have:0≤cT (nd l (gt d j)) (nd l (gt d k)):=S k j (by omega) (by omega) (by omega)
     have n:=jo (nd l (gt d k)) (nd l (gt d j))
     omega
   have V7:cT (nd l (gt d (j+1))) (nd l (gt d q))≤0:=by
    by_cases e:j+1=q
    ·subst e; rw [sm]; omega
    ·have:0≤cT (nd l (gt d q)) (nd l (gt d (j+1))):=S (j+1) q (by omega) (by omega) hq
     have n:=jo (nd l (gt d (j+1))) (nd l (gt d q))
     omega
   have V8:cT (nd l (gt d q)) (nd l (gt d k))≤0:=by have n:=jo (nd l (gt d k)) (nd l (gt d q)); omega
   have XA:=zq _ _ _ (zq _ _ _ V7 V8) V6
   have s1:=S j (j+1) (by omega) (by omega) (by omega)
   have n:=jo (nd l (gt d j)) (nd l (gt d (j+1)))
   have hz:cT (nd l (gt d j)) (nd l (gt d (j+1)))=0:=by
    have s1:0≤cT (nd l (gt d (j+1))) (nd l (gt d j)):=s1
    omega
   show rk l d j+(if cT (nd l (gt d j)) (nd l (gt d (j+1)))=0 then 0 else 1)=_
   rw [if_pos hz,ih]; rfl
def IT (l:List aj)(out:List Int):Prop:=(∀i j,i<l.length→j<l.length→gt out i=gt out j→cT (nd l i) (nd l j)=0)∧∀R,T3 l R→∀i j,R i j→gt out i=gt out j
theorem Em {l:List aj}{d out:List Int}(hp:d.Perm (ints l.length))(hs:Ord (fun x y=>cT (nd l x) (nd l y)) (ints l.length)→Sg (fun x y=>cT (nd l x) (nd l y)) d 0 l.length)(hg:∀k,k<l.length→gt out (gt d k).toNat=rk l d k):IT l out:=by
 have S:=hs (LB _ _)
 have RL:d.length=l.length:=by rw [hp.length_eq,fi]
 have pos:∀i,i<l.length→∃k,k<l.length∧gt d k=i∧gt out i=rk l d k:=fun i hi=>by
  obtain⟨k,hk,e⟩:=vF (hp.mem_iff.2 (jC.2 (show 0≤(i:Int)∧(i:Int)<l.length by omega)))
  have:=hg k (by omega)
  rw [e,XY] at this
  exact⟨k,by omega,e,this⟩
 refine⟨fun i j hi hj e=>?_,fun R B i j hR=>?_⟩
 ·obtain⟨k,hk,ek,R5⟩:=pos i hi
  obtain⟨q,hq,eq,R6⟩:=pos j hj
  rw [R5,R6] at e
  rw [←ek,←eq]
  rcases Nat.le_total k q with h | h
  ·exact xz q h (by omega)
  ·have:=xz (l:=l) (d:=d) k h (by omega)
   have n:=jo (nd l (gt d k)) (nd l (gt d q))
   omega
 ·obtain⟨hi,hj⟩:=B.nY i j hR
  obtain⟨k,hk,ek,R5⟩:=pos i hi
  obtain⟨q,hq,eq,R6⟩:=pos j hj
  have h0:=(B.top i j hR).cT
  rw [←ek,←eq] at h0
  rw [R5,R6]
  rcases Nat.le_total k q with h | h
  ·rw [xA S hq h0 q h (XP _)]
  ·have n:=jo (nd l (gt d k)) (nd l (gt d q))
   rw [xA S hk (by omega) k h (XP _)]
theorem G2 {l:List aj}(ok:C3 l){out:List Int}{i j:Nat}(h1:(nd l i).args.length=(nd l j).args.length)(e:key out (nd l i) i=key out (nd l j) j):gt out i=gt out j∧∀k,k<(nd l i).args.length→gt out (gt (nd l i).args k).toNat=gt out (gt (nd l j).args k).toNat:=by
 unfold key at e
 have e1:=List.cons.inj e
 refine⟨by omega,fun k hk=>?_⟩
 have e2:=e1.2
 rw [h1] at e2
 have e3:=List.append_cancel_right e2
 have e4:=congrArg (fun z=>z[k]?) e3
 simp only [YB] at e4
 rw [eF hk,eF (by omega)] at e4
 simp only [XR,XM] at e4
 omega
theorem G3 {l:List aj}(ok:C3 l)(out:List Int)(many:Nat)(ks:List (List Int))(next:List Int)(P:Part l.length out many)(I:IT l out)(K:qJ l out l.length ks)(hn:next.length=l.length)
  (hg:∀i,i<l.length→gt next i=(ks.idxOf (key out (nd l i) i):Int)):IT l next:=by
 refine⟨fun i j hi hj e=>?_,fun R B i j hR=>?_⟩
 ·rw [hg i hi,hg j hj] at e
  have e:ks.idxOf (key out (nd l i) i)=ks.idxOf (key out (nd l j) j):=by omega
  have m1:=YE ((K.mem _).2 ⟨i,hi,rfl⟩)
  have m2:=YE ((K.mem _).2 ⟨j,hj,rfl⟩)
  have g1:=List.getElem_idxOf m1
  have g2:=List.getElem_idxOf m2
  have g3:key out (nd l i) i=key out (nd l j) j:=by rw [←g1,←g2]; congr 1
  exact I.1 i j hi hj (by have:=(List.cons.inj g3).1; omega)
 ·obtain⟨hi,hj⟩:=B.nY i j hR
  rw [hg i hi,hg j hj]
  have hk:key out (nd l i) i=key out (nd l j) j:=by
   have hl:=(B.top i j hR).len
   unfold key
   rw [I.2 R B i j hR,hl]
   congr 2
   apply YS fun k=>?_
   simp only [YB]
   by_cases h:k<(nd l i).args.length
   ·rw [eF h,eF (by omega)]
    simp only [XR,XM]
    rw [I.2 R B _ _ (B.arg i j hR k h)]
   ·rw [Yc (by omega),Yc (by omega)]
  rw [hk]
theorem LC {l:List aj}{r:List Int}{many:Nat}{ks:List (List Int)}(P:Part l.length r many)(K:qJ l r l.length ks)(Bs:ks.length=many+1){i j:Nat}(hi:i<l.length)(hj:j<l.length)(e:gt r i=gt r j):key r (nd l i) i=key r (nd l j) j:=by
 by_cases hne:key r (nd l i) i=key r (nd l j) j
 ·exact hne
 ·exfalso
  have V9:=(K.mem _).2 ⟨i,hi,rfl⟩
  have Wa:=(K.mem _).2 ⟨j,hj,rfl⟩
  have hn:((List.range (many+1)).map fun v:Nat=>((v:Int)+1)).Nodup:=by
   unfold List.Nodup
   rw [List.pairwise_map]
   exact List.Pairwise.imp (fun h=>by omega) List.nodup_range
  have:=hn.length_le_of_subset (l₂:=(ks.erase (key r (nd l j) j)).map fun k=>k.headD 0) (fun x hx=>by
   obtain⟨v,hv,rfl⟩:=Yo.1 hx
   obtain⟨q,hq,h⟩:=P.TY v (by have:=List.mem_range.1 hv; omega)
   by_cases Hx:key r (nd l q) q=key r (nd l j) j
   ·refine Yo.2 ⟨key r (nd l i) i,(List.mem_erase_of_ne hne).2 V9,?_⟩
    have h1:=(List.cons.inj Hx).1
    simp [key,e]
    omega
   ·exact Yo.2 ⟨_,(List.mem_erase_of_ne Hx).2 ((K.mem _).2 ⟨q,hq,rfl⟩),by simp [key,h]⟩)
  rw [X0,X0,List.length_range,List.length_erase_of_mem Wa] at this
  omega
theorem vI {l:List aj}(hT:∀n∈l,El n){i j:Nat}(hi:i<l.length)(hj:j<l.length)(h:cT (nd l i) (nd l j)=0):Alike (nd l i) (nd l j):=by
 have Ti:=hT _ (kZ (i:=(i:Int)) (by omega) (by omega))
 have Tj:=hT _ (kZ (i:=(j:Int)) (by omega) (by omega))
 have a3:∀{n:aj},El n→n.kind=3→n.int=0:=fun T h=>by rcases T.kind with z | z | z | z | z<;>(have:=z.1; first | omega | exact z.2)
 have a0:∀{n:aj},El n→n.kind≠3→n.args=[]:=fun T h=>by
  rcases T.kind with z | z | z | z | z
  ·exact z.2.2.2
  ·exact z.2.2.2
  ·exact z.2.2
  ·exact absurd z.1 h
  ·exact z.2
 exact zr h (a3 Ti) (a3 Tj) (a0 Ti) (a0 Tj)
theorem kx {m:Nat}(hm:2 ^ 41≤m){t:bc}(h:gf t=true) :
  ∃cls ns,dw.f m t=some ⟨ns,0⟩∧Min t.nodes cls∧Ps cls t.nodes [] (ug cls t.nodes m t.root []) [] ns∧gh cls t.root∈(ug cls t.nodes m t.root []).map (gh cls):=by
 obtain⟨ok,h1,r0,r1,hT⟩:=jm h
 obtain⟨cls,many,ks,ns,e,P,I,K,Bs,Q,hr⟩:=A8 hm ok h1 r0 r1 (IT t.nodes) (fun d out hp hs hg=>Em hp hs hg) (fun out many ks next P I K hn hg=>G3 ok out many ks next P I K hn hg)
 refine⟨cls,ns,e,⟨P.len,fun i j hi hj e=>vI hT hi hj (I.1 i j hi hj e),fun i j hi hj e k hk=>?_,I.2⟩,Q,hr⟩
 have hA:=vI hT hi hj (I.1 i j hi hj e)
 exact (G2 ok hA.len (LC P K Bs hi hj e)).2 k hk
end Go.Proofs.Ytifafejidnjckaa
namespace Go.Proofs.Ytifafejidnjckaa
open Go Go.R
open Go.IntKind (i64 u64 u8 u32)
def gb (l:List Bool)(k:Nat):Bool:=l.getD k false
end Go.Proofs.Ytifafejidnjckaa
