/- Part of the proof: PS4, PS5, PT7, PT8, PT9, PT10, PB1, PR2, PR3, PR4, PR5, PR6, PR9, PT12, PB2, PB4, PB9, PV1. -/
import Derived.Test.YtifafejidnjckaaK11
set_option linter.unusedVariables false
set_option linter.unusedSimpArgs false
set_option maxRecDepth 100000
open Bool renaming and_eq_true → Ud, false_eq_true → Um, or_eq_true → UW, not_true → Vo
open ByteArray renaming mk → UU
open Int renaming toNat_natCast → Un
open List renaming getElem?_eq_some_iff → Uh, getElem?_eq_getElem → Uj, length_append → Uk, drop_eq_getElem_cons → Uo, length_cons → Up, append_assoc → Uq, getElem?_append_left → Ur, getElem?_append_right → Us, mem_of_getElem? → Ut, replicate → Uu, all_eq_true → Uv, getD_eq_getElem?_getD → Uw, length_map → Ux, mem_cons → UA, mem_singleton → UB, map_cons → UC, length_nil → UD, mem_append → UF, map_append → UG, getElem?_eq_none → UJ, cons_append → UM, mem_map → UO, drop_zero → US, all_cons → UZ, mem_append_left → U3, getElem?_map → Vh, idxOf_lt_length_of_mem → Vu, set_append_right → Vz, length_replicate → VA, ext_getElem? → VC, map_nil → VF, map_congr_left → VH
open Nat renaming le_refl → Ue, zero_add → Uy, le_trans → UT, mul_le_mul_right → U1, sub_self → Vm, add_zero → VG
open Option renaming bind_some → Ua, map_some → Ug
open Option.some renaming injEq → Uc, inj → UX
open Prod.mk renaming injEq → Ui
open UInt8 renaming lt_iff_toNat_lt → Vl
namespace Go.Proofs.Ytifafejidnjckaa
open Go Go.R
open Go.IntKind (i64 u64 u8 u32)
section
variable {m:Nat}{cmp:Int→Int→Option Int}{c:Int→Int→Int}
theorem sv {l d:List Int}{a q b M E x:Nat}(h1:a≤x)(h2:x≤M)(h3:x≤q)(h4:q≤E)(h5:E≤b)(h6:E+x=M+q)(hb:b≤l.length)
  (R:Jy l d x (q - x) (E - q)) (O:Ord c l) (F1:a<x→E<b→0≤c (gt l E) (gt l (x - 1))) (F2:x<q→q<E→c (gt l (E - 1)) (gt l x)<0)
  (S1:Sg c l a q) (S2:Sg c l q b) :
  Sg c d a x∧Sg c d x M∧Sg c d M E∧Sg c d E b∧(∀i j,a≤i→i<M→M≤j→j<b→0≤c (gt d j) (gt d i)):=by
 obtain⟨R1,R2,R3,R4⟩:=R
 have g1:∀k,k<x→gt d k=gt l k:=fun k hk=>R4 k (.inl hk)
 have g2:∀k,x≤k→k<M→gt d k=gt l (q+(k - x)):=fun k hk rC=>by
  have:=R2 (k - x) (by omega)
  rw [show x+(k - x)=k by omega,show x+(q - x)+(k - x)=q+(k - x) by omega] at this
  exact this
 have g3:∀k,M≤k→k<E→gt d k=gt l (x+(k - M)):=fun k hk rC=>by
  have:=R3 (k - M) (by omega)
  rw [show x+(E - q)+(k - M)=k by omega] at this
  exact this
 have g4:∀k,E≤k→gt d k=gt l k:=fun k hk=>R4 k (.inr (by omega))
 refine⟨fun i j k1 k2 k3=>?_,fun i j k1 k2 k3=>?_,fun i j k1 k2 k3=>?_,fun i j k1 k2 k3=>?_,fun i j k1 k2 k3 k4=>?_⟩
 ·rw [g1 i (by omega),g1 j (by omega)]; exact S1 _ _ k1 k2 (by omega)
 ·rw [g2 i (by omega) (by omega),g2 j (by omega) (by omega)]; exact S2 _ _ (by omega) (by omega) (by omega)
 ·rw [g3 i (by omega) (by omega),g3 j (by omega) (by omega)]; exact S1 _ _ (by omega) (by omega) (by omega)
 ·rw [g4 i (by omega),g4 j (by omega)]; exact S2 _ _ (by omega) (by omega) (by omega)
 ·by_cases hi:i<x
  ·rw [g1 i hi]
   by_cases hj:j<E
   ·rw [g3 j k3 hj]; exact S1 _ _ k1 (by omega) (by omega)
   ·rw [g4 j (by omega)]
    have f1:=F1 (by omega) (by omega)
    have f2:=S1.le O k1 (show i≤x - 1 by omega) (by omega) (by omega)
    have f3:=S2.le O (show q≤E from h4) (show E≤j by omega) k4 hb
    exact O.tr _ (bN (by omega)) _ (bN (show E<l.length by omega)) _ (bN (by omega)) (O.tr _ (bN (by omega)) _ (bN (show x - 1<l.length by omega)) _ (bN (by omega)) f2 f1) f3
  ·rw [g2 i (by omega) k2]
   by_cases hj:j<E
   ·rw [g3 j k3 hj]
    have f1:=O.Jz _ (bN (show E - 1<l.length by omega)) _ (bN (show x<l.length by omega)) (F2 (by omega) (by omega))
    have f2:=S2.le O (show q≤q+(i - x) by omega) (show q+(i - x)≤E - 1 by omega) (by omega) hb
    have f3:=S1.le O h1 (show x≤x+(j - M) by omega) (by omega) (by omega)
    exact O.tr _ (bN (by omega)) _ (bN (show x<l.length by omega)) _ (bN (by omega)) (O.tr _ (bN (by omega)) _ (bN (show E - 1<l.length by omega)) _ (bN (by omega)) f2 f1) f3
   ·rw [g4 j (by omega)]; exact S2 _ _ (by omega) (by omega) k4
theorem ED {l:List Int}{x i j:Nat}(h:i=0∨j=0):Jy l l x i j:=
 ⟨List.Perm.refl _,fun k hk=>by rw [show i=0 by omega,VG],fun k hk=>by rw [show j=0 by omega,VG],fun _ _=>rfl⟩
theorem I4 {l d:List Int}{x i j a b:Nat}(R:Jy l d x i j)(h1:a≤x)(h2:x+i+j≤b):Mv a b l d:=by
 obtain⟨R1,R2,R3,R4⟩:=R
 refine⟨R1,fun k hk=>R4 k (by omega),fun k k1 k2=>?_⟩
 by_cases g1:k<x∨x+i+j≤k
 ·exact⟨k,k1,k2,R4 k g1⟩
 ·by_cases g2:k<x+j
  ·have:=R2 (k - x) (by omega)
   rw [show x+(k - x)=k by omega] at this
   exact⟨_,by omega,by omega,this⟩
  ·have:=R3 (k - x - j) (by omega)
   rw [show x+j+(k - x - j)=k by omega] at this
   exact⟨_,by omega,by omega,this⟩
theorem oN (hm:2 ^ 41≤m):∀(f:Nat) (l:List Int) (a q b:Nat),b - a<f→a<q→q<b→b≤l.length→l.length<2 ^ 40→Cm cmp c l→
  ∃d,aG.f m f l (a:Int) (q:Int) (b:Int) cmp=some d∧Mv a b l d∧(Ord c l→Sg c l a q→Sg c l q b→Sg c d a b)
 | 0,l,a,q,b,hf,_,_,_,_,_=>absurd hf (by omega)
 | f+1,l,a,q,b,hf,h1,h2,h3,hs,C=>by
  have sG:(2:Nat) ^ 40=1099511627776:=by decide
  have xk:(2:Nat) ^ 41=2199023255552:=by decide
  have OT:(2:Nat) ^ 42=4398046511104:=by decide
  unfold aG.f
  unfold aG.b
  have e1:i64.wrap ((q:Int) - (a:Int))=((q - a:Nat):Int):=by rw [bE (by omega) (by omega)]; omega
  have e2:i64.wrap ((b:Int) - (q:Int))=((b - q:Nat):Int):=by rw [bE (by omega) (by omega)]; omega
  have hM:=xj (a:=a) (b:=b) (by omega)
  rw [e1,e2,hM]
  by_cases OO:q - a=1
  ·obtain⟨x,k1,k2,k3,k4,k5⟩:=yW (m:=m) (a:=a) (by omega) hs C m q b (by omega) (by omega) h3
   obtain⟨d,y,g1,g2,g3⟩:=EB (m:=m) (l:=l) (a:=a) (x:=x) (by omega) (by omega) hs m a l (by omega) (Ue _) (by omega) Mv.refl (fun t=>by rw [if_neg (by omega)]; split<;>simp_all)
   rw [if_pos (by simp; omega),k1,Ua]
   dsimp only
   rw [g1]
   refine⟨d,rfl,g2.wide (Ue _) k3,fun O S1 S2 i j r1 r2 r3=>?_⟩
   have A1:∀t,a≤t→t+1<x→gt d t=gt l (t+1):=fun t w1 w2=>by rw [g3 t,if_pos ⟨w1,w2⟩]
   have A2:∀t,t+1=x→gt d t=gt l a:=fun t w1=>by rw [g3 t,if_neg (by omega),if_pos w1]
   have A3:∀t,x≤t→gt d t=gt l t:=fun t w1=>by rw [g3 t,if_neg (by omega),if_neg (by omega)]
   by_cases i1:i+1<x
   ·rw [A1 i r1 i1]
    by_cases j1:j+1<x
    ·rw [A1 j (by omega) j1]; exact S2 _ _ (by omega) (by omega) (by omega)
    ·have f1:=O.Jz _ (bN (show x - 1<l.length by omega)) _ (bN (show a<l.length by omega)) (k4 (by omega))
     have f2:=S2.le O (show q≤i+1 by omega) (show i+1≤x - 1 by omega) (by omega) h3
     by_cases j2:j+1=x
     ·rw [A2 j j2]
      exact O.tr _ (bN (by omega)) _ (bN (show x - 1<l.length by omega)) _ (bN (by omega)) f2 f1
     ·rw [A3 j (by omega)]; exact S2 _ _ (by omega) (by omega) (by omega)
   ·rw [A3 j (by omega)]
    by_cases i2:i+1=x
    ·rw [A2 i i2]
     have f1:=k5 (by omega)
     have f2:=S2.le O (show q≤x by omega) (show x≤j by omega) r3 h3
     exact O.tr _ (bN (by omega)) _ (bN (show x<l.length by omega)) _ (bN (by omega)) f1 f2
    ·rw [A3 i (by omega)]; exact S2 _ _ (by omega) r2 r3
  rw [if_neg (by simp; omega)]
  by_cases hb1:b - q=1
  ·obtain⟨x,k1,k2,k3,k4,k5⟩:=yX (m:=m) (q:=q) (by omega) hs C m a q (by omega) (by omega) (by omega)
   obtain⟨d,y,g1,g2,g3⟩:=EC (m:=m) (l:=l) (q:=q) (x:=x) (by omega) (by omega) hs m q l (by omega) (by omega) (Ue _) Mv.refl (fun t=>by rw [if_neg (by omega)]; split<;>simp_all)
   rw [if_pos (by simp; omega),k1,Ua]
   dsimp only
   rw [g1]
   refine⟨d,rfl,g2.wide k2 (by omega),fun O S1 S2 i j r1 r2 r3=>?_⟩
   have A1:∀t,x<t→t≤q→gt d t=gt l (t - 1):=fun t w1 w2=>by rw [g3 t,if_pos ⟨w1,w2⟩]
   have A2:gt d x=gt l q:=by rw [g3 x,if_neg (by omega),if_pos rfl]
   have A3:∀t,t<x→gt d t=gt l t:=fun t w1=>by rw [g3 t,if_neg (by omega),if_neg (by omega)]
   by_cases i1:x<i
   ·rw [A1 i i1 (by omega),A1 j (by omega) (by omega)]
    exact S1 _ _ (by omega) (by omega) (by omega)
   ·by_cases i2:i=x
    ·subst i2
     rw [A2,A1 j (by omega) (by omega)]
     have f1:=O.Jz _ (bN (show q<l.length by omega)) _ (bN (show i<l.length by omega)) (k5 (by omega))
     have f2:=S1.le O r1 (show i≤j - 1 by omega) (by omega) (by omega)
     exact O.tr _ (bN (by omega)) _ (bN (show i<l.length by omega)) _ (bN (by omega)) f1 f2
    ·rw [A3 i (by omega)]
     by_cases j1:x<j
     ·rw [A1 j j1 (by omega)]
      exact S1.le O r1 (by omega) (by omega) (by omega)
     ·have f1:=k4 (by omega)
      have f2:=S1.le O r1 (show i≤x - 1 by omega) (by omega) (by omega)
      by_cases j2:j=x
      ·subst j2
       rw [A2]
       exact O.tr _ (bN (by omega)) _ (bN (show j - 1<l.length by omega)) _ (bN (by omega)) f2 f1
      ·rw [A3 j (by omega)]; exact S1 _ _ r1 r2 (by omega)
  rw [if_neg (by simp; omega)]
  refine I3 ?_
  intro z hz
  have Qx:∃s r:Nat,z=((s:Int),(r:Int))∧((q > (a+b) / 2∧s=(a+b) / 2+q - b∧r=(a+b) / 2)∨(q≤(a+b) / 2∧s=a∧r=q)):=by
   rcases hz with⟨hc,rfl⟩| ⟨hc,rfl⟩
   ·refine⟨(a+b) / 2+q - b,(a+b) / 2,?_,.inl ⟨by simp only [decide_eq_true_eq] at hc; omega,rfl,rfl⟩⟩
    simp only [Ui,and_true]
    simp only [decide_eq_true_eq] at hc
    rw [bE (x:=(((a+b) / 2:Nat):Int)+(q:Int)) (by omega) (by omega),bE (by omega) (by omega)]
    omega
   ·refine⟨a,q,rfl,.inr ⟨?_,rfl,rfl⟩⟩
    simp only [decide_eq_false_iff_not] at hc
    omega
  obtain⟨s,r,rfl,Qx⟩:=Qx
  clear hz
  dsimp only
  obtain⟨x,k1,k2,k3,k4,k5⟩:=yY (m:=m) (a:=a) (b:=b) (q:=q) (by omega) hs C m s r (by omega) (by omega) (by omega) (by omega) (by omega)
  rw [k1,Ua]
  dsimp only
  generalize T5:(a+b) / 2=M at *
  obtain⟨E,hE⟩:∃E,E=M+q - x:=⟨_,rfl⟩
  have eE:i64.wrap (i64.wrap ((M:Int)+(q:Int)) - (x:Int))=(E:Int):=by
   rw [bE (x:=(M:Int)+(q:Int)) (by omega) (by omega),bE (by omega) (by omega)]
   omega
  rw [eE]
  rw [←hE] at k4 k5
  have c1:a≤x:=by omega
  have c2:x≤M:=by omega
  have c3:x≤q:=by omega
  have c4:q≤E:=by omega
  have c5:E≤b:=by omega
  have c6:E+x=M+q:=by omega
  have c7:M≤E:=by omega
  have F1:a<x→E<b→0≤c (gt l E) (gt l (x - 1)):=fun _ _=>k4 (by omega)
  have F2:x<q→q<E→c (gt l (E - 1)) (gt l x)<0:=fun _ _=>k5 (by omega)
  refine EA (fun d=>Jy l d x (q - x) (E - q)) (fun u1 u2=>?_) (fun u=>?_) ?_
  ·simp only [decide_eq_true_eq] at u1 u2
   exact Eu hm (by omega) (by omega) (by omega) hs
  ·simp only [decide_eq_true_eq] at u
   exact ED (by omega)
  intro d5 R
  try dsimp only
  have M5:Mv a b l d5:=I4 R c1 (by omega)
  have l5:=M5.length
  refine EA (fun d=>Mv a M d5 d∧(Ord c l→Sg c l a q→Sg c l q b→Sg c d a M)) (fun u1 u2=>?_) (fun u=>?_) ?_
  ·simp only [decide_eq_true_eq] at u1 u2
   obtain⟨d,g1,g2,g3⟩:=oN hm f d5 a x M (by omega) (by omega) (by omega) (by omega) (by omega) (C.perm M5.perm)
   refine⟨d,g1,g2,fun O S1 S2=>?_⟩
   obtain⟨v1,v2,v3,v4,v5⟩:=sv c1 c2 c3 c4 c5 c6 h3 R O F1 F2 S1 S2
   exact g3 (O.perm M5.perm) v1 v2
  ·simp only [decide_eq_true_eq] at u
   refine⟨Mv.refl,fun O S1 S2=>?_⟩
   obtain⟨v1,v2,v3,v4,v5⟩:=sv c1 c2 c3 c4 c5 c6 h3 R O F1 F2 S1 S2
   by_cases ua:a=x
   ·rw [ua]; exact v2
   ·rw [show M=x by omega]; exact v1
  rintro d6 ⟨M6,S6⟩
  try dsimp only
  have l6:=M6.length
  have OU:=M5.trans (M6.wide (Ue _) (by omega))
  have fin:∀d,Mv M b d6 d→(Ord c l→Sg c l a q→Sg c l q b→Sg c d M b)→Mv a b l d∧(Ord c l→Sg c l a q→Sg c l q b→Sg c d a b):=by
   intro d M7 S7
   refine⟨OU.trans (M7.wide (by omega) (Ue _)),fun O S1 S2 i j r1 r2 r3=>?_⟩
   obtain⟨v1,v2,v3,v4,v5⟩:=sv c1 c2 c3 c4 c5 c6 h3 R O F1 F2 S1 S2
   by_cases hj:j<M
   ·rw [M7.out i (by omega),M7.out j (by omega)]
    exact S6 O S1 S2 _ _ r1 r2 hj
   ·by_cases hi:M≤i
    ·exact S7 O S1 S2 _ _ hi r2 r3
    ·obtain⟨j',y1,y2,y3⟩:=M7.im j (by omega) r3
     obtain⟨i',w1,w2,w3⟩:=M6.im i r1 (by omega)
     rw [M7.out i (by omega),y3,M6.out j' (by omega),w3]
     exact v5 _ _ w1 w2 y1 y2
  refine OR (fun u1 u2=>?_) (fun u=>?_)
  ·simp only [decide_eq_true_eq] at u1 u2
   obtain⟨d,g1,g2,g3⟩:=oN hm f d6 M E b (by omega) (by omega) (by omega) (by omega) (by omega) (C.perm OU.perm)
   refine⟨d,g1,fin d g2 fun O S1 S2=>?_⟩
   obtain⟨v1,v2,v3,v4,v5⟩:=sv c1 c2 c3 c4 c5 c6 h3 R O F1 F2 S1 S2
   refine g3 (O.perm OU.perm) (fun i j y1 y2 y3=>?_) (fun i j y1 y2 y3=>?_)
   ·rw [M6.out i (by omega),M6.out j (by omega)]; exact v3 _ _ y1 y2 y3
   ·rw [M6.out i (by omega),M6.out j (by omega)]; exact v4 _ _ y1 y2 y3
  ·simp only [decide_eq_true_eq] at u
   refine fin d6 Mv.refl fun O S1 S2 i j y1 y2 y3=>?_
   obtain⟨v1,v2,v3,v4,v5⟩:=sv c1 c2 c3 c4 c5 c6 h3 R O F1 F2 S1 S2
   rw [M6.out i (by omega),M6.out j (by omega)]
   by_cases ue:M=E
   ·exact v4 _ _ (by omega) y2 y3
   ·exact v3 _ _ y1 y2 (by omega)
end
end Go.Proofs.Ytifafejidnjckaa
namespace Go.Proofs.Ytifafejidnjckaa
open Go Go.R
open Go.IntKind (i64 u64 u8 u32)
section
variable {m:Nat}{cmp:Int→Int→Option Int}{c:Int→Int→Int}
def Le (c:Int→Int→Int)(d:List Int)(bs n:Nat):Prop:=∀k i j,k*bs≤i→i<j→j<k*bs+bs→j<n→0≤c (gt d j) (gt d i)
theorem EE (hm:2 ^ 41≤m){n:Nat}{l:List Int}(hn:n=l.length)(hs:l.length<2 ^ 40)(C:Cm cmp c l):∀(f t:Nat) (d:List Int),n - 20*t<f→20*t≤n→Mv 0 (20*t) l d→
  (Ord c l→∀k,k<t→Sg c d (20*k) (20*k+20))→
  ∃d' t' y,bM.l0 m (n:Int) cmp f d ((20*t:Nat):Int) ((20*t+20:Nat):Int)=some (d',((20*t':Nat):Int),y)∧20*t'≤n∧n<20*t'+20∧Mv 0 (20*t') l d'∧(Ord c l→∀k,k<t'→Sg c d' (20*k) (20*k+20))
 | 0,t,d,hf,_,_,_=>absurd hf (by omega)
 | f+1,t,d,hf,h1,M,S=>by
  have sG:(2:Nat) ^ 40=1099511627776:=by decide
  have xk:(2:Nat) ^ 41=2199023255552:=by decide
  have hl:=M.length
  unfold bM.l0
  by_cases h:20*t+20≤n
  ·obtain⟨d1,e1,M1,S1⟩:=xm (a:=20*t) (b:=20*t+20) (cmp:=cmp) (c:=c) hm (l:=d) (by omega) (by omega) (by omega) (C.perm M.perm)
   rw [if_pos (by simp only [decide_eq_true_eq]; omega),e1,Ua,bE (x:=((20*t+20:Nat):Int)+20) (by omega) (by omega)]
   have:=EE hm hn hs C f (t+1) d1 (by omega) (by omega) ((M.wide (Ue _) (by omega)).trans (M1.wide (by omega) (by omega))) (fun O k hk i j k1 k2 k3=>by
    by_cases Fw:k=t
    ·subst Fw; exact S1 (O.perm M.perm) _ _ k1 k2 k3
    ·rw [M1.out i (by omega),M1.out j (by omega)]; exact S O k (by omega) _ _ k1 k2 k3)
   rw [show ((20*(t+1):Nat):Int)=((20*t+20:Nat):Int) by omega,show ((20*(t+1)+20:Nat):Int)=((20*t+20:Nat):Int)+20 by omega] at this
   exact this
  ·exact⟨d,t,_,by rw [if_neg (by simp only [decide_eq_true_eq]; omega)],h1,by omega,M,S⟩
theorem EF (hm:2 ^ 41≤m){n bs:Nat}{l:List Int}(hn:n=l.length)(hs:l.length<2 ^ 40)(hb:0<bs)(C6:bs<n)(C:Cm cmp c l)(B:Ord c l→Le c l bs n):∀(f t:Nat) (d:List Int),n - t*(2*bs)<f→t*(2*bs)≤n→Mv 0 (t*(2*bs)) l d→
  (Ord c l→∀k,k<t→Sg c d (k*(2*bs)) (k*(2*bs)+2*bs))→
  ∃d' t' y,bM.l2 m (n:Int) cmp (bs:Int) f d ((t*(2*bs):Nat):Int) ((t*(2*bs)+2*bs:Nat):Int)=some (d',((t'*(2*bs):Nat):Int),y)∧t'*(2*bs)≤n∧n<t'*(2*bs)+2*bs∧Mv 0 (t'*(2*bs)) l d'∧(Ord c l→∀k,k<t'→Sg c d' (k*(2*bs)) (k*(2*bs)+2*bs))
 | 0,t,d,hf,_,_,_=>absurd hf (by omega)
 | f+1,t,d,hf,h1,M,S=>by
  have sG:(2:Nat) ^ 40=1099511627776:=by decide
  have xk:(2:Nat) ^ 41=2199023255552:=by decide
  have hl:=M.length
  unfold bM.l2
  have ht:(t+1)*(2*bs)=t*(2*bs)+2*bs:=Nat.succ_mul _ _
  have q1:(2*t)*bs=t*(2*bs):=by rw [Nat.mul_assoc,Nat.mul_left_comm]
  have q2:(2*t+1)*bs=t*(2*bs)+bs:=by rw [Nat.succ_mul,q1]
  by_cases h:t*(2*bs)+2*bs≤n
  ·have S0:Ord c l→Sg c d (t*(2*bs)) (t*(2*bs)+bs):=fun O i j k1 k2 k3=>by
    rw [M.out i (by omega),M.out j (by omega)]; exact B O (2*t) i j (by omega) k2 (by omega) (by omega)
   have SJ:Ord c l→Sg c d (t*(2*bs)+bs) (t*(2*bs)+2*bs):=fun O i j k1 k2 k3=>by
    rw [M.out i (by omega),M.out j (by omega)]; exact B O (2*t+1) i j (by omega) k2 (by omega) (by omega)
   have hk:∀k,k<t→k*(2*bs)+2*bs≤t*(2*bs):=fun k hk=>by
    rw [←Nat.succ_mul]; exact U1 _ hk
   generalize hA:t*(2*bs)=A at *
   obtain⟨d1,e1,M1,S1⟩:=oN (cmp:=cmp) (c:=c) hm m d A (A+bs) (A+2*bs) (by omega) (by omega) (by omega) (by omega) (by omega) (C.perm M.perm)
   have e0:i64.wrap ((A:Int)+(bs:Int))=((A+bs:Nat):Int):=by rw [bE (by omega) (by omega)]; omega
   have e2:i64.wrap ((2:Int)*(bs:Int))=((2*bs:Nat):Int):=by rw [bE (by omega) (by omega)]; omega
   have e3:i64.wrap (((A+2*bs:Nat):Int)+((2*bs:Nat):Int))=((A+2*bs+2*bs:Nat):Int):=by rw [bE (by omega) (by omega)]; omega
   rw [if_pos (by simp only [decide_eq_true_eq]; omega),e0,e1,Ua,e2,e3]
   have:=EF hm hn hs hb C6 C B f (t+1) d1 (by omega) (by omega) (by rw [ht]; exact (M.wide (Ue _) (by omega)).trans (M1.wide (by omega) (by omega))) (fun O k rC i j k1 k2 k3=>by
    by_cases Fw:k=t
    ·subst Fw; rw [hA] at k1 k3; exact S1 (O.perm M.perm) (S0 O) (SJ O) _ _ k1 k2 k3
    ·have:=hk k (by omega)
     rw [M1.out i (by omega),M1.out j (by omega)]; exact S O k (by omega) _ _ k1 k2 k3)
   rw [ht] at this
   exact this
  ·exact⟨d,t,_,by rw [if_neg (by simp only [decide_eq_true_eq]; omega)],h1,by omega,M,S⟩
theorem yZ (hm:2 ^ 41≤m){n:Nat}:∀(f bs:Nat) (l:List Int),n=l.length→l.length<2 ^ 40→Cm cmp c l→n - bs<f→0<bs→bs<2 ^ 42→(Ord c l→Le c l bs n)→
  ∃d y,bM.l1 m (n:Int) cmp f l (bs:Int)=some (d,y)∧d.Perm l∧(Ord c l→Sg c d 0 n)
 | 0,bs,l,_,_,_,hf,_,_,_=>absurd hf (by omega)
 | f+1,bs,l,hn,hs,C,hf,hb,hb2,B=>by
  have sG:(2:Nat) ^ 40=1099511627776:=by decide
  have xk:(2:Nat) ^ 41=2199023255552:=by decide
  have OT:(2:Nat) ^ 42=4398046511104:=by decide
  unfold bM.l1
  by_cases h:bs<n
  ·have e2:i64.wrap ((2:Int)*(bs:Int))=((2*bs:Nat):Int):=by rw [bE (by omega) (by omega)]; omega
   have e3:i64.wrap ((bs:Int)*(2:Int))=((2*bs:Nat):Int):=by rw [bE (by omega) (by omega)]; omega
   obtain⟨d1,t,y,k1,k2,k3,M1,S1⟩:=EF (cmp:=cmp) (c:=c) hm hn hs hb h C B m 0 l (by omega) (by omega) Mv.refl (fun O k hk=>absurd hk (by omega))
   have l1:=M1.length
   simp only [Nat.zero_mul,Uy] at k1
   have k1:bM.l2 m (n:Int) cmp (bs:Int) m l (0:Int) ((2*bs:Nat):Int)=_:=k1
   rw [if_pos (by simp only [decide_eq_true_eq]; omega),e2,k1,Ua]
   dsimp only
   rw [e3]
   have q1:(2*t)*bs=t*(2*bs):=by rw [Nat.mul_assoc,Nat.mul_left_comm]
   have q2:(2*t+1)*bs=t*(2*bs)+bs:=by rw [Nat.succ_mul,q1]
   have hk:∀k,k<t→k*(2*bs)+2*bs≤t*(2*bs):=fun k hk=>by
    rw [←Nat.succ_mul]; exact U1 _ hk
   have rC:∀k,t<k→t*(2*bs)+2*bs≤k*(2*bs):=fun k hk=>by
    rw [←Nat.succ_mul]; exact U1 _ hk
   have e0:i64.wrap (((t*(2*bs):Nat):Int)+(bs:Int))=((t*(2*bs)+bs:Nat):Int):=by rw [bE (by omega) (by omega)]; omega
   rw [e0]
   by_cases h2:t*(2*bs)+bs<n
   ·obtain⟨d2,e4,M2,S2⟩:=oN (cmp:=cmp) (c:=c) hm m d1 (t*(2*bs)) (t*(2*bs)+bs) n (by omega) (by omega) (by omega) (by omega) (by omega) (C.perm M1.perm)
    rw [if_pos (by simp only [decide_eq_true_eq]; omega),e4,Ua]
    have P2:=M2.perm.trans M1.perm
    obtain⟨d,y,g1,g2,g3⟩:=yZ (n:=n) hm f (2*bs) d2 (by have:=P2.length_eq; omega) (by have:=P2.length_eq; omega) (C.perm P2) (by omega) (by omega) (by omega) (fun O k i j w1 w2 w3 w4=>by
     have O:=O.perm P2.symm
     by_cases u1:k<t
     ·have:=hk k u1
      rw [M2.out i (by omega),M2.out j (by omega)]; exact S1 O k u1 _ _ w1 w2 w3
     ·by_cases u2:k=t
      ·subst u2
       refine S2 (O.perm M1.perm) (fun i j x1 x2 x3=>?_) (fun i j x1 x2 x3=>?_) _ _ w1 w2 w4
       ·rw [M1.out i (by omega),M1.out j (by omega)]; exact B O (2*k) i j (by omega) x2 (by omega) (by omega)
       ·rw [M1.out i (by omega),M1.out j (by omega)]; exact B O (2*k+1) i j (by omega) x2 (by omega) (by omega)
      ·have:=rC k (by omega); omega)
    exact⟨d,y,g1,g2.trans P2,fun O=>g3 (O.perm P2)⟩
   ·rw [if_neg (by simp only [decide_eq_true_eq]; omega)]
    have P2:=M1.perm
    obtain⟨d,y,g1,g2,g3⟩:=yZ (n:=n) hm f (2*bs) d1 (by have:=P2.length_eq; omega) (by have:=P2.length_eq; omega) (C.perm P2) (by omega) (by omega) (by omega) (fun O k i j w1 w2 w3 w4=>by
     have O:=O.perm P2.symm
     by_cases u1:k<t
     ·exact S1 O k u1 _ _ w1 w2 w3
     ·by_cases u2:k=t
      ·subst u2
       rw [M1.out i (by omega),M1.out j (by omega)]; exact B O (2*k) i j (by omega) w2 (by omega) (by omega)
      ·have:=rC k (by omega); omega)
    exact⟨d,y,g1,g2.trans P2,fun O=>g3 (O.perm P2)⟩
  ·refine⟨l,bs,by rw [if_neg (by simp only [decide_eq_true_eq]; omega)],List.Perm.refl _,fun O i j w1 w2 w3=>B O 0 i j (by omega) w2 (by omega) w3⟩
theorem Cd (hm:2 ^ 41≤m){l:List Int}(hs:l.length<2 ^ 40)(C:Cm cmp c l):∃d,eS.f m l cmp=some d∧d.Perm l∧(Ord c l→Sg c d 0 l.length):=by
 have sG:(2:Nat) ^ 40=1099511627776:=by decide
 have xk:(2:Nat) ^ 41=2199023255552:=by decide
 have OT:(2:Nat) ^ 42=4398046511104:=by decide
 unfold eS.f bM.f
 obtain⟨d1,t,y,k1,k2,k3,M1,S1⟩:=EE (cmp:=cmp) (c:=c) hm rfl hs C m 0 l (by omega) (by omega) Mv.refl (fun O k hk=>absurd hk (by omega))
 have k1:bM.l0 m (l.length:Int) cmp m l (0:Int) (20:Int)=_:=k1
 have l1:=M1.length
 rw [k1,Ua]
 dsimp only
 obtain⟨d2,e2,M2,S2⟩:=xm (a:=20*t) (b:=l.length) (cmp:=cmp) (c:=c) hm (l:=d1) (by omega) (by omega) (by omega) (C.perm M1.perm)
 rw [e2,Ua]
 have P2:=M2.perm.trans M1.perm
 obtain⟨d,y,g1,g2,g3⟩:=yZ (cmp:=cmp) (c:=c) (n:=l.length) hm m 20 d2 P2.length_eq.symm (by rw [P2.length_eq]; exact hs) (C.perm P2) (by omega) (by omega) (by omega) (fun O k i j w1 w2 w3 w4=>by
  have O:=O.perm P2.symm
  by_cases u1:k<t
  ·rw [M2.out i (by omega),M2.out j (by omega)]; exact S1 O k u1 _ _ (by omega) w2 (by omega)
  ·exact S2 (O.perm M1.perm) _ _ (by omega) w2 (by omega))
 have g1:bM.l1 m (l.length:Int) cmp m d2 (20:Int)=_:=g1
 rw [g1]
 exact⟨d,rfl,g2.trans P2,fun O=>g3 (O.perm P2)⟩
end
end Go.Proofs.Ytifafejidnjckaa
namespace Go.Proofs.Ytifafejidnjckaa
open Go Go.R
open Go.IntKind (i64 u64 u8 u32)
def ke (t:bu):Bool:=decide (1≤t.nodes.length)&&decide (t.nodes.length≤8000)&&decide (0≤t.root)&&decide (t.root<t.nodes.length)&&t.nodes.all fun n=>oM n t.nodes.length
theorem y4 {m:Nat}(hm:2 ^ 30≤m)(t:bu):gB.f m t=some (ke t):=by
 have I5:(2:Nat) ^ 30=1073741824:=by decide
 have sG:(2:Nat) ^ 40=1099511627776:=by decide
 unfold gB.f ke
 by_cases h1:1≤t.nodes.length
 ·rw [if_pos (by simp only [decide_eq_true_eq]; omega),decide_eq_true h1]
  by_cases h2:t.nodes.length≤8000
  ·rw [if_pos (by simp only [decide_eq_true_eq]; omega),decide_eq_true h2]
   by_cases h3:0≤t.root
   ·rw [if_pos (by simp only [decide_eq_true_eq]; omega),decide_eq_true h3]
    by_cases h4:t.root<t.nodes.length
    ·rw [if_pos (by simp only [decide_eq_true_eq]; omega),decide_eq_true h4]
     rw [Cb (g:=fun n=>!(oM n t.nodes.length)) (by omega) (by omega) (fun n _=>by unfold fJ.f; rw [Cc (by omega)]; rfl),Ua]
     simp [List.not_any_eq_all_not]
    ·rw [if_neg (by simp only [decide_eq_true_eq]; omega),decide_eq_false h4]; rfl
   ·rw [if_neg (by simp only [decide_eq_true_eq]; omega),decide_eq_false h3]; rfl
  ·rw [if_neg (by simp only [decide_eq_true_eq]; omega),decide_eq_false h2]; rfl
 ·rw [if_neg (by simp only [decide_eq_true_eq]; omega),decide_eq_false h1]; rfl
def cI (x y:Int):Int:=if x<y then -1 else if y<x then 1 else 0
def cS (x y:ByteArray):Int:=if Op.bytesLess x.data.toList y.data.toList=true then -1 else if (!Dq x y)=true then 1 else 0
def Ce (x y:Int):Int:=if x=0 then y else x
def cT (a b:ao):Int:=if a.kind=b.kind then (if a.kind=3 then Ce (cI a.args.length b.args.length) (cS a.label b.label) else Ce (cS a.label b.label) (cI a.int b.int)) else cI a.kind b.kind
theorem vq {m:Nat}(x y:Int):cC.f m x y=some (cI x y):=by
 unfold cC.f cmp_isNaN_int.f cI
 simp only [beq_self_eq_true,Vo,Ua,Um,if_false]
 by_cases h:x<y
 ·rw [if_pos (by simpa using h),if_pos h]
 ·rw [if_neg (by simpa using h),if_neg h]
  by_cases h2:y<x
  ·rw [if_pos (by simpa using h2),if_pos h2]
  ·rw [if_neg (by simpa using h2),if_neg h2]
theorem AZ {m:Nat}(x y:ByteArray):b7.f m x y=some (cS x y):=by
 unfold b7.f cmp_isNaN_string.f cS
 simp only [beq_self_eq_true,Vo,Ua,Um,if_false]
 split
 ·rfl
 ·split
  ·rfl
  ·rfl
theorem xn {m:Nat}(hm:3≤m)(x y:Int):bY.f m [x,y]=some (Ce x y):=by
 obtain⟨k,rfl⟩:∃k,m=k+3:=⟨m - 3,by omega⟩
 unfold bY.f Ce
 have e1:i64.wrap ((0:Int)+1)=1:=by decide
 have e2:i64.wrap ((1:Int)+1)=2:=by decide
 have a0:ix [x,y] 0=some x:=rfl
 have a1:ix [x,y] 1=some y:=rfl
 unfold bY.l0
 rw [if_pos (by simp),a0,Ua]
 by_cases h:x=0
 ·subst h
  rw [if_neg (by simp),e1,if_pos rfl]
  unfold bY.l0
  rw [if_pos (by simp),a1,Ua]
  by_cases h2:y=0
  ·subst h2
   rw [if_neg (by simp),e2]
   unfold bY.l0
   rw [if_neg (by simp)]; rfl
  ·rw [if_pos (by simpa using h2)]; rfl
 ·rw [if_pos (by simpa using h),if_neg h]; rfl
theorem A0 {m:Nat}(hm:3≤m)(a b:ao):dc.f m a b=some (cT a b):=by
 unfold dc.f cT
 by_cases h:a.kind=b.kind
 ·rw [if_neg (by simp [h]),if_pos h]
  by_cases h3:a.kind=3
  ·rw [if_pos (by simpa using h3),if_pos h3,vq,AZ,Ua,Ua,xn hm]; rfl
  ·rw [if_neg (by simpa using h3),if_neg h3,vq,AZ,Ua,Ua,xn hm]; rfl
 ·rw [if_pos (by simpa using h),if_neg h,vq]; rfl
def nd (l:List ao)(i:Int):ao:=l.getD i.toNat ⟨0,0,⟨#[]⟩,[]⟩
theorem sw {l:List ao}{i:Int}(h0:0≤i)(h1:i<l.length):ix l i=some (nd l i):=by
 unfold ix nd
 have h:i.toNat<l.length:=by omega
 rw [if_pos h0,Uw,Uj h]; rfl
theorem kg {l:List ao}{i:Int}(h0:0≤i)(h1:i<l.length):nd l i∈l:=by
 have:=sw h0 h1
 unfold ix at this
 rw [if_pos h0] at this
 exact Ut this
theorem EG {m:Nat}(hm:3≤m){l:List ao}{i j:Int}(h0:0≤i)(h1:i<l.length)(h2:0≤j)(h3:j<l.length):dG.f m i j l=some (cT (nd l i) (nd l j)):=by
 unfold dG.f
 rw [sw h0 h1,sw h2 h3,Ua,Ua,A0 hm]; rfl
end Go.Proofs.Ytifafejidnjckaa
namespace Go.Proofs.Ytifafejidnjckaa
open Go Go.R
open Go.IntKind (i64 u64 u8 u32)
def key (out:List Int)(n:ao)(i:Nat):List Int:=(gt out i+1)::((n.args.map fun a=>gt out a.toNat+1)++Uu (8 - n.args.length) 0)
def enum:List (List Int)→Nat→List (List Int × Int)
 | [],_=>[]
 | k::ks,s=>(k,(s:Int))::enum ks (s+1)
theorem mz:∀(ks:List (List Int)) (s:Nat),(enum ks s).length=ks.length
 | [],_=>rfl
 | k::ks,s=>by simp [enum,mz ks]
theorem sy:∀(ks:List (List Int)) (s:Nat) (k:List Int),rS (enum ks s) k=if k∈ks then (((s+ks.idxOf k:Nat):Int),true) else (0,false)
 | [],s,k=>rfl
 | a::ks,s,k=>by
  simp only [enum,rS,sy ks (s+1) k,UA,List.idxOf_cons]
  by_cases h:k=a
  ·subst h; simp
  ·have h':(a==k)=false:=by simpa using fun z:a=k=>h z.symm
   rw [if_neg h,h']
   by_cases h2:k∈ks
   ·simp only [h2,if_true,or_true,cond_false]
    simp only [Ui,and_true]
    omega
   ·simp [h2,h]
theorem xo:∀(ks:List (List Int)) (s:Nat) (k:List Int),k∉ks→yu (enum ks s) k ((s+ks.length:Nat):Int)=enum (ks++[k]) s
 | [],s,k,_=>rfl
 | a::ks,s,k,h=>by
  have h1:k≠a:=fun z=>h (by simp [z])
  have h2:k∉ks:=fun z=>h (by simp [z])
  simp only [enum,yu,UM,if_neg h1,Up]
  rw [show s+(ks.length+1)=s+1+ks.length by omega,xo ks (s+1) k h2]
theorem mP {n:Nat}:∀(ks:List (List Int)) (s:Nat) (k:List Int),k.length=n→(∀a∈ks,a.length=n)→rR n (enum ks s) k=true
 | [],s,k,h,_=>by simp [rR,enum,h]
 | a::ks,s,k,h,h2=>by
  have:=mP ks (s+1) k h fun a ha=>h2 a (by simp [ha])
  simp only [rR,Ud,beq_iff_eq,h,true_and] at this ⊢
  simp only [enum,UZ,Ud,beq_iff_eq]
  exact⟨h2 a (by simp),this⟩
structure Part (n:Nat)(out:List Int)(many:Nat):Prop where
 len:out.length=n
 A4:∀i,i<n→0≤gt out i∧gt out i≤many
 Qy:∀v:Nat,v≤many→∃i,i<n∧gt out i=v
structure pA (l:List ao)(out:List Int)(p:Nat)(ks:List (List Int)):Prop where
 Gq:ks.Nodup
 mem:∀k,k∈ks↔∃i,i<p∧key out (nd l i) i=k
def A5 (l:List ao):Prop:=l.length≤8000∧∀n∈l,n.args.length≤8∧∀a∈n.args,0≤a∧a<l.length
theorem Gr {a:Int}{L:List Int}{t:Nat}{v:Int}(hL:L.length=t)(ht:t<8):(a::(L++Uu (8 - t) 0)).set (t+1) v=a::((L++[v])++Uu (8 - (t+1)) 0):=by
 rw [List.set_cons_succ,Vz _ _ (by omega),hL,Vm,show 8 - t=(8 - (t+1))+1 by omega,List.replicate_succ,List.set_cons_zero,Uq]
 rfl
theorem EH {m:Nat}{out:List Int}{n:ao}(h8:n.args.length≤8)(ha:∀a∈n.args,0≤a∧a<out.length)(ho:∀i,i<out.length→0≤gt out i∧gt out i<2 ^ 40)(o:Int):∀(f t:Nat),n.args.length - t<f→t≤n.args.length→
  ∃x,ax.l4 m out n f (o::(((n.args.take t).map fun a=>gt out a.toNat+1)++Uu (8 - t) 0)) (t:Int)=some (o::((n.args.map fun a=>gt out a.toNat+1)++Uu (8 - n.args.length) 0),x)
 | 0,t,hf,_=>absurd hf (by omega)
 | f+1,t,hf,ht=>by
  have sG:(2:Nat) ^ 40=1099511627776:=by decide
  have i40:(2:Int) ^ 40=1099511627776:=by decide
  unfold ax.l4
  by_cases h:t<n.args.length
  ·have hx:ix n.args (t:Int)=some (gt n.args t):=fo h
   obtain⟨b0,b1⟩:=ha _ (bN h)
   obtain⟨c0,c1⟩:=ho (gt n.args t).toNat (by omega)
   have hy:ix out (gt n.args t)=some (gt out (gt n.args t).toNat):=yT (by omega) (by omega)
   have e1:i64.wrap ((t:Int)+1)=((t+1:Nat):Int):=by rw [bE (by omega) (by omega)]; omega
   have hT:((n.args.take t).map fun a=>gt out a.toNat+1).length=t:=by simp; omega
   have hz:∃z,ix (o::(((n.args.take t).map fun a=>gt out a.toNat+1)++Uu (8 - t) 0)) ((t+1:Nat):Int)=some z:=⟨_,fo (by simp; omega)⟩
   obtain⟨z,hz⟩:=hz
   obtain⟨x,ih⟩:=EH (m:=m) h8 ha ho o f (t+1) (by omega) (by omega)
   have hT1:n.args.take (t+1)=n.args.take t++[gt n.args t]:=by rw [List.take_add_one,dZ h]; rfl
   rw [hT1,UG] at ih
   rw [if_pos (by simp only [decide_eq_true_eq]; omega),hx,Ua,hy,Ua,e1,hz,Ua,Un,bE (x:=gt out (gt n.args t).toNat+1) (by omega) (by omega),Gr hT (by omega)]
   exact⟨x,ih⟩
  ·have:t=n.args.length:=by omega
   subst this
   exact⟨_,by rw [if_neg (by simp),List.take_length]⟩
theorem sA {out:List Int}{n:ao}{i:Nat}(h8:n.args.length≤8):(key out n i).length=9:=by simp [key]; omega
theorem Hg {l:List ao}(ok:A5 l){i:Nat}(h:i<l.length):(nd l i).args.length≤8∧∀a∈(nd l i).args,0≤a∧a<l.length:=ok.2 _ (kg (by omega) (by omega))
theorem y5 {m:Nat}(hm:2 ^ 30≤m){l:List ao}{out:List Int}{many:Nat}(ok:A5 l)(P:Part l.length out many)(Hh:many<2 ^ 30):∀(f p:Nat) (ks:List (List Int)) (next:List Int),l.length - p<f→p≤l.length→pA l out p ks→next.length=l.length→
  (∀i,i<p→gt next i=(ks.idxOf (key out (nd l i) i):Int))→
  ∃OV next' x,ax.l3 m l out f (enum ks 0) next (p:Int)=some (enum OV 0,next',x)∧pA l out l.length OV∧next'.length=l.length∧∀i,i<l.length→gt next' i=(OV.idxOf (key out (nd l i) i):Int)
 | 0,p,ks,next,hf,_,_,_,_=>absurd hf (by omega)
 | f+1,p,ks,next,hf,hp,K,hn,hg=>by
  have I5:(2:Nat) ^ 30=1073741824:=by decide
  have sG:(2:Nat) ^ 40=1099511627776:=by decide
  have i40:(2:Int) ^ 40=1099511627776:=by decide
  have h8000:=ok.1
  have Fv:=P.len
  unfold ax.l3
  by_cases h:p<l.length
  ·obtain⟨n1,n2⟩:=Hg ok h
   obtain⟨r0,r1⟩:=P.A4 p h
   have e1:i64.wrap ((p:Int)+1)=((p+1:Nat):Int):=by rw [bE (by omega) (by omega)]; omega
   obtain⟨x,hk⟩:=EH (m:=m) (out:=out) (n:=nd l p) n1 (by rw [Fv]; exact n2) (fun i hi=>by have:=P.A4 i (by omega); omega) (gt out p+1) m 0 (by omega) (by omega)
   have hk:ax.l4 m out (nd l p) m [gt out p+1,0,0,0,0,0,0,0,0] 0=some (key out (nd l p) p,x):=hk
   have LV:=sA (out:=out) (i:=p) n1
   have zp:∀a∈ks,a.length=9:=fun a ha=>by
    obtain⟨i,hi,rfl⟩:=(K.mem a).1 ha
    exact sA (Hg ok (by omega)).1
   have OW:∃z,ix next (p:Int)=some z:=⟨_,fo (by omega)⟩
   obtain⟨z,hz⟩:=OW
   rw [if_pos (by simp only [decide_eq_true_eq]; omega),sw (by omega) (by omega),Ua,fo (by omega),Ua,bE (x:=gt out p+1) (by omega) (by omega),hk,Ua]
   dsimp only
   have hG:FR 9 (enum ks 0) (key out (nd l p) p)=some (if key out (nd l p) p∈ks then (((ks.idxOf (key out (nd l p) p):Nat):Int),true) else (0,false)):=by
    unfold FR; rw [if_pos (mP _ _ _ LV zp),sy,Uy]
   rw [hG,Ua,e1,hz]
   by_cases hin:key out (nd l p) p∈ks
   ·rw [if_pos hin,if_neg (by simp),Ua,Ua,Un]
    refine y5 hm ok P Hh f (p+1) ks _ (by omega) (by omega) ⟨K.Gq,fun k=>⟨fun hk=>?_,fun ⟨i,hi,rC⟩=>?_⟩⟩ (by simpa using hn) (fun i hi=>?_)
    ·obtain⟨i,hi,h⟩:=(K.mem k).1 hk; exact⟨i,by omega,h⟩
    ·by_cases Gs:i=p
     ·subst Gs; rw [←rC]; exact hin
     ·exact (K.mem k).2 ⟨i,by omega,rC⟩
    ·rw [pz (by omega)]
     by_cases Gs:i=p
     ·subst Gs; rw [if_pos rfl]
     ·rw [if_neg Gs]; exact hg i (by omega)
   ·have hS:Kl 9 (enum ks 0) (key out (nd l p) p) (((enum ks 0).length:Nat):Int)=some (enum (ks++[key out (nd l p) p]) 0):=by
     unfold Kl; rw [if_pos (mP _ _ _ LV zp),mz]
     have:=xo ks 0 _ hin
     rw [Uy] at this
     rw [this]
    have hid:(ks++[key out (nd l p) p]).idxOf (key out (nd l p) p)=ks.length:=by
     rw [List.idxOf_append,if_neg hin,List.idxOf_cons_self,Uy]
    have SK:FR 9 (enum (ks++[key out (nd l p) p]) 0) (key out (nd l p) p)=some (((ks.length:Nat):Int),true):=by
     unfold FR
     rw [if_pos (mP _ _ _ LV (fun a ha=>by rcases UF.1 ha with ha | ha; exact zp a ha; simp only [UB] at ha; rw [ha]; exact LV)),sy,if_pos (by simp),Uy,hid]
    rw [if_neg hin,if_pos (by simp),hS,Ua,SK,Ua,Ua,Un]
    refine y5 hm ok P Hh f (p+1) (ks++[key out (nd l p) p]) _ (by omega) (by omega) ⟨?_,fun k=>⟨fun hk=>?_,fun ⟨i,hi,rC⟩=>?_⟩⟩ (by simpa using hn) (fun i hi=>?_)
    ·rw [List.nodup_append]
     refine⟨K.Gq,by simp,fun a ha b hb=>?_⟩
     simp only [UB] at hb
     subst hb; intro e; subst e; exact hin ha
    ·rcases UF.1 hk with hk | hk
     ·obtain⟨i,hi,h⟩:=(K.mem k).1 hk; exact⟨i,by omega,h⟩
     ·simp only [UB] at hk; exact⟨p,by omega,hk.symm⟩
    ·by_cases Gs:i=p
     ·subst Gs; rw [←rC]; simp
     ·exact U3 _ ((K.mem k).2 ⟨i,by omega,rC⟩)
    ·rw [pz (by omega)]
     by_cases Gs:i=p
     ·subst Gs; rw [if_pos rfl,hid]
     ·rw [if_neg Gs,List.idxOf_append,if_pos ((K.mem _).2 ⟨i,by omega,rfl⟩)]; exact hg i (by omega)
  ·have:p=l.length:=by omega
   subst this
   exact⟨ks,next,_,by rw [if_neg (by simp)],K,hn,hg⟩
theorem Gt {l:List ao}{out:List Int}{ks:List (List Int)}(K:pA l out l.length ks):ks.length≤l.length:=by
 have:=K.Gq.length_le_of_subset (l₂:=(List.range l.length).map fun i:Nat=>key out (nd l i) i) (fun k hk=>by
  obtain⟨i,hi,h⟩:=(K.mem k).1 hk
  exact UO.2 ⟨i,List.mem_range.2 hi,h⟩)
 simpa using this
theorem A6 {l:List ao}{out:List Int}{many:Nat}{ks:List (List Int)}(P:Part l.length out many)(K:pA l out l.length ks):many+1≤ks.length:=by
 have hn:((List.range (many+1)).map fun v:Nat=>((v:Int)+1)).Nodup:=by
  unfold List.Nodup
  rw [List.pairwise_map]
  exact List.Pairwise.imp (fun h=>by omega) List.nodup_range
 have:=hn.length_le_of_subset (l₂:=ks.map fun k=>k.headD 0) (fun x hx=>by
  obtain⟨v,hv,rfl⟩:=UO.1 hx
  obtain⟨i,hi,h⟩:=P.Qy v (by have:=List.mem_range.1 hv; omega)
  exact UO.2 ⟨_,(K.mem _).2 ⟨i,hi,rfl⟩,by simp [key,h]⟩)
 simpa using this
theorem Cf {l:List ao}{out next:List Int}{many:Nat}{ks:List (List Int)}(P:Part l.length out many)(K:pA l out l.length ks)(hn:next.length=l.length)(hg:∀i,i<l.length→gt next i=(ks.idxOf (key out (nd l i) i):Int)):Part l.length next (ks.length - 1):=by
 have:=A6 P K
 refine⟨hn,fun i hi=>?_,fun v hv=>?_⟩
 ·have:=Vu ((K.mem _).2 ⟨i,hi,rfl⟩)
  rw [hg i hi]; omega
 ·have hv:v<ks.length:=by omega
  obtain⟨i,hi,h⟩:=(K.mem _).1 (List.getElem_mem hv)
  refine⟨i,hi,?_⟩
  rw [hg i hi,h,K.Gq.idxOf_getElem]
theorem EI {m:Nat}(hm:2 ^ 30≤m){l:List ao}(ok:A5 l)(Inv:List Int→Prop)
  (hI:∀out many ks next,Part l.length out many→Inv out→pA l out l.length ks→next.length=l.length→(∀i,i<l.length→gt next i=(ks.idxOf (key out (nd l i) i):Int))→Inv next):∀(f:Nat) (out:List Int) (many:Nat),l.length - many<f→many<l.length→Part l.length out many→Inv out→
  ∃r Hi ks,ax.l2 m l f out (many:Int)=some (.inl r)∧Part l.length r Hi∧Inv r∧pA l r l.length ks∧ks.length=Hi+1
 | 0,out,many,hf,_,_,_=>absurd hf (by omega)
 | f+1,out,many,hf,hlt,P,I=>by
  have I5:(2:Nat) ^ 30=1073741824:=by decide
  have h8000:=ok.1
  unfold ax.l2
  have e0:Cv 8 (l.length:Int) (0:Int)=some (Uu l.length 0):=by unfold Cv; rw [if_pos ⟨by omega,by rw [Un]; omega⟩,Un]
  obtain⟨ks,next,x,h1,K,hn,hg⟩:=y5 hm ok P (by omega) m 0 [] (Uu l.length 0) (by omega) (by omega) ⟨by simp,fun k=>⟨fun h=>by simp at h,fun ⟨i,hi,_⟩=>absurd hi (by omega)⟩⟩ (by simp) (fun i hi=>absurd hi (by omega))
  have h1:ax.l3 m l out m [] (Uu l.length 0) 0=_:=h1
  have g1:=Gt K
  have g2:=A6 P K
  rw [e0,Ua,h1,Ua]
  dsimp only
  rw [mz,bE (x:=(many:Int)+1) (by omega) (by omega),bE (x:=(ks.length:Int) - 1) (by omega) (by omega)]
  by_cases h:ks.length=many+1
  ·rw [if_pos (by simp; omega)]
   exact⟨out,many,ks,rfl,P,I,K,h⟩
  ·rw [if_neg (by simp; omega),show (ks.length:Int) - 1=((ks.length - 1:Nat):Int) by omega]
   exact EI hm ok Inv hI f next (ks.length - 1) (by omega) (by omega) (Cf P K hn hg) (hI _ _ _ _ P I K hn hg)
end Go.Proofs.Ytifafejidnjckaa
namespace Go.Proofs.Ytifafejidnjckaa
open Go Go.R
open Go.IntKind (i64 u64 u8 u32)
def ints (n:Nat):List Int:=(List.range n).map fun k:Nat=>(k:Int)
theorem eT (n:Nat):(ints n).length=n:=by simp [ints]
theorem Gu {n k:Nat}(h:k<n):gt (ints n) k=k:=by
 have h1:=dZ (l:=ints n) (k:=k) (by rw [eT]; exact h)
 have h2:(ints n)[k]? = some (k:Int):=by
  unfold ints
  rw [Vh,Uj (by simpa using h)]
  simp
 rw [h2] at h1; exact (UX h1).symm
theorem jF {n:Nat}{x:Int}:x∈ints n↔0≤x∧x<n:=by
 unfold ints
 rw [UO]
 constructor
 ·rintro⟨k,hk,rfl⟩; have:=List.mem_range.1 hk; omega
 ·intro h; exact⟨x.toNat,List.mem_range.2 (by omega),by omega⟩
theorem y6 (n:Nat):(ints n).Nodup:=by
 unfold ints List.Nodup
 rw [List.pairwise_map]
 exact List.Pairwise.imp (fun h=>by omega) List.nodup_range
theorem I6 {l:List Int}(h:l.Nodup){i j:Nat}(hi:i<l.length)(hj:j<l.length)(e:gt l i=gt l j):i=j:=by
 have h1:=dZ hi
 have h2:=dZ hj
 rw [Uj hi] at h1
 rw [Uj hj] at h2
 have h1:=UX h1
 have h2:=UX h2
 exact (List.getElem_inj (h₀:=hi) (h₁:=hj) h).1 (by rw [h1,h2,e])
theorem tT {l:List Int}{x:Int}(h:x∈l):∃k,k<l.length∧gt l k=x:=by
 obtain⟨k,hk,e⟩:=List.getElem_of_mem h
 refine⟨k,hk,?_⟩
 have h1:=dZ hk
 rw [Uj hk,e] at h1
 exact (UX h1).symm
theorem EJ {m:Nat}{z:List Int}(hz:z.length<2 ^ 40):∀(f i:Nat) (d:List Int),z.length - i<f→i≤z.length→d.length=z.length→(∀k,k<i→gt d k=k)→
  ∃x,ax.l0 m z f d (i:Int)=some (ints z.length,x)
 | 0,i,d,hf,_,_,_=>absurd hf (by omega)
 | f+1,i,d,hf,hi,hd,hg=>by
  have sG:(2:Nat) ^ 40=1099511627776:=by decide
  unfold ax.l0
  by_cases h:i<z.length
  ·obtain⟨v,hv⟩:∃v,ix d (i:Int)=some v:=⟨_,fo (by omega)⟩
   rw [if_pos (by simp only [decide_eq_true_eq]; omega),hv,Ua,Un,bE (by omega) (by omega),show (i:Int)+1=((i+1:Nat):Int) by omega]
   refine EJ hz f (i+1) _ (by omega) (by omega) (by simpa using hd) fun k hk=>?_
   rw [pz (by omega)]
   by_cases e:k=i
   ·subst e; rw [if_pos rfl]
   ·rw [if_neg e]; exact hg k (by omega)
  ·refine⟨i,?_⟩
   rw [if_neg (by simp only [decide_eq_true_eq]; omega)]
   have:d=ints z.length:=I2 (by rw [eT,hd]) fun k hk=>by rw [hg k (by omega),Gu (by omega)]
   rw [this]
def rk (l:List ao)(d:List Int):Nat→Nat
 | 0=>0
 | k+1=>rk l d k+if cT (nd l (gt d k)) (nd l (gt d (k+1)))=0 then 0 else 1
theorem EK (l:List ao)(d:List Int):∀k,rk l d k≤k
 | 0=>Ue _
 | k+1=>by have:=EK l d k; unfold rk; split<;>omega
theorem vt (l:List ao)(d:List Int)(i:Nat):∀j,i≤j→rk l d i≤rk l d j
 | 0,h=>by
   have:i=0:=by omega
   subst this; exact Ue _
 | j+1,h=>by
  by_cases e:i=j+1
  ·subst e; exact Ue _
  ·have:=vt l d i j (by omega)
   show _≤rk l d j+_
   omega
theorem EL (l:List ao)(d:List Int):∀(j v:Nat),v≤rk l d j→∃k,k≤j∧rk l d k=v
 | 0,v,h=>⟨0,Ue _,by unfold rk at h ⊢; omega⟩
 | j+1,v,h=>by
  by_cases e:v=rk l d (j+1)
  ·exact⟨j+1,Ue _,e.symm⟩
  ·have h2:rk l d (j+1)≤rk l d j+1:=by show rk l d j+_≤_; split<;>omega
   obtain⟨k,hk,e⟩:=EL l d j v (by omega)
   exact⟨k,by omega,e⟩
theorem EM {m:Nat}(hm:3≤m){l:List ao}{o d:List Int}(hl:l.length≤8000)(ho:o.length=l.length)(hp:d.Perm (ints l.length)):∀(f p:Nat) (out:List Int),l.length - p<f→p≤l.length→out.length=l.length→(∀k,k<p→gt out (gt d k).toNat=rk l d k)→
  ∃I7 x,ax.l1 m l o d f out ((rk l d (p - 1):Nat):Int) (p:Int)=some (I7,((rk l d (l.length - 1):Nat):Int),x)∧I7.length=l.length∧∀k,k<l.length→gt I7 (gt d k).toNat=rk l d k
 | 0,p,out,hf,_,_,_=>absurd hf (by omega)
 | f+1,p,out,hf,zh,Lf,hg=>by
  have OP:d.length=l.length:=by rw [hp.length_eq,eT]
  have hd:∀k,k<l.length→0≤gt d k∧gt d k<l.length:=fun k hk=>jF.1 (hp.mem_iff.1 (bN (by omega)))
  have Hj:d.Nodup:=hp.symm.nodup (y6 _)
  unfold ax.l1
  by_cases h:p<l.length
  ·obtain⟨d0,d1⟩:=hd p h
   have CU:∀k,k<p+1→gt (out.set (gt d p).toNat ((rk l d p:Nat):Int)) (gt d k).toNat=rk l d k:=fun k hk=>by
    rw [pz (by omega)]
    by_cases e:k=p
    ·subst e; rw [if_pos rfl]
    ·have:gt d k≠gt d p:=fun h=>e (I6 Hj (by omega) (by omega) h)
     have:=hd k (by omega)
     rw [if_neg (by omega)]; exact hg k (by omega)
   obtain⟨z,hz⟩:∃z,ix out (gt d p)=some z:=⟨_,yT (k:=(gt d p).toNat) (by omega) (by omega)⟩
   have e1:i64.wrap ((p:Int)+1)=((p+1:Nat):Int):=by rw [bE (by omega) (by omega)]; omega
   have hr:=EK l d p
   have IH:=EM hm hl ho hp f (p+1) (out.set (gt d p).toNat ((rk l d p:Nat):Int)) (by omega) (by omega) (by simpa using Lf) CU
   rw [show p+1 - 1=p by omega] at IH
   rw [if_pos (by simp only [decide_eq_true_eq]; omega),fo (by omega),Ua]
   by_cases h0:0<p
   ·obtain⟨q,rfl⟩:∃q,p=q+1:=⟨p - 1,by omega⟩
    obtain⟨q0,q1⟩:=hd q (by omega)
    rw [show q+1 - 1=q by omega]
    have e2:i64.wrap (((q+1:Nat):Int) - 1)=(q:Int):=by rw [bE (by omega) (by omega)]; omega
    rw [if_pos (by simp only [decide_eq_true_eq]; omega),e2,fo (by omega),Ua,sw q0 q1,Ua,sw d0 d1,Ua,A0 hm,Ua,hz,e1]
    by_cases hc:cT (nd l (gt d q)) (nd l (gt d (q+1)))=0
    ·have OX:rk l d (q+1)=rk l d q:=by show rk l d q+_=_; rw [if_pos hc]; omega
     rw [if_neg (by simp [hc]),Ua]
     rw [OX] at IH; exact IH
    ·have OX:rk l d (q+1)=rk l d q+1:=by show rk l d q+_=_; rw [if_neg hc]
     rw [if_pos (by simpa using hc),Ua,bE (by omega) (by omega)]
     rw [OX] at IH; exact IH
   ·have:p=0:=by omega
    subst this
    rw [if_neg (by simp),hz,Ua,e1]
    exact IH
  ·have:p=l.length:=by omega
   subst this
   exact⟨out,_,by rw [if_neg (by simp only [decide_eq_true_eq]; omega)],Lf,hg⟩
theorem Gv {m:Nat}(hm:3≤m)(l:List ao):Cm (fun y0 y1=>dG.f m y0 y1 l) (fun x y=>cT (nd l x) (nd l y)) (ints l.length):=fun x hx y hy=>by
 have hx:=jF.1 hx
 have hy:=jF.1 hy
 exact EG hm hx.1 hx.2 hy.1 hy.2
theorem vu {m:Nat}(hm:2 ^ 41≤m){l:List ao}(ok:A5 l)(h1:1≤l.length)(Inv:List Int→Prop)
  (hI0:∀d out,d.Perm (ints l.length)→(Ord (fun x y=>cT (nd l x) (nd l y)) (ints l.length)→Sg (fun x y=>cT (nd l x) (nd l y)) d 0 l.length)→(∀k,k<l.length→gt out (gt d k).toNat=rk l d k)→Inv out)
  (hI:∀out many ks next,Part l.length out many→Inv out→pA l out l.length ks→next.length=l.length→(∀i,i<l.length→gt next i=(ks.idxOf (key out (nd l i) i):Int))→Inv next) :
  ∃r many ks,ax.f m l=some r∧Part l.length r many∧Inv r∧pA l r l.length ks∧ks.length=many+1:=by
 have sG:(2:Nat) ^ 40=1099511627776:=by decide
 have xk:(2:Nat) ^ 41=2199023255552:=by decide
 have I5:(2:Nat) ^ 30=1073741824:=by decide
 have h8000:=ok.1
 have e0:Cv 8 (l.length:Int) (0:Int)=some (Uu l.length 0):=by unfold Cv; rw [if_pos ⟨by omega,by rw [Un]; omega⟩,Un]
 unfold ax.f
 obtain⟨x,k1⟩:=EJ (m:=m) (z:=Uu l.length 0) (by simp; omega) m 0 (Uu l.length 0) (by simp; omega) (by omega) rfl (fun k hk=>absurd hk (by omega))
 have k1:ax.l0 m (Uu l.length 0) m (Uu l.length 0) 0=_:=k1
 rw [VA] at k1
 rw [e0,Ua,k1,Ua]
 dsimp only
 obtain⟨d,k2,hp,hs⟩:=Cd hm (l:=ints l.length) (by rw [eT]; omega) (Gv (m:=m) (by omega) l)
 rw [k2,Ua,Ua]
 obtain⟨out,x,k3,ho,hg⟩:=EM (m:=m) (l:=l) (o:=ints l.length) (d:=d) (by omega) h8000 (eT _) hp m 0 (Uu l.length 0) (by omega) (by omega) (by simp) (fun k hk=>absurd hk (by omega))
 have k3:ax.l1 m l (ints l.length) d m (Uu l.length 0) 0 0=_:=k3
 rw [k3,Ua]
 dsimp only
 rw [eT] at hs
 have OP:d.length=l.length:=by rw [hp.length_eq,eT]
 have hP:Part l.length out (rk l d (l.length - 1)):=by
  refine⟨ho,fun i hi=>?_,fun v hv=>?_⟩
  ·obtain⟨k,hk,e⟩:=tT (hp.mem_iff.2 (jF.2 (show 0≤(i:Int)∧(i:Int)<l.length by omega)))
   have:=hg k (by omega)
   rw [e,Un] at this
   have h2:=vt l d k (l.length - 1) (by omega)
   omega
  ·obtain⟨k,hk,e⟩:=EL l d _ v hv
   have Ma:k<l.length:=by omega
   have:=jF.1 (hp.mem_iff.1 (bN (l:=d) (k:=k) (by omega)))
   exact⟨(gt d k).toNat,by omega,by rw [hg k Ma,e]⟩
 have Pl:=EK l d (l.length - 1)
 obtain⟨r,many,ks,k4,P,I,K,zp⟩:=EI (m:=m) (by omega) ok Inv hI m out (rk l d (l.length - 1)) (by omega) (by omega) hP (hI0 d out hp hs hg)
 rw [k4]
 exact⟨r,many,ks,rfl,P,I,K,zp⟩
end Go.Proofs.Ytifafejidnjckaa
namespace Go.Proofs.Ytifafejidnjckaa
open Go Go.R
open Go.IntKind (i64 u64 u8 u32)
def kI:List Int→Nat→List (Int × Int)
 | [],_=>[]
 | k::ks,s=>(k,(s:Int))::kI ks (s+1)
theorem tU:∀(ks:List Int) (s:Nat) (k:Int),wK (kI ks s) k=if k∈ks then (((s+ks.idxOf k:Nat):Int),true) else (0,false)
 | [],s,k=>rfl
 | a::ks,s,k=>by
  simp only [kI,wK,tU ks (s+1) k,UA,List.idxOf_cons]
  by_cases h:k=a
  ·subst h; simp
  ·have h':(a==k)=false:=by simpa using fun z:a=k=>h z.symm
   rw [if_neg h,h']
   by_cases h2:k∈ks
   ·simp only [h2,if_true,or_true,cond_false]
    simp only [Ui,and_true]
    omega
   ·simp [h2,h]
theorem tV:∀(ks:List Int) (s:Nat) (k:Int),k∉ks→BK (kI ks s) k ((s+ks.length:Nat):Int)=kI (ks++[k]) s
 | [],s,k,_=>rfl
 | a::ks,s,k,h=>by
  have h1:k≠a:=fun z=>h (by simp [z])
  have h2:k∉ks:=fun z=>h (by simp [z])
  simp only [kI,BK,UM,if_neg h1,Up]
  rw [show s+(ks.length+1)=s+1+ks.length by omega,tV ks (s+1) k h2]
def ia (cls:List Int)(a:Int):Int:=gt cls a.toNat
def idx (cls o:List Int)(a:Int):Int:=((o.map (ia cls)).idxOf (ia cls a):Nat)
def xp (cls:List Int)(l:List ao)(o:List Int)(i:Int):ao:=⟨(nd l i).kind,(nd l i).int,(nd l i).label,(nd l i).args.map (idx cls o)⟩
def s7 (cls:List Int)(l:List ao):Nat→Int→List Int→List Int
 | 0,_,o=>o
 | k+1,i,o=>if ia cls i∈o.map (ia cls) then o else (nd l i).args.foldl (fun o a=>s7 cls l k a o) (o++[i])
structure Vs (cls:List Int)(n:Nat)(o:List Int):Prop where
 Gq:(o.map (ia cls)).Nodup
 A4:∀x∈o,0≤x∧x<n
structure Ps (cls:List Int)(l:List ao)(o o':List Int)(ns y7:List ao):Prop where
 vs:Vs cls l.length o'
 pre:∃t,o'=o++t
 len:y7.length=o'.length
 old:∀k,k<o.length→y7[k]? = ns[k]?
 new:∀k,o.length≤k→k<o'.length→y7[k]? = some (xp cls l o' (gt o' k))
 arg:∀k,o.length≤k→k<o'.length→∀a∈(nd l (gt o' k)).args,ia cls a∈o'.map (ia cls)
theorem Vs.JA {cls:List Int}{n:Nat}{o:List Int}(v:Vs cls n o):o.length≤n:=by
 have hn:o.Nodup:=by
  have:=v.Gq
  unfold List.Nodup at this ⊢
  rw [List.pairwise_map] at this
  exact List.Pairwise.imp (fun h e=>h (by rw [e])) this
 have:=hn.length_le_of_subset (l₂:=ints n) (fun x hx=>jF.2 (v.A4 x hx))
 rwa [eT] at this
theorem Ps.refl {cls:List Int}{l:List ao}{o:List Int}{ns:List ao}(v:Vs cls l.length o)(h:ns.length=o.length):Ps cls l o o ns ns:=
 ⟨v,⟨[],by simp⟩,h,fun _ _=>rfl,fun k h1 h2=>by omega,fun k h1 h2=>by omega⟩
theorem pB {a b:List Int}{k:Nat}(h:k<a.length):gt (a++b) k=gt a k:=by
 unfold gt; rw [Uw,Uw,Ur h]
theorem nF {cls o t:List Int}{a:Int}(h:ia cls a∈o.map (ia cls)):idx cls (o++t) a=idx cls o a:=by
 unfold idx; rw [UG,List.idxOf_append,if_pos h]
theorem xq {cls:List Int}{l:List ao}{o t:List Int}{i:Int}(h:∀a∈(nd l i).args,ia cls a∈o.map (ia cls)):xp cls l (o++t) i=xp cls l o i:=by
 unfold xp
 congr 1
 exact VH fun a ha=>nF (h a ha)
theorem Ps.trans {cls:List Int}{l:List ao}{o o1 o2:List Int}{ns n1 n2:List ao}(a:Ps cls l o o1 ns n1)(b:Ps cls l o1 o2 n1 n2):Ps cls l o o2 ns n2:=by
 obtain⟨t1,rfl⟩:=a.pre
 obtain⟨t2,rfl⟩:=b.pre
 have hl:(o++t1).length=o.length+t1.length:=by simp
 refine⟨b.vs,⟨t1++t2,by simp⟩,b.len,fun k hk=>(b.old k (by omega)).trans (a.old k hk),fun k h1 h2=>?_,fun k h1 h2 x hx=>?_⟩
 ·by_cases h:k<(o++t1).length
  ·rw [b.old k h,a.new k h1 h,pB h,xq (a.arg k h1 h)]
  ·exact b.new k (by omega) h2
 ·by_cases h:k<(o++t1).length
  ·rw [pB h] at hx
   rw [UG]
   exact U3 _ (a.arg k h1 h x hx)
  ·exact b.arg k (by omega) h2 x hx
section
variable {m:Nat}{cls:List Int}{l:List ao}{root:Int}
abbrev Lg:=Int→(List (Int × Int))→(List Int)→bu→bu→Option (Int × (List (Int × Int)) × bu)
def Hk (cls:List Int)(l:List ao)(root:Int)(rec:Lg)(df:Int→List Int→List Int)(need:Nat):Prop:=∀(i:Int) (o:List Int) (ns:List ao),0≤i→i<l.length→Vs cls l.length o→ns.length=o.length→l.length<need+o.length→
 ∃y7,rec i (kI (o.map (ia cls)) 0) cls ⟨ns,0⟩ ⟨l,root⟩=some (idx cls (df i o) i,kI ((df i o).map (ia cls)) 0,⟨y7,0⟩)∧Ps cls l o (df i o) ns y7∧ia cls i∈(df i o).map (ia cls)
theorem EN {rec:Lg}{df:Int→List Int→List Int}{need:Nat}(hm:2 ^ 30≤m)(ok:A5 l)(V:Hk cls l root rec df need){v:ao}(h8:v.args.length≤8)(ha:∀a∈v.args,0≤a∧a<l.length){o0:List Int}{Qz:List ao}(Lh:l.length<need+o0.length):∀(f t:Nat) (o:List Int) (ns:List ao),v.args.length - t<f→t≤v.args.length→Ps cls l o0 o Qz ns→(∀a∈v.args.take t,ia cls a∈o.map (ia cls))→
  ∃o' y7 x,o'=(v.args.drop t).foldl (fun o a=>df a o) o∧aW.l0 m cls ⟨l,root⟩ rec v f ((v.args.take t).map (idx cls o)) (t:Int) (kI (o.map (ia cls)) 0) ⟨ns,0⟩=some (v.args.map (idx cls o'),x,kI (o'.map (ia cls)) 0,⟨y7,0⟩)∧Ps cls l o0 o' Qz y7∧∀a∈v.args,ia cls a∈o'.map (ia cls)
 | 0,t,o,ns,hf,_,_,_=>absurd hf (by omega)
 | f+1,t,o,ns,hf,ht,P,hin=>by
  have I5:(2:Nat) ^ 30=1073741824:=by decide
  unfold aW.l0
  by_cases h:t<v.args.length
  ·obtain⟨b0,b1⟩:=ha _ (bN h)
   have T6:o0.length≤o.length:=by obtain⟨s,rfl⟩:=P.pre; simp
   obtain⟨SL,k1,P1,Ly⟩:=V (gt v.args t) o ns b0 b1 P.vs P.len (by omega)
   obtain⟨s,hs⟩:=P1.pre
   have hT1:v.args.take (t+1)=v.args.take t++[gt v.args t]:=by rw [List.take_add_one,dZ h]; rfl
   have hD:v.args.drop t=gt v.args t::v.args.drop (t+1):=by
    obtain⟨h4,h5⟩:=Uh.1 (dZ h)
    rw [←h5]; exact Uo h4
   have OY:∀a∈v.args.take (t+1),ia cls a∈(df (gt v.args t) o).map (ia cls):=fun a ha=>by
    rw [hT1] at ha
    rcases UF.1 ha with ha | ha
    ·rw [hs,UG]; exact U3 _ (hin a ha)
    ·simp only [UB] at ha; subst ha; exact Ly
   obtain⟨o',y7,x,e,k2,P2,h2⟩:=EN hm ok V h8 ha Lh f (t+1) (df (gt v.args t) o) SL (by omega) (by omega) (P.trans P1) OY
   refine⟨o',y7,x,by rw [hD]; exact e,?_,P2,h2⟩
   have e1:i64.wrap ((t:Int)+1)=((t+1:Nat):Int):=by rw [bE (by omega) (by omega)]; omega
   have Jr:app 8 ((v.args.take t).map (idx cls o)) [idx cls (df (gt v.args t) o) (gt v.args t)]=some ((v.args.take (t+1)).map (idx cls (df (gt v.args t) o))):=by
    unfold app
    rw [if_pos (by simp; omega),hT1,UG]
    congr 2
    exact VH fun a ha=>by rw [hs]; exact (nF (hin a ha)).symm
   rw [if_pos (by simp only [decide_eq_true_eq]; omega),fo h,Ua,k1,Ua,Jr,Ua,e1]
   exact k2
  ·have:t=v.args.length:=by omega
   subst this
   rw [List.take_length] at hin ⊢
   exact⟨o,ns,_,by rw [List.drop_length]; rfl,by rw [if_neg (by simp)],P,hin⟩
theorem sB (hm:2 ^ 30≤m)(ok:A5 l)(hc:cls.length=l.length):∀k,Hk cls l root (aW.f m k) (s7 cls l k) k
 | 0=>fun i o ns h0 h1 v hl hn=>absurd v.JA (by omega)
 | k+1=>fun i o ns h0 h1 v hl hn=>by
  have I5:(2:Nat) ^ 30=1073741824:=by decide
  have h8000:=ok.1
  have SM:=v.JA
  show ∃y7,aW.b m (aW.f m k) i (kI (o.map (ia cls)) 0) cls ⟨ns,0⟩ ⟨l,root⟩=_∧_
  unfold aW.b
  have hx:ix cls i=some (ia cls i):=yT (by omega) (by omega)
  rw [hx,Ua,tU,Uy]
  by_cases h:ia cls i∈o.map (ia cls)
  ·have hd:s7 cls l (k+1) i o=o:=by unfold s7; rw [if_pos h]
   rw [hd,if_pos h]
   exact⟨ns,rfl,Ps.refl v hl,h⟩
  ·have hd:s7 cls l (k+1) i o=(nd l i).args.foldl (fun o a=>s7 cls l k a o) (o++[i]):=by
    show (if ia cls i∈o.map (ia cls) then o else (nd l i).args.foldl (fun o a=>s7 cls l k a o) (o++[i]))=_
    rw [if_neg h]
   have v1:Vs cls l.length (o++[i]):=by
    refine⟨?_,fun x hx=>?_⟩
    ·rw [UG,List.nodup_append]
     refine⟨v.Gq,by simp,fun a ha b hb=>?_⟩
     simp only [UC,VF,UB] at hb
     subst hb; intro e; subst e; exact h ha
    ·rcases UF.1 hx with hx | hx
     ·exact v.A4 x hx
     ·simp only [UB] at hx; subst hx; exact⟨h0,h1⟩
   have Li:=v1.JA
   simp only [Uk,Up,UD] at Li
   have Jr:app 56 ns [(⟨(nd l i).kind,(nd l i).int,(nd l i).label,[]⟩:ao)]=some (ns++[⟨(nd l i).kind,(nd l i).int,(nd l i).label,[]⟩]):=by
    unfold app; rw [if_pos (by simp; omega)]
   have J4:BK (kI (o.map (ia cls)) 0) (ia cls i) ((ns.length:Nat):Int)=kI ((o++[i]).map (ia cls)) 0:=by
    have:=tV (o.map (ia cls)) 0 (ia cls i) h
    rw [Uy,Ux,←hl] at this
    rw [this,UG]; rfl
   obtain⟨n1,n2⟩:=ok.2 _ (kg h0 h1)
   have P0:Ps cls l (o++[i]) (o++[i]) (ns++[⟨(nd l i).kind,(nd l i).int,(nd l i).label,[]⟩]) (ns++[⟨(nd l i).kind,(nd l i).int,(nd l i).label,[]⟩]):=Ps.refl v1 (by simp [hl])
   obtain⟨o',y7,x,e,k2,P2,h2⟩:=EN (m:=m) (v:=nd l i) (need:=k) hm ok (sB hm ok hc k) n1 n2 (o0:=o++[i]) (by simp; omega) m 0 (o++[i]) _ (by omega) (by omega) P0 (fun a ha=>by simp at ha)
   rw [US] at e
   rw [List.take_zero,VF] at k2
   have k2:aW.l0 m cls ⟨l,root⟩ (aW.f m k) (nd l i) m [] 0 _ _=_:=k2
   obtain⟨s,hs⟩:=P2.pre
   have Fv:o.length<o'.length:=by rw [hs]; simp
   have Lj:y7[o.length]? = some ⟨(nd l i).kind,(nd l i).int,(nd l i).label,[]⟩:=by
    rw [P2.old _ (by simp),←hl,Us (Ue _),Vm]; rfl
   have OW:ix y7 ((ns.length:Nat):Int)=some ⟨(nd l i).kind,(nd l i).int,(nd l i).label,[]⟩:=by
    unfold ix; rw [if_pos (by omega),Un,hl,Lj]
   have QB:gt o' o.length=i:=by
    rw [hs,pB (by simp)]
    unfold gt; rw [Uw,Us (Ue _),Vm]; rfl
   have OZ:idx cls o' i=(o.length:Nat):=by
    rw [hs,nF (by simp)]
    unfold idx
    rw [UG,List.idxOf_append,if_neg h]; simp
   rw [hd,←e,if_neg h,if_neg (by simp),Ua,sw h0 h1,Ua,Jr,Ua,J4,k2,Ua]
   dsimp only
   rw [OW,Ua,Un,OZ,hl]
   refine⟨_,rfl,⟨P2.vs,⟨[i]++s,by rw [hs]; simp⟩,by simpa using P2.len,fun q hq=>?_,fun q h3 h4=>?_,fun q h3 h4 a ha=>?_⟩,by rw [hs]; simp⟩
   ·rw [List.getElem?_set_ne (by omega),P2.old q (by simp; omega),Ur (by omega)]
   ·by_cases hq:q=o.length
    ·subst hq
     rw [List.getElem?_set_self (by rw [P2.len]; omega),QB]; rfl
    ·rw [List.getElem?_set_ne (by omega)]
     exact P2.new q (by simp; omega) h4
   ·by_cases hq:q=o.length
    ·subst hq; rw [QB] at ha; exact h2 a ha
    ·exact P2.arg q (by simp; omega) h4 a ha
end
theorem y8 {m:Nat}(hm:2 ^ 41≤m){t:bu}(ok:A5 t.nodes)(h1:1≤t.nodes.length)(r0:0≤t.root)(r1:t.root<t.nodes.length)(Inv:List Int→Prop)
  (hI0:∀d out,d.Perm (ints t.nodes.length)→(Ord (fun x y=>cT (nd t.nodes x) (nd t.nodes y)) (ints t.nodes.length)→Sg (fun x y=>cT (nd t.nodes x) (nd t.nodes y)) d 0 t.nodes.length)→(∀k,k<t.nodes.length→gt out (gt d k).toNat=rk t.nodes d k)→Inv out)
  (hI:∀out many ks next,Part t.nodes.length out many→Inv out→pA t.nodes out t.nodes.length ks→next.length=t.nodes.length→(∀i,i<t.nodes.length→gt next i=(ks.idxOf (key out (nd t.nodes i) i):Int))→Inv next) :
  ∃cls many ks ns,eX.f m t=some ⟨ns,0⟩∧Part t.nodes.length cls many∧Inv cls∧pA t.nodes cls t.nodes.length ks∧ks.length=many+1∧Ps cls t.nodes [] (s7 cls t.nodes m t.root []) [] ns∧ia cls t.root∈(s7 cls t.nodes m t.root []).map (ia cls):=by
 have I5:(2:Nat) ^ 30=1073741824:=by decide
 have xk:(2:Nat) ^ 41=2199023255552:=by decide
 have h8000:=ok.1
 obtain⟨cls,many,ks,k1,P,I,K,zp⟩:=vu hm ok h1 Inv hI0 hI
 obtain⟨ns,k2,P2,h2⟩:=sB (m:=m) (root:=t.root) (by omega) ok P.len m t.root [] [] r0 r1 ⟨by simp,fun x hx=>by simp at hx⟩ rfl (by simp; omega)
 refine⟨cls,many,ks,ns,?_,P,I,K,zp,P2,h2⟩
 unfold eX.f
 have k2:aW.f m m t.root [] cls ⟨[],0⟩ t=_:=k2
 rw [k1,Ua,k2]; rfl
end Go.Proofs.Ytifafejidnjckaa
namespace Go.Proofs.Ytifafejidnjckaa
open Go Go.R
open Go.IntKind (i64 u64 u8 u32)
theorem sC:∀(x:List UInt8),Op.bytesLess x x=false
 | []=>rfl
 | a::x=>by simp [Op.bytesLess,sC x]
theorem vw:∀(x y:List UInt8),Op.bytesLess x y=true→Op.bytesLess y x=false
 | _,[],h=>by cases ‹List UInt8›<;>simp [Op.bytesLess] at h
 | [],b::y,_=>rfl
 | a::x,b::y,h=>by
  simp only [Op.bytesLess,UW,Ud,decide_eq_true_eq,beq_iff_eq] at h
  simp only [Op.bytesLess,Bool.or_eq_false_iff,Bool.and_eq_false_iff,decide_eq_false_iff_not,beq_eq_false_iff_ne]
  rcases h with h | ⟨rfl,h⟩
  ·refine⟨fun h2=>?_,.inl fun e=>?_⟩
   ·rw [Vl] at h h2; omega
   ·subst e; rw [Vl] at h; omega
  ·exact⟨by rw [Vl]; omega,.inr (vw x y h)⟩
theorem EO:∀(x y:List UInt8),Op.bytesLess x y=true∨x=y∨Op.bytesLess y x=true
 | [],[]=>.inr (.inl rfl)
 | [],b::y=>.inl rfl
 | a::x,[]=>.inr (.inr rfl)
 | a::x,b::y=>by
  simp only [Op.bytesLess,UW,Ud,decide_eq_true_eq,beq_iff_eq,List.cons.injEq]
  rcases Nat.lt_trichotomy a.toNat b.toNat with h | h | h
  ·exact .inl (.inl (Vl.2 h))
  ·have:a=b:=UInt8.toNat_inj.1 h
   subst this
   rcases EO x y with h1 | h1 | h1
   ·exact .inl (.inr ⟨rfl,h1⟩)
   ·exact .inr (.inl ⟨rfl,h1⟩)
   ·exact .inr (.inr (.inr ⟨rfl,h1⟩))
  ·exact .inr (.inr (.inl (Vl.2 h)))
theorem xr:∀(x y z:List UInt8),Op.bytesLess x y=true→Op.bytesLess y z=true→Op.bytesLess x z=true
 | _,_,[],_,h=>by cases ‹List UInt8›<;>simp [Op.bytesLess] at h
 | _,[],c::z,h,_=>by cases ‹List UInt8›<;>simp [Op.bytesLess] at h
 | [],b::y,c::z,_,_=>rfl
 | a::x,b::y,c::z,h1,h2=>by
  simp only [Op.bytesLess,UW,Ud,decide_eq_true_eq,beq_iff_eq] at h1 h2 ⊢
  rcases h1 with h1 | ⟨rfl,h1⟩
  ·rcases h2 with h2 | ⟨rfl,h2⟩
   ·left; rw [Vl] at *; omega
   ·exact .inl h1
  ·rcases h2 with h2 | ⟨rfl,h2⟩
   ·exact .inl h2
   ·exact .inr ⟨rfl,xr x y z h1 h2⟩
theorem EP {x y:ByteArray}(h:x.data.toList=y.data.toList):x=y:=by
 cases x with | mk a=>cases y with | mk b=>cases a; cases b; simp only at h; subst h; rfl
structure I8 {α:Type}(c:α→α→Int):Prop where
 zero:∀x y,c x y=0→x=y
 refl:∀x,c x x=0
 neg:∀x y,c y x = - c x y
 tr:∀x y z,c x y≤0→c y z≤0→c x z≤0
theorem mA:I8 cI:=by
 refine⟨fun x y h=>?_,fun x=>?_,fun x y=>?_,fun x y z h1 h2=>?_⟩
 ·unfold cI at h; split at h
  ·omega
  ·split at h<;>omega
 ·unfold cI; simp
 ·unfold cI; split<;>split<;>(try split)<;>omega
 ·unfold cI at *
  split at h1<;>split at h2<;>(try split at h1)<;>(try split at h2)<;>(try omega)<;>split<;>(try split)<;>omega
theorem xt (x y:ByteArray):cS x y=if Op.bytesLess x.data.toList y.data.toList=true then -1 else if x=y then 0 else 1:=by
 unfold cS Dq
 cases h:Op.bytesLess x.data.toList y.data.toList with
 | true=>rfl
 | false=>
  simp only [Bool.false_or,Um,if_false]
  by_cases e:x=y
  ·subst e; simp
  ·rw [if_neg e]
   have:(x.data.toList==y.data.toList)=false:=by
    rw [beq_eq_false_iff_ne]; exact fun h=>e (EP h)
   rw [this]; rfl
theorem ER:I8 cS:=by
 refine⟨fun x y h=>?_,fun x=>?_,fun x y=>?_,fun x y z h1 h2=>?_⟩
 ·rw [xt] at h
  split at h
  ·omega
  ·split at h
   ·assumption
   ·omega
 ·rw [xt,sC]; simp
 ·rw [xt,xt]
  rcases EO x.data.toList y.data.toList with h | h | h
  ·have h2:=vw _ _ h
   have hne:¬y=x:=fun e=>by subst e; rw [sC] at h; cases h
   rw [if_pos h,h2]; simp [hne]
  ·have:=EP h
   subst this
   rw [sC]; simp
  ·have h2:=vw _ _ h
   have hne:¬x=y:=fun e=>by subst e; rw [sC] at h; cases h
   rw [if_pos h,h2]; simp [hne]
 ·rw [xt] at h1 h2 ⊢
  split at h1
  ·rename_i g1
   split at h2
   ·rename_i g2
    rw [if_pos (xr _ _ _ g1 g2)]; omega
   ·split at h2
    ·rename_i e; subst e; rw [if_pos g1]; omega
    ·omega
  ·split at h1
   ·rename_i e; subst e
    split at h2
    ·rename_i g2; rw [if_pos g2]; omega
    ·split at h2
     ·rename_i g e; rw [if_neg g,if_pos e]; omega
     ·omega
   ·omega
theorem ES {α β:Type}{c:α→α→Int}{d:β→β→Int}(C:I8 c)(D:I8 d):I8 fun (p q:α × β)=>Ce (c p.1 q.1) (d p.2 q.2):=by
 refine⟨fun x y h=>?_,fun x=>?_,fun x y=>?_,fun x y z h1 h2=>?_⟩
 ·unfold Ce at h
  split at h
  ·rename_i h1; exact Prod.ext (C.zero _ _ h1) (D.zero _ _ h)
  ·exact absurd h ‹_›
 ·unfold Ce; rw [C.refl,if_pos rfl,D.refl]
 ·skip
  unfold Ce
  have:=C.neg x.1 y.1
  by_cases h:c x.1 y.1=0
  ·rw [if_pos h,if_pos (by omega),D.neg]
  ·rw [if_neg h,if_neg (by omega),C.neg]
 ·skip
  unfold Ce at *
  by_cases a:c x.1 y.1=0
  ·rw [if_pos a] at h1
   have e:=C.zero _ _ a
   rw [←e] at h2
   by_cases b:c x.1 z.1=0
   ·rw [if_pos b] at h2 ⊢; exact D.tr _ _ _ h1 h2
   ·rw [if_neg b] at h2 ⊢; exact h2
  ·rw [if_neg a] at h1
   have hz:c x.1 z.1≤0:=by
    by_cases b:c y.1 z.1=0
    ·rw [←C.zero _ _ b]; exact h1
    ·rw [if_neg b] at h2; exact C.tr _ _ _ h1 h2
   have hne:c x.1 z.1≠0:=fun e=>by
    have e1:=C.zero _ _ e
    by_cases b:c y.1 z.1=0
    ·have e2:=C.zero _ _ b; rw [e1,←e2] at a; exact a (C.refl _)
    ·rw [if_neg b,←e1] at h2
     have:=C.neg x.1 y.1; omega
   rw [if_neg hne]; exact hz
theorem A7:I8 fun (p q:Int × ByteArray)=>Ce (cI p.1 q.1) (cS p.2 q.2):=ES mA ER
theorem A8:I8 fun (p q:ByteArray × Int)=>Ce (cS p.1 q.1) (cI p.2 q.2):=ES ER mA
theorem lu {a b:ao}(h:a.kind=b.kind):cT a b=if a.kind=3 then Ce (cI a.args.length b.args.length) (cS a.label b.label) else Ce (cS a.label b.label) (cI a.int b.int):=by unfold cT; rw [if_pos h]
theorem jd {a b:ao}(h:a.kind≠b.kind):cT a b=cI a.kind b.kind:=by unfold cT; rw [if_neg h]
theorem iJ (a b:ao):cT b a = - cT a b:=by
 by_cases h:a.kind=b.kind
 ·rw [lu h,lu h.symm,←h]
  split
  ·exact A7.neg ((a.args.length:Int),a.label) ((b.args.length:Int),b.label)
  ·exact A8.neg (a.label,a.int) (b.label,b.int)
 ·rw [jd h,jd (Ne.symm h)]; exact mA.neg _ _
theorem xu (a b c:ao)(h1:cT a b≤0)(h2:cT b c≤0):cT a c≤0:=by
 by_cases e1:a.kind=b.kind
 ·by_cases e2:b.kind=c.kind
  ·rw [lu e1] at h1
   rw [lu e2,←e1] at h2
   rw [lu (e1.trans e2)]
   split
   ·rename_i h3; rw [if_pos h3] at h1 h2
    exact A7.tr ((a.args.length:Int),a.label) ((b.args.length:Int),b.label) ((c.args.length:Int),c.label) h1 h2
   ·rename_i h3; rw [if_neg h3] at h1 h2
    exact A8.tr (a.label,a.int) (b.label,b.int) (c.label,c.int) h1 h2
  ·rw [jd e2] at h2
   rw [jd (by rw [e1]; exact e2),e1]; exact h2
 ·rw [jd e1] at h1
  by_cases e2:b.kind=c.kind
  ·rw [jd (by rw [←e2]; exact e1),←e2]; exact h1
  ·rw [jd e2] at h2
   have n1:cI a.kind b.kind≠0:=fun h=>e1 (mA.zero _ _ h)
   have n2:cI b.kind c.kind≠0:=fun h=>e2 (mA.zero _ _ h)
   by_cases e3:a.kind=c.kind
   ·rw [←e3] at h2
    have:=mA.neg a.kind b.kind
    omega
   ·rw [jd e3]; exact mA.tr _ _ _ h1 h2
structure Alike (a b:ao):Prop where
 kind:a.kind=b.kind
 int:a.int=b.int
 label:a.label=b.label
 len:a.args.length=b.args.length
theorem Alike.refl (a:ao):Alike a a:=⟨rfl,rfl,rfl,rfl⟩
theorem Alike.cT {a b:ao}(h:Alike a b):cT a b=0:=by
 rw [lu h.kind]
 split
 ·rw [h.len,h.label]; exact A7.refl ((b.args.length:Int),b.label)
 ·rw [h.label,h.int]; exact A8.refl (b.label,b.int)
theorem ET {a b:ao}(h:cT a b=0)(ha:a.kind=3→a.int=0)(hb:b.kind=3→b.int=0)(SN:a.kind≠3→a.args=[])(hb2:b.kind≠3→b.args=[]):Alike a b:=by
 by_cases e:a.kind=b.kind
 ·rw [lu e] at h
  split at h
  ·rename_i h3
   have:=A7.zero ((a.args.length:Int),a.label) ((b.args.length:Int),b.label) h
   simp only [Ui] at this
   exact⟨e,by rw [ha h3,hb (by rw [←e]; exact h3)],this.2,by omega⟩
  ·rename_i h3
   have:=A8.zero (a.label,a.int) (b.label,b.int) h
   simp only [Ui] at this
   exact⟨e,this.2,this.1,by rw [SN h3,hb2 (by rw [←e]; exact h3)]⟩
 ·rw [jd e] at h
  exact absurd (mA.zero _ _ h) e
theorem I9 (l:List ao)(s:List Int):Ord (fun x y=>cT (nd l x) (nd l y)) s:=by
 refine⟨fun x _ y _ z _ h1 h2=>?_,fun x _ y _ h=>?_⟩
 ·skip
  have a1:=iJ (nd l x) (nd l y)
  have a2:=iJ (nd l y) (nd l z)
  have a3:=iJ (nd l x) (nd l z)
  have:=xu (nd l x) (nd l y) (nd l z) (by omega) (by omega)
  omega
 ·skip
  have a1:=iJ (nd l x) (nd l y)
  omega
end Go.Proofs.Ytifafejidnjckaa
namespace Go.Proofs.Ytifafejidnjckaa
open Go Go.R
open Go.IntKind (i64 u64 u8 u32)
end Go.Proofs.Ytifafejidnjckaa
namespace Go.Proofs.Ytifafejidnjckaa
open Go Go.R
open Go.IntKind (i64 u64 u8 u32)
end Go.Proofs.Ytifafejidnjckaa
namespace Go.Proofs.Ytifafejidnjckaa
open Go Go.R
open Go.IntKind (i64 u64 u8 u32)
end Go.Proofs.Ytifafejidnjckaa
namespace Go.Proofs.Ytifafejidnjckaa
open Go Go.R
open Go.IntKind (i64 u64 u8 u32)
end Go.Proofs.Ytifafejidnjckaa
namespace Go.Proofs.Ytifafejidnjckaa
open Go Go.R
open Go.IntKind (i64 u64 u8 u32)
end Go.Proofs.Ytifafejidnjckaa
namespace Go.Proofs.Ytifafejidnjckaa
open Go Go.R
open Go.IntKind (i64 u64 u8 u32)
end Go.Proofs.Ytifafejidnjckaa
namespace Go.Proofs.Ytifafejidnjckaa
open Go Go.R
open Go.IntKind (i64 u64 u8 u32)
theorem EU {s:ByteArray}(h:(s.data.toList==[])=true):s=UU #[]:=by
 have h:=beq_iff_eq.1 h
 cases s with
 | mk d=>
  cases d with
  | mk l=>simp only at h; subst h; rfl
theorem LW {l:List Int}(h:l.isEmpty=true):l=[]:=by cases l with | nil=>rfl | cons=>cases h
structure Lk (n:ao):Prop where
 kind:n.kind=0∧0≤n.int∧n.label=UU #[]∧n.args=[]∨n.kind=1∧(-1099511627776≤n.int∧n.int≤1099511627776)∧n.label=UU #[]∧n.args=[]∨n.kind=2∧n.int=0∧n.args=[]∨n.kind=3∧n.int=0∨n.kind=4∧n.args=[]
 label:n.kind=2∨n.kind=3→1≤n.label.size∧n.label.size≤16
 args:n.args.length≤8
theorem pC {n:ao}{size:Int}(h:oM n size=true):Lk n∧∀a∈n.args,0≤a∧a<size:=by
 unfold oM at h
 split at h
 ·rename_i k
  simp only [Ud,decide_eq_true_eq] at h
  have ha:=LW h.2
  exact⟨⟨.inl ⟨k,h.1.1,EU h.1.2,ha⟩,fun z=>by omega,by rw [ha]; decide⟩,fun a h=>by rw [ha] at h; cases h⟩
 split at h
 ·rename_i k
  simp only [Ud,decide_eq_true_eq] at h
  have ha:=LW h.2
  exact⟨⟨.inr (.inl ⟨k,h.1.1,EU h.1.2,ha⟩),fun z=>by omega,by rw [ha]; decide⟩,fun a h=>by rw [ha] at h; cases h⟩
 split at h
 ·rename_i k
  simp only [Ud,beq_iff_eq] at h
  have ha:=LW h.2
  exact⟨⟨.inr (.inr (.inl ⟨k,h.1.1,ha⟩)),fun z=>tR h.1.2,by rw [ha]; decide⟩,fun a h=>by rw [ha] at h; cases h⟩
 split at h
 ·rename_i k
  simp only [Ud,beq_iff_eq,decide_eq_true_eq,Uv] at h
  exact⟨⟨.inr (.inr (.inr (.inl ⟨k,h.1.1.1.1⟩))),fun z=>tR h.1.1.1.2,h.1.2⟩,h.2⟩
 split at h
 ·rename_i k
  simp only [Ud,decide_eq_true_eq] at h
  have ha:=LW h.2
  exact⟨⟨.inr (.inr (.inr (.inr ⟨k,ha⟩))),fun z=>by omega,by rw [ha]; decide⟩,fun a h=>by rw [ha] at h; cases h⟩
 ·cases h
theorem pD {t:bu}(h:ke t=true):A5 t.nodes∧1≤t.nodes.length∧0≤t.root∧t.root<t.nodes.length∧∀n∈t.nodes,Lk n:=by
 unfold ke at h
 simp only [Ud,decide_eq_true_eq,Uv] at h
 obtain⟨⟨⟨⟨h1,h2⟩,h3⟩,h4⟩,h5⟩:=h
 exact⟨⟨h2,fun n hn=>⟨(pC (h5 n hn)).1.args,(pC (h5 n hn)).2⟩⟩,h1,h3,h4,fun n hn=>(pC (h5 n hn)).1⟩
end Go.Proofs.Ytifafejidnjckaa
namespace Go.Proofs.Ytifafejidnjckaa
open Go Go.R
open Go.IntKind (i64 u64 u8 u32)
structure QC (l:List ao)(R:Nat→Nat→Prop):Prop where
 A4:∀i j,R i j→i<l.length∧j<l.length
 top:∀i j,R i j→Alike (nd l i) (nd l j)
 arg:∀i j,R i j→∀k,k<(nd l i).args.length→R (gt (nd l i).args k).toNat (gt (nd l j).args k).toNat
structure Min (l:List ao)(r:List Int):Prop where
 len:r.length=l.length
 top:∀i j,i<l.length→j<l.length→gt r i=gt r j→Alike (nd l i) (nd l j)
 arg:∀i j,i<l.length→j<l.length→gt r i=gt r j→∀k,k<(nd l i).args.length→gt r (gt (nd l i).args k).toNat=gt r (gt (nd l j).args k).toNat
 max:∀R,QC l R→∀i j,R i j→gt r i=gt r j
theorem qW (a:ao):cT a a=0:=(Alike.refl a).cT
theorem s8 {a b c:ao}(h1:cT a b=0)(h2:cT b c=0):cT a c=0:=by
 have n1:=iJ a b
 have n2:=iJ b c
 have n3:=iJ a c
 have t1:=xu a b c (by omega) (by omega)
 have t2:=xu c b a (by omega) (by omega)
 omega
theorem vz {l:List ao}{d:List Int}{k:Nat}:∀j,k≤j→rk l d k=rk l d j→cT (nd l (gt d k)) (nd l (gt d j))=0
 | 0,h,_=>by
   have:k=0:=by omega
   subst this; exact qW _
 | j+1,h,e=>by
  by_cases hk:k=j+1
  ·subst hk; exact qW _
  ·have m1:=vt l d k j (by omega)
   have e2:rk l d (j+1)=rk l d j+if cT (nd l (gt d j)) (nd l (gt d (j+1)))=0 then 0 else 1:=rfl
   by_cases hc:cT (nd l (gt d j)) (nd l (gt d (j+1)))=0
   ·rw [if_pos hc] at e2
    exact s8 (vz j (by omega) (by omega)) hc
   ·rw [if_neg hc] at e2; omega
theorem vA {l:List ao}{d:List Int}{n:Nat}(S:Sg (fun x y=>cT (nd l x) (nd l y)) d 0 n){k q:Nat}(hq:q<n)(h0:cT (nd l (gt d k)) (nd l (gt d q))=0):∀j,k≤j→j≤q→rk l d j=rk l d k
 | 0,h,_=>by
   have:k=0:=by omega
   subst this; rfl
 | j+1,h,hj=>by
  by_cases hk:k=j+1
  ·subst hk; rfl
  ·have ih:=vA S hq h0 j (by omega) (by omega)
   have SO:cT (nd l (gt d k)) (nd l (gt d j))≤0:=by
    by_cases e:k=j
    ·subst e; rw [qW]; omega
    ·have:0≤cT (nd l (gt d j)) (nd l (gt d k)):=S k j (by omega) (by omega) (by omega)
     have n:=iJ (nd l (gt d k)) (nd l (gt d j))
     omega
   have SP:cT (nd l (gt d (j+1))) (nd l (gt d q))≤0:=by
    by_cases e:j+1=q
    ·subst e; rw [qW]; omega
    ·have:0≤cT (nd l (gt d q)) (nd l (gt d (j+1))):=S (j+1) q (by omega) (by omega) hq
     have n:=iJ (nd l (gt d (j+1))) (nd l (gt d q))
     omega
   have SQ:cT (nd l (gt d q)) (nd l (gt d k))≤0:=by have n:=iJ (nd l (gt d k)) (nd l (gt d q)); omega
   have T7:=xu _ _ _ (xu _ _ _ SP SQ) SO
   have s1:=S j (j+1) (by omega) (by omega) (by omega)
   have n:=iJ (nd l (gt d j)) (nd l (gt d (j+1)))
   have hz:cT (nd l (gt d j)) (nd l (gt d (j+1)))=0:=by
    have s1:0≤cT (nd l (gt d (j+1))) (nd l (gt d j)):=s1
    omega
   show rk l d j+(if cT (nd l (gt d j)) (nd l (gt d (j+1)))=0 then 0 else 1)=_
   rw [if_pos hz,ih]; rfl
def Gw (l:List ao)(out:List Int):Prop:=(∀i j,i<l.length→j<l.length→gt out i=gt out j→cT (nd l i) (nd l j)=0)∧∀R,QC l R→∀i j,R i j→gt out i=gt out j
theorem Cg {l:List ao}{d out:List Int}(hp:d.Perm (ints l.length))(hs:Ord (fun x y=>cT (nd l x) (nd l y)) (ints l.length)→Sg (fun x y=>cT (nd l x) (nd l y)) d 0 l.length)(hg:∀k,k<l.length→gt out (gt d k).toNat=rk l d k):Gw l out:=by
 have S:=hs (I9 _ _)
 have OP:d.length=l.length:=by rw [hp.length_eq,eT]
 have pos:∀i,i<l.length→∃k,k<l.length∧gt d k=i∧gt out i=rk l d k:=fun i hi=>by
  obtain⟨k,hk,e⟩:=tT (hp.mem_iff.2 (jF.2 (show 0≤(i:Int)∧(i:Int)<l.length by omega)))
  have:=hg k (by omega)
  rw [e,Un] at this
  exact⟨k,by omega,e,this⟩
 refine⟨fun i j hi hj e=>?_,fun R B i j hR=>?_⟩
 ·obtain⟨k,hk,ek,O0⟩:=pos i hi
  obtain⟨q,hq,eq,O1⟩:=pos j hj
  rw [O0,O1] at e
  rw [←ek,←eq]
  rcases Nat.le_total k q with h | h
  ·exact vz q h (by omega)
  ·have:=vz (l:=l) (d:=d) k h (by omega)
   have n:=iJ (nd l (gt d k)) (nd l (gt d q))
   omega
 ·obtain⟨hi,hj⟩:=B.A4 i j hR
  obtain⟨k,hk,ek,O0⟩:=pos i hi
  obtain⟨q,hq,eq,O1⟩:=pos j hj
  have h0:=(B.top i j hR).cT
  rw [←ek,←eq] at h0
  rw [O0,O1]
  rcases Nat.le_total k q with h | h
  ·rw [vA S hq h0 q h (Ue _)]
  ·have n:=iJ (nd l (gt d k)) (nd l (gt d q))
   rw [vA S hk (by omega) k h (Ue _)]
theorem EV {l:List ao}(ok:A5 l){out:List Int}{i j:Nat}(h1:(nd l i).args.length=(nd l j).args.length)(e:key out (nd l i) i=key out (nd l j) j):gt out i=gt out j∧∀k,k<(nd l i).args.length→gt out (gt (nd l i).args k).toNat=gt out (gt (nd l j).args k).toNat:=by
 unfold key at e
 have e1:=List.cons.inj e
 refine⟨by omega,fun k hk=>?_⟩
 have e2:=e1.2
 rw [h1] at e2
 have e3:=List.append_cancel_right e2
 have e4:=congrArg (fun z=>z[k]?) e3
 simp only [Vh] at e4
 rw [dZ hk,dZ (by omega)] at e4
 simp only [Ug,Uc] at e4
 omega
theorem EW {l:List ao}(ok:A5 l)(out:List Int)(many:Nat)(ks:List (List Int))(next:List Int)(P:Part l.length out many)(I:Gw l out)(K:pA l out l.length ks)(hn:next.length=l.length)
  (hg:∀i,i<l.length→gt next i=(ks.idxOf (key out (nd l i) i):Int)):Gw l next:=by
 refine⟨fun i j hi hj e=>?_,fun R B i j hR=>?_⟩
 ·rw [hg i hi,hg j hj] at e
  have e:ks.idxOf (key out (nd l i) i)=ks.idxOf (key out (nd l j) j):=by omega
  have m1:=Vu ((K.mem _).2 ⟨i,hi,rfl⟩)
  have m2:=Vu ((K.mem _).2 ⟨j,hj,rfl⟩)
  have g1:=List.getElem_idxOf m1
  have g2:=List.getElem_idxOf m2
  have g3:key out (nd l i) i=key out (nd l j) j:=by rw [←g1,←g2]; congr 1
  exact I.1 i j hi hj (by have:=(List.cons.inj g3).1; omega)
 ·obtain⟨hi,hj⟩:=B.A4 i j hR
  rw [hg i hi,hg j hj]
  have hk:key out (nd l i) i=key out (nd l j) j:=by
   have hl:=(B.top i j hR).len
   unfold key
   rw [I.2 R B i j hR,hl]
   congr 2
   apply VC fun k=>?_
   simp only [Vh]
   by_cases h:k<(nd l i).args.length
   ·rw [dZ h,dZ (by omega)]
    simp only [Ug,Uc]
    rw [I.2 R B _ _ (B.arg i j hR k h)]
   ·rw [UJ (by omega),UJ (by omega)]
  rw [hk]
theorem Ja {l:List ao}{r:List Int}{many:Nat}{ks:List (List Int)}(P:Part l.length r many)(K:pA l r l.length ks)(zp:ks.length=many+1){i j:Nat}(hi:i<l.length)(hj:j<l.length)(e:gt r i=gt r j):key r (nd l i) i=key r (nd l j) j:=by
 by_cases hne:key r (nd l i) i=key r (nd l j) j
 ·exact hne
 ·exfalso
  have SS:=(K.mem _).2 ⟨i,hi,rfl⟩
  have SU:=(K.mem _).2 ⟨j,hj,rfl⟩
  have hn:((List.range (many+1)).map fun v:Nat=>((v:Int)+1)).Nodup:=by
   unfold List.Nodup
   rw [List.pairwise_map]
   exact List.Pairwise.imp (fun h=>by omega) List.nodup_range
  have:=hn.length_le_of_subset (l₂:=(ks.erase (key r (nd l j) j)).map fun k=>k.headD 0) (fun x hx=>by
   obtain⟨v,hv,rfl⟩:=UO.1 hx
   obtain⟨q,hq,h⟩:=P.Qy v (by have:=List.mem_range.1 hv; omega)
   by_cases Ff:key r (nd l q) q=key r (nd l j) j
   ·refine UO.2 ⟨key r (nd l i) i,(List.mem_erase_of_ne hne).2 SS,?_⟩
    have h1:=(List.cons.inj Ff).1
    simp [key,e]
    omega
   ·exact UO.2 ⟨_,(List.mem_erase_of_ne Ff).2 ((K.mem _).2 ⟨q,hq,rfl⟩),by simp [key,h]⟩)
  rw [Ux,Ux,List.length_range,List.length_erase_of_mem SU] at this
  omega
theorem tW {l:List ao}(hT:∀n∈l,Lk n){i j:Nat}(hi:i<l.length)(hj:j<l.length)(h:cT (nd l i) (nd l j)=0):Alike (nd l i) (nd l j):=by
 have Ti:=hT _ (kg (i:=(i:Int)) (by omega) (by omega))
 have Tj:=hT _ (kg (i:=(j:Int)) (by omega) (by omega))
 have a3:∀{n:ao},Lk n→n.kind=3→n.int=0:=fun T h=>by rcases T.kind with z | z | z | z | z<;>(have:=z.1; first | omega | exact z.2)
 have a0:∀{n:ao},Lk n→n.kind≠3→n.args=[]:=fun T h=>by
  rcases T.kind with z | z | z | z | z
  ·exact z.2.2.2
  ·exact z.2.2.2
  ·exact z.2.2
  ·exact absurd z.1 h
  ·exact z.2
 exact ET h (a3 Ti) (a3 Tj) (a0 Ti) (a0 Tj)
theorem y9 {m:Nat}(hm:2 ^ 41≤m){t:bu}(h:ke t=true) :
  ∃cls ns,eX.f m t=some ⟨ns,0⟩∧Min t.nodes cls∧Ps cls t.nodes [] (s7 cls t.nodes m t.root []) [] ns∧ia cls t.root∈(s7 cls t.nodes m t.root []).map (ia cls):=by
 obtain⟨ok,h1,r0,r1,hT⟩:=pD h
 obtain⟨cls,many,ks,ns,e,P,I,K,zp,Q,hr⟩:=y8 hm ok h1 r0 r1 (Gw t.nodes) (fun d out hp hs hg=>Cg hp hs hg) (fun out many ks next P I K hn hg=>EW ok out many ks next P I K hn hg)
 refine⟨cls,ns,e,⟨P.len,fun i j hi hj e=>tW hT hi hj (I.1 i j hi hj e),fun i j hi hj e k hk=>?_,I.2⟩,Q,hr⟩
 have hA:=tW hT hi hj (I.1 i j hi hj e)
 exact (EV ok hA.len (Ja P K zp hi hj e)).2 k hk
end Go.Proofs.Ytifafejidnjckaa
namespace Go.Proofs.Ytifafejidnjckaa
open Go Go.R
open Go.IntKind (i64 u64 u8 u32)
def gb (l:List Bool)(k:Nat):Bool:=l.getD k false
end Go.Proofs.Ytifafejidnjckaa
namespace Go.Proofs.Ytifafejidnjckaa
open Go Go.R
open Go.IntKind (i64 u64 u8 u32)
inductive EX (κ:Int→Int)(A:Int→List Int):List Int→List Int→List Int→Prop
 | nil (o:List Int):EX κ A [] o o
 | skip {v:Int} {st o o':List Int}:κ v∈o.map κ→EX κ A st o o'→EX κ A (v::st) o o'
 | push {v:Int} {st o o':List Int}:κ v∉o.map κ→EX κ A (A v++st) (o++[v]) o'→EX κ A (v::st) o o'
theorem EX.facts {κ:Int→Int}{A:Int→List Int}{n:Nat}{st o o':List Int}(h:EX κ A st o o')(hA:∀v:Int,0≤v→v<n→∀a∈A v,0≤a∧a<n)(hst:∀v∈st,0≤v∧v<n)(ho:∀v∈o,0≤v∧v<n)(Hj:(o.map κ).Nodup) :
  (∃t,o'=o++t)∧(∀v∈o',0≤v∧v<n)∧(o'.map κ).Nodup∧(∀v∈st,κ v∈o'.map κ)∧((∀v∈o,∀a∈A v,κ a∈o.map κ∨a∈st)→∀v∈o',∀a∈A v,κ a∈o'.map κ):=by
 induction h with
 | nil o=>
  refine⟨⟨[],by simp⟩,ho,Hj,?_,?_⟩
  ·intro v hv; cases hv
  ·intro h v hv a ha; exact (h v hv a ha).resolve_right (by simp)
 | @skip v st o o' hm _ ih=>
  obtain⟨⟨t,rfl⟩,a,b,c,d⟩:=ih (fun x hx=>hst x (by simp [hx])) ho Hj
  refine⟨⟨t,rfl⟩,a,b,fun x hx=>?_,fun h=>d fun x hx y hy=>?_⟩
  ·rcases UA.1 hx with rfl | hx
   ·rw [UG]; exact U3 _ hm
   ·exact c x hx
  ·rcases h x hx y hy with h | h
   ·exact .inl h
   ·rcases UA.1 h with rfl | h
    ·exact .inl hm
    ·exact .inr h
 | @push v st o o' hn _ ih=>
  have hv:=hst v (by simp)
  have h1:∀x∈A v++st,0≤x∧x<n:=fun x hx=>by
   rcases UF.1 hx with hx | hx
   ·exact hA v hv.1 hv.2 x hx
   ·exact hst x (by simp [hx])
  have h2:∀x∈o++[v],0≤x∧x<n:=fun x hx=>by
   rcases UF.1 hx with hx | hx
   ·exact ho x hx
   ·rw [UB] at hx; subst hx; exact hv
  have h3:((o++[v]).map κ).Nodup:=by
   rw [UG,List.nodup_append]
   refine⟨Hj,by simp,fun a ha b hb=>?_⟩
   simp only [UC,VF,UB] at hb
   subst hb; intro e; subst e; exact hn ha
  obtain⟨⟨t,rfl⟩,a,b,c,d⟩:=ih h1 h2 h3
  refine⟨⟨[v]++t,by simp⟩,a,b,fun x hx=>?_,fun h=>d fun x hx y hy=>?_⟩
  ·rcases UA.1 hx with rfl | hx
   ·simp
   ·exact c x (by simp [hx])
  ·rcases UF.1 hx with hx | hx
   ·rcases h x hx y hy with h | h
    ·exact .inl (by rw [UG]; exact U3 _ h)
    ·rcases UA.1 h with rfl | h
     ·exact .inl (by simp)
     ·exact .inr (by simp [h])
   ·rw [UB] at hx; subst hx
    exact .inr (U3 _ hy)
theorem xw (cls:List Int)(l:List ao)(k:Nat)(i:Int)(o:List Int):s7 cls l (k+1) i o=if ia cls i∈o.map (ia cls) then o else (nd l i).args.foldl (fun o a=>s7 cls l k a o) (o++[i]):=rfl
theorem EY {cls:List Int}{l:List ao}(ok:A5 l):∀(k:Nat) (i:Int) (o:List Int),0≤i→i<l.length→Vs cls l.length o→Vs cls l.length (s7 cls l k i o)∧o.length≤(s7 cls l k i o).length
 | 0,i,o,_,_,v=>⟨v,Ue _⟩
 | k+1,i,o,h0,h1,v=>by
  rw [xw]
  split
  ·exact⟨v,Ue _⟩
  ·rename_i h
   have v1:Vs cls l.length (o++[i]):=by
    refine⟨?_,fun x hx=>?_⟩
    ·rw [UG,List.nodup_append]
     refine⟨v.Gq,by simp,fun a ha b hb=>?_⟩
     simp only [UC,VF,UB] at hb
     subst hb; intro e; subst e; exact h ha
    ·rcases UF.1 hx with hx | hx
     ·exact v.A4 x hx
     ·simp only [UB] at hx; subst hx; exact⟨h0,h1⟩
   have fold:∀(zs:List Int) (o:List Int),(∀a∈zs,0≤a∧a<l.length)→Vs cls l.length o→Vs cls l.length (zs.foldl (fun o a=>s7 cls l k a o) o)∧o.length≤(zs.foldl (fun o a=>s7 cls l k a o) o).length:=by
    intro zs
    induction zs with
    | nil=>intro o _ v; exact⟨v,Ue _⟩
    | cons a zs ih=>
     intro o ha v
     have hr:=ha a (by simp)
     obtain⟨v2,l2⟩:=EY ok k a o hr.1 hr.2 v
     obtain⟨v3,l3⟩:=ih (s7 cls l k a o) (fun x hx=>ha x (by simp [hx])) v2
     exact⟨v3,UT l2 l3⟩
   obtain⟨v2,l2⟩:=fold (nd l i).args (o++[i]) (ok.2 _ (kg h0 h1)).2 v1
   exact⟨v2,by simp at l2; omega⟩
theorem A9 {cls:List Int}{l:List ao}(ok:A5 l):∀(k:Nat) (i:Int) (o st o':List Int),0≤i→i<l.length→Vs cls l.length o→l.length<k+o.length→
  EX (ia cls) (fun v=>(nd l v).args) st (s7 cls l k i o) o'→EX (ia cls) (fun v=>(nd l v).args) (i::st) o o'
 | 0,i,o,st,o',_,_,v,hk,_=>absurd v.JA (by omega)
 | k+1,i,o,st,o',h0,h1,v,hk,h=>by
  rw [xw] at h
  by_cases hm:ia cls i∈o.map (ia cls)
  ·rw [if_pos hm] at h
   exact .skip hm h
  ·rw [if_neg hm] at h
   refine .push hm ?_
   have v1:Vs cls l.length (o++[i]):=by
    refine⟨?_,fun x hx=>?_⟩
    ·rw [UG,List.nodup_append]
     refine⟨v.Gq,by simp,fun a ha b hb=>?_⟩
     simp only [UC,VF,UB] at hb
     subst hb; intro e; subst e; exact hm ha
    ·rcases UF.1 hx with hx | hx
     ·exact v.A4 x hx
     ·simp only [UB] at hx; subst hx; exact⟨h0,h1⟩
   have fold:∀(zs:List Int) (o:List Int),(∀a∈zs,0≤a∧a<l.length)→Vs cls l.length o→l.length<k+o.length→EX (ia cls) (fun v=>(nd l v).args) st (zs.foldl (fun o a=>s7 cls l k a o) o) o'→EX (ia cls) (fun v=>(nd l v).args) (zs++st) o o':=by
    intro zs
    induction zs with
    | nil=>intro o _ _ _ h; exact h
    | cons a zs ih=>
     intro o ha v hk h
     have hr:=ha a (by simp)
     obtain⟨v2,l2⟩:=EY ok k a o hr.1 hr.2 v
     exact A9 ok k a o (zs++st) o' hr.1 hr.2 v hk (ih _ (fun x hx=>ha x (by simp [hx])) v2 (by omega) h)
   exact fold (nd l i).args (o++[i]) (ok.2 _ (kg h0 h1)).2 v1 (by simp; omega) h
end Go.Proofs.Ytifafejidnjckaa
namespace Go.Proofs.Ytifafejidnjckaa
open Go Go.R
open Go.IntKind (i64 u64 u8 u32)
structure SV (l k:List ao)(R:Int→Int→Prop):Prop where
 A4:∀i j,R i j→(0≤i∧i<l.length)∧0≤j∧j<k.length
 top:∀i j,R i j→Alike (nd l i) (nd k j)
 arg:∀i j,R i j→∀n,n<(nd l i).args.length→R (gt (nd l i).args n) (gt (nd k j).args n)
theorem Min.same {l:List ao}{c:List Int}(M:Min l c){a b:Int}(a0:0≤a)(a1:a<l.length)(b0:0≤b)(b1:b<l.length)(e:ia c a=ia c b) :
  Alike (nd l a) (nd l b)∧∀n,n<(nd l a).args.length→ia c (gt (nd l a).args n)=ia c (gt (nd l b).args n):=by
 have ea:((a.toNat:Nat):Int)=a:=by omega
 have eb:((b.toNat:Nat):Int)=b:=by omega
 have hA:=M.top a.toNat b.toNat (by omega) (by omega) e
 have hg:=M.arg a.toNat b.toNat (by omega) (by omega) e
 rw [ea,eb] at hA hg
 exact⟨hA,hg⟩
theorem Gx {c O:List Int}{a b:Int}(h:ia c a=ia c b):idx c O a=idx c O b:=by unfold idx; rw [h]
theorem za {n:ao}{a b:Int}{f:Int→Int}(h:oM n a=true)(hf:∀x∈n.args,0≤f x∧f x<b):oM ⟨n.kind,n.int,n.label,n.args.map f⟩ b=true:=by
 unfold oM at h ⊢
 have he:(n.args.map f).isEmpty=n.args.isEmpty:=by cases n.args<;>rfl
 dsimp only
 rw [he,Ux]
 have ha:((n.args.map f).all fun a=>decide (0≤a)&&decide (a<b))=true:=by
  rw [Uv]
  intro x hx
  obtain⟨y,hy,rfl⟩:=UO.1 hx
  have:=hf y hy
  simp only [Ud,decide_eq_true_eq]; exact this
 rw [ha]
 split<;>rename_i h0
 ·rw [if_pos h0] at h; exact h
 ·rw [if_neg h0] at h
  split<;>rename_i h1
  ·rw [if_pos h1] at h; exact h
  ·rw [if_neg h1] at h
   split<;>rename_i h2
   ·rw [if_pos h2] at h; exact h
   ·rw [if_neg h2] at h
    split<;>rename_i h3
    ·rw [if_pos h3] at h
     simp only [Ud] at h ⊢
     exact⟨h.1,trivial⟩
    ·rw [if_neg h3] at h
     exact h
theorem Ch {m:Nat}(hm:2 ^ 41≤m){t:bu}(ht:ke t=true):∃s R,eX.f m t=some s∧ke s=true∧s.nodes.length≤t.nodes.length∧SV t.nodes s.nodes R∧R t.root s.root:=by
 have xk:(2:Nat) ^ 41=2199023255552:=by decide
 obtain⟨ok,_,r0,r1,_⟩:=pD ht
 obtain⟨c,ns,e,M,Q,hr⟩:=y9 hm ht
 have l1:=ok.1
 have fv:=ht
 unfold ke at fv
 simp only [Ud,decide_eq_true_eq] at fv
 generalize hO:s7 c t.nodes m t.root []=O at *
 have JA:=Q.vs.JA
 have hlen:=Q.len
 have oP:0<O.length:=by cases O with | nil=>simp at hr | cons _ _=>simp
 have Hj:∀q:Nat,q<O.length→nd ns (q:Int)=xp c t.nodes O (gt O q):=fun q hq=>by
  have:=Q.new q (by simp) hq
  unfold nd
  rw [Un,Uw,this]; rfl
 have LX:∀{v:Int},ia c v∈O.map (ia c)→0≤idx c O v∧idx c O v<O.length∧ia c (gt O (idx c O v).toNat)=ia c v:=fun {v} hv=>by
  have h1:=Vu hv
  have h2:=List.getElem_idxOf h1
  rw [Ux] at h1
  unfold idx
  refine⟨by omega,by omega,?_⟩
  rw [Un]
  have h3:=Uj (l:=O.map (ia c)) (i:=(O.map (ia c)).idxOf (ia c v)) (by rw [Ux]; exact h1)
  rw [h2,Vh,dZ h1] at h3
  exact UX h3
 refine⟨⟨ns,0⟩,fun i j=>(0≤i∧i<t.nodes.length)∧ia c i∈O.map (ia c)∧j=idx c O i,e,?_,by show ns.length≤_; omega,⟨?_,?_,?_⟩,⟨r0,r1⟩,hr,?_⟩
 ·unfold ke
  simp only [Ud,decide_eq_true_eq]
  refine⟨⟨⟨⟨by omega,by omega⟩,by omega⟩,by omega⟩,?_⟩
  rw [Uv]
  intro x hx
  obtain⟨q,hq,e2⟩:=List.getElem_of_mem hx
  have h1:=Q.new q (by simp) (by omega)
  rw [Uj hq,e2] at h1
  have h1:=UX h1
  subst h1
  have Fb:=Q.vs.A4 _ (bN (l:=O) (k:=q) (by omega))
  refine za (Uv.1 fv.2 _ (kg Fb.1 Fb.2)) fun a ha=>?_
  have:=LX (Q.arg q (by simp) (by omega) a ha)
  omega
 ·rintro i j ⟨h1,h2,rfl⟩
  have:=LX h2
  exact⟨h1,by show 0≤_∧_<(ns.length:Int); omega⟩
 ·rintro i j ⟨h1,h2,rfl⟩
  obtain⟨a,b,d⟩:=LX h2
  have Fb:=Q.vs.A4 _ (bN (l:=O) (k:=(idx c O i).toNat) (by omega))
  have hx:=Hj (idx c O i).toNat (by omega)
  rw [show (((idx c O i).toNat:Nat):Int)=idx c O i by omega] at hx
  rw [hx]
  have A:=(M.same h1.1 h1.2 Fb.1 Fb.2 d.symm).1
  exact⟨A.kind,A.int,A.label,by show _=(List.map _ _).length; rw [Ux]; exact A.len⟩
 ·rintro i j ⟨h1,h2,rfl⟩ n hn
  obtain⟨a,b,d⟩:=LX h2
  have Fb:=Q.vs.A4 _ (bN (l:=O) (k:=(idx c O i).toNat) (by omega))
  have hx:=Hj (idx c O i).toNat (by omega)
  rw [show (((idx c O i).toNat:Nat):Int)=idx c O i by omega] at hx
  rw [hx]
  obtain⟨A,hg⟩:=M.same h1.1 h1.2 Fb.1 Fb.2 d.symm
  have HG:n<(nd t.nodes (gt O (idx c O i).toNat)).args.length:=by have:=A.len; omega
  have hg:=hg n hn
  have hin:=Q.arg (idx c O i).toNat (by simp) (by omega) _ (bN HG)
  refine⟨(ok.2 _ (kg h1.1 h1.2)).2 _ (bN hn),by rw [hg]; exact hin,?_⟩
  have e1:gt (xp c t.nodes O (gt O (idx c O i).toNat)).args n=idx c O (gt (nd t.nodes (gt O (idx c O i).toNat)).args n):=by
   have h3:=dZ (l:=(xp c t.nodes O (gt O (idx c O i).toNat)).args) (k:=n) (by show n<(List.map _ _).length; rw [Ux]; exact HG)
   have h4:(xp c t.nodes O (gt O (idx c O i).toNat)).args[n]? = some (idx c O (gt (nd t.nodes (gt O (idx c O i).toNat)).args n)):=by
    show (List.map _ _)[n]? = _
    rw [Vh,dZ HG]; rfl
   rw [h4] at h3; exact (UX h3).symm
  rw [e1]
  exact Gx hg.symm
 ·show (0:Int)=idx c O t.root
  have P1:=A9 (cls:=c) ok m t.root [] [] _ r0 r1 ⟨by simp,fun x hx=>by cases hx⟩ (by simp; omega) (.nil _)
  rw [hO] at P1
  cases P1 with
  | skip h _=>simp at h
  | push _ k=>
   obtain⟨⟨T,e⟩,_⟩:=k.facts (n:=t.nodes.length) (fun v a b=>(ok.2 _ (kg a b)).2) (fun v hv=>by
    rcases UF.1 hv with hv | hv
    ·exact (ok.2 _ (kg r0 r1)).2 v hv
    ·cases hv) (fun v hv=>by simp at hv; subst hv; exact⟨r0,r1⟩) (by simp)
   rw [e]
   unfold idx
   simp
end Go.Proofs.Ytifafejidnjckaa
