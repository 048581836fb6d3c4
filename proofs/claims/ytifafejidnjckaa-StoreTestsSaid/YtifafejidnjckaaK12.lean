/- Part of the proof: PS4, PS5, PT7, PT8, PT9, PT10, PR2, PR3, PR4, PR5, PR6, PR9, PT12, PA7, PB1, PB2, PB4. -/
import Derived.Test.YtifafejidnjckaaK11
set_option linter.unusedVariables false
set_option linter.unusedSimpArgs false
set_option maxRecDepth 100000
open Bool renaming and_eq_true → ZF, false_eq_true → ZN, or_eq_true → aar, not_true → aaC
open ByteArray renaming mk → aaq
open Int renaming toNat_natCast → ZQ, natCast_nonneg → aaY
open List renaming getElem?_eq_getElem → ZG, getElem?_eq_some_iff → ZH, mem_of_getElem? → ZK, length_append → ZM, length_set → ZO, drop_eq_getElem_cons → ZP, length_map → ZR, getElem?_append_left → ZS, getElem?_append_right → ZT, length_cons → ZU, append_assoc → ZV, getD_eq_getElem?_getD → ZW, all_eq_true → ZX, replicate → ZY, mem_cons → ZZ, map_cons → Z0, mem_singleton → Z1, getElem?_eq_none → Z5, map_append → Z7, length_nil → Z8, take_append_of_le_length → Z9, mem_append → aaa, mem_map → aah, cons_append → aak, nil_append → aal, drop_zero → aam, take_succ_eq_append_getElem → aan, all_cons → aao, mem_append_left → aat, getElem?_map → aau, getElem?_of_mem → aav, length_take → aaw, idxOf_lt_length_of_mem → aax, ext_getElem? → aaL, set_append_right → aaO, map_congr_left → aaT, length_replicate → aa3, nodup_append → aa5, range → aa6, map_nil → aa8, take_length → aa9
open Nat renaming le_refl → ZI, zero_add → Z2, mul_le_mul_right → aay, sub_self → aaJ, add_zero → aaW, add_comm → aa7
open Option renaming bind_some → ZB, map_some → ZJ
open Option.some renaming injEq → ZE, inj → aaf
open Prod.mk renaming injEq → ZL
open UInt8 renaming lt_iff_toNat_lt → aaQ
namespace Go.Proofs.Ytifafejidnjckaa
open Go Go.R
open Go.IntKind (i64 u64 u8 u32)
section
variable {m:Nat}{cmp:Int→Int→Option Int}{c:Int→Int→Int}
theorem uq {l d:List Int}{a q b M E x:Nat}(h1:a≤x)(h2:x≤M)(h3:x≤q)(h4:q≤E)(h5:E≤b)(h6:E+x=M+q)(hb:b≤l.length)
  (R:MF l d x (q - x) (E - q)) (O:Ord c l) (F1:a<x→E<b→0≤c (gt l E) (gt l (x - 1))) (F2:x<q→q<E→c (gt l (E - 1)) (gt l x)<0)
  (S1:Sg c l a q) (S2:Sg c l q b) :
  Sg c d a x∧Sg c d x M∧Sg c d M E∧Sg c d E b∧(∀i j,a≤i→i<M→M≤j→j<b→0≤c (gt d j) (gt d i)):=by
 obtain⟨R1,R2,R3,R4⟩:=R
 have g1:∀k,k<x→gt d k=gt l k:=fun k hk=>R4 k (.inl hk)
 have g2:∀k,x≤k→k<M→gt d k=gt l (q+(k - x)):=fun k hk qA=>by
  have:=R2 (k - x) (by omega)
  rw [show x+(k - x)=k by omega,show x+(q - x)+(k - x)=q+(k - x) by omega] at this
  exact this
 have g3:∀k,M≤k→k<E→gt d k=gt l (x+(k - M)):=fun k hk qA=>by
  have:=R3 (k - M) (by omega)
  rw [show x+(E - q)+(k - M)=k by omega] at this
  exact this
 have g4:∀k,E≤k→gt d k=gt l k:=fun k hk=>R4 k (.inr (by omega))
 refine⟨fun i j k1 k2 k3=>?_,fun i j k1 k2 k3=>?_,fun i j k1 k2 k3=>?_,fun i j k1 k2 k3=>?_,fun i j k1 k2 k3 k4=>?_⟩
 ·rw [g1 i (by omega),g1 j (by omega)]; exact S1 _ _ k1 k2 (by omega)
 ·rw [g2 i (by omega) (by omega),g2 j (by omega) (by omega)]; exact S2 _ _ (by omega) (by omega) (by omega)
 ·rw [g3 i (by omega) (by omega),g3 j (by omega) (by omega)]; exact S1 _ _ (by omega) (by omega) (by omega)
 ·rw [g4 i (by omega),g4 j (by omega)]; exact S2 _ _ (by omega) (by omega) (by omega)
 ·by_cases hi:i<x
  ·rw [g1 i hi]
   by_cases hj:j<E
   ·rw [g3 j k3 hj]; exact S1 _ _ k1 (by omega) (by omega)
   ·rw [g4 j (by omega)]
    have f1:=F1 (by omega) (by omega)
    have f2:=S1.le O k1 (show i≤x - 1 by omega) (by omega) (by omega)
    have f3:=S2.le O (show q≤E from h4) (show E≤j by omega) k4 hb
    exact O.tr _ (b8 (by omega)) _ (b8 (show E<l.length by omega)) _ (b8 (by omega)) (O.tr _ (b8 (by omega)) _ (b8 (show x - 1<l.length by omega)) _ (b8 (by omega)) f2 f1) f3
  ·rw [g2 i (by omega) k2]
   by_cases hj:j<E
   ·rw [g3 j k3 hj]
    have f1:=O.MG _ (b8 (show E - 1<l.length by omega)) _ (b8 (show x<l.length by omega)) (F2 (by omega) (by omega))
    have f2:=S2.le O (show q≤q+(i - x) by omega) (show q+(i - x)≤E - 1 by omega) (by omega) hb
    have f3:=S1.le O h1 (show x≤x+(j - M) by omega) (by omega) (by omega)
    exact O.tr _ (b8 (by omega)) _ (b8 (show x<l.length by omega)) _ (b8 (by omega)) (O.tr _ (b8 (by omega)) _ (b8 (show E - 1<l.length by omega)) _ (b8 (by omega)) f2 f1) f3
   ·rw [g4 j (by omega)]; exact S2 _ _ (by omega) (by omega) k4
theorem Hf {l:List Int}{x i j:Nat}(h:i=0∨j=0):MF l l x i j:=
 ⟨List.Perm.refl _,fun k hk=>by rw [show i=0 by omega,aaW],fun k hk=>by rw [show j=0 by omega,aaW],fun _ _=>rfl⟩
theorem LZ {l d:List Int}{x i j a b:Nat}(R:MF l d x i j)(h1:a≤x)(h2:x+i+j≤b):Mv a b l d:=by
 obtain⟨R1,R2,R3,R4⟩:=R
 refine⟨R1,fun k hk=>R4 k (by omega),fun k k1 k2=>?_⟩
 by_cases g1:k<x∨x+i+j≤k
 ·exact⟨k,k1,k2,R4 k g1⟩
 ·by_cases g2:k<x+j
  ·have:=R2 (k - x) (by omega)
   rw [show x+(k - x)=k by omega] at this
   exact⟨_,by omega,by omega,this⟩
  ·have:=R3 (k - x - j) (by omega)
   rw [show x+j+(k - x - j)=k by omega] at this
   exact⟨_,by omega,by omega,this⟩
theorem qg (hm:2 ^ 41≤m):∀(f:Nat) (l:List Int) (a q b:Nat),b - a<f→a<q→q<b→b≤l.length→l.length<2 ^ 40→Cm cmp c l→
  ∃d,aM.f m f l (a:Int) (q:Int) (b:Int) cmp=some d∧Mv a b l d∧(Ord c l→Sg c l a q→Sg c l q b→Sg c d a b)
 | 0,l,a,q,b,hf,_,_,_,_,_=>absurd hf (by omega)
 | f+1,l,a,q,b,hf,h1,h2,h3,hs,C=>by
  have uI:(2:Nat) ^ 40=1099511627776:=by decide
  have ve:(2:Nat) ^ 41=2199023255552:=by decide
  have Sy:(2:Nat) ^ 42=4398046511104:=by decide
  unfold aM.f
  unfold aM.b
  have e1:i64.wrap ((q:Int) - (a:Int))=((q - a:Nat):Int):=by rw [bU (by omega) (by omega)]; omega
  have e2:i64.wrap ((b:Int) - (q:Int))=((b - q:Nat):Int):=by rw [bU (by omega) (by omega)]; omega
  have hM:=zJ (a:=a) (b:=b) (by omega)
  rw [e1,e2,hM]
  by_cases Sz:q - a=1
  ·obtain⟨x,k1,k2,k3,k4,k5⟩:=Bv (m:=m) (a:=a) (by omega) hs C m q b (by omega) (by omega) h3
   obtain⟨d,y,g1,g2,g3⟩:=Hd (m:=m) (l:=l) (a:=a) (x:=x) (by omega) (by omega) hs m a l (by omega) (ZI _) (by omega) Mv.refl (fun t=>by rw [if_neg (by omega)]; split<;>simp_all)
   rw [if_pos (by simp; omega),k1,ZB]
   dsimp only
   rw [g1]
   refine⟨d,rfl,g2.wide (ZI _) k3,fun O S1 S2 i j r1 r2 r3=>?_⟩
   have A1:∀t,a≤t→t+1<x→gt d t=gt l (t+1):=fun t w1 w2=>by rw [g3 t,if_pos ⟨w1,w2⟩]
   have A2:∀t,t+1=x→gt d t=gt l a:=fun t w1=>by rw [g3 t,if_neg (by omega),if_pos w1]
   have A3:∀t,x≤t→gt d t=gt l t:=fun t w1=>by rw [g3 t,if_neg (by omega),if_neg (by omega)]
   by_cases i1:i+1<x
   ·rw [A1 i r1 i1]
    by_cases j1:j+1<x
    ·rw [A1 j (by omega) j1]; exact S2 _ _ (by omega) (by omega) (by omega)
    ·have f1:=O.MG _ (b8 (show x - 1<l.length by omega)) _ (b8 (show a<l.length by omega)) (k4 (by omega))
     have f2:=S2.le O (show q≤i+1 by omega) (show i+1≤x - 1 by omega) (by omega) h3
     by_cases j2:j+1=x
     ·rw [A2 j j2]
      exact O.tr _ (b8 (by omega)) _ (b8 (show x - 1<l.length by omega)) _ (b8 (by omega)) f2 f1
     ·rw [A3 j (by omega)]; exact S2 _ _ (by omega) (by omega) (by omega)
   ·rw [A3 j (by omega)]
    by_cases i2:i+1=x
    ·rw [A2 i i2]
     have f1:=k5 (by omega)
     have f2:=S2.le O (show q≤x by omega) (show x≤j by omega) r3 h3
     exact O.tr _ (b8 (by omega)) _ (b8 (show x<l.length by omega)) _ (b8 (by omega)) f1 f2
    ·rw [A3 i (by omega)]; exact S2 _ _ (by omega) r2 r3
  rw [if_neg (by simp; omega)]
  by_cases hb1:b - q=1
  ·obtain⟨x,k1,k2,k3,k4,k5⟩:=Bw (m:=m) (q:=q) (by omega) hs C m a q (by omega) (by omega) (by omega)
   obtain⟨d,y,g1,g2,g3⟩:=He (m:=m) (l:=l) (q:=q) (x:=x) (by omega) (by omega) hs m q l (by omega) (by omega) (ZI _) Mv.refl (fun t=>by rw [if_neg (by omega)]; split<;>simp_all)
   rw [if_pos (by simp; omega),k1,ZB]
   dsimp only
   rw [g1]
   refine⟨d,rfl,g2.wide k2 (by omega),fun O S1 S2 i j r1 r2 r3=>?_⟩
   have A1:∀t,x<t→t≤q→gt d t=gt l (t - 1):=fun t w1 w2=>by rw [g3 t,if_pos ⟨w1,w2⟩]
   have A2:gt d x=gt l q:=by rw [g3 x,if_neg (by omega),if_pos rfl]
   have A3:∀t,t<x→gt d t=gt l t:=fun t w1=>by rw [g3 t,if_neg (by omega),if_neg (by omega)]
   by_cases i1:x<i
   ·rw [A1 i i1 (by omega),A1 j (by omega) (by omega)]
    exact S1 _ _ (by omega) (by omega) (by omega)
   ·by_cases i2:i=x
    ·subst i2
     rw [A2,A1 j (by omega) (by omega)]
     have f1:=O.MG _ (b8 (show q<l.length by omega)) _ (b8 (show i<l.length by omega)) (k5 (by omega))
     have f2:=S1.le O r1 (show i≤j - 1 by omega) (by omega) (by omega)
     exact O.tr _ (b8 (by omega)) _ (b8 (show i<l.length by omega)) _ (b8 (by omega)) f1 f2
    ·rw [A3 i (by omega)]
     by_cases j1:x<j
     ·rw [A1 j j1 (by omega)]
      exact S1.le O r1 (by omega) (by omega) (by omega)
     ·have f1:=k4 (by omega)
      have f2:=S1.le O r1 (show i≤x - 1 by omega) (by omega) (by omega)
      by_cases j2:j=x
      ·subst j2
       rw [A2]
       exact O.tr _ (b8 (by omega)) _ (b8 (show j - 1<l.length by omega)) _ (b8 (by omega)) f2 f1
      ·rw [A3 j (by omega)]; exact S1 _ _ r1 r2 (by omega)
  rw [if_neg (by simp; omega)]
  refine LY ?_
  intro z hz
  have U2:∃s r:Nat,z=((s:Int),(r:Int))∧((q > (a+b) / 2∧s=(a+b) / 2+q - b∧r=(a+b) / 2)∨(q≤(a+b) / 2∧s=a∧r=q)):=by
   rcases hz with⟨hc,rfl⟩| ⟨hc,rfl⟩
   ·refine⟨(a+b) / 2+q - b,(a+b) / 2,?_,.inl ⟨by simp only [decide_eq_true_eq] at hc; omega,rfl,rfl⟩⟩
    simp only [ZL,and_true]
    simp only [decide_eq_true_eq] at hc
    rw [bU (x:=(((a+b) / 2:Nat):Int)+(q:Int)) (by omega) (by omega),bU (by omega) (by omega)]
    omega
   ·refine⟨a,q,rfl,.inr ⟨?_,rfl,rfl⟩⟩
    simp only [decide_eq_false_iff_not] at hc
    omega
  obtain⟨s,r,rfl,U2⟩:=U2
  clear hz
  dsimp only
  obtain⟨x,k1,k2,k3,k4,k5⟩:=Bx (m:=m) (a:=a) (b:=b) (q:=q) (by omega) hs C m s r (by omega) (by omega) (by omega) (by omega) (by omega)
  rw [k1,ZB]
  dsimp only
  generalize Zj:(a+b) / 2=M at *
  obtain⟨E,hE⟩:∃E,E=M+q - x:=⟨_,rfl⟩
  have eE:i64.wrap (i64.wrap ((M:Int)+(q:Int)) - (x:Int))=(E:Int):=by
   rw [bU (x:=(M:Int)+(q:Int)) (by omega) (by omega),bU (by omega) (by omega)]
   omega
  rw [eE]
  rw [←hE] at k4 k5
  have c1:a≤x:=by omega
  have c2:x≤M:=by omega
  have c3:x≤q:=by omega
  have c4:q≤E:=by omega
  have c5:E≤b:=by omega
  have c6:E+x=M+q:=by omega
  have c7:M≤E:=by omega
  have F1:a<x→E<b→0≤c (gt l E) (gt l (x - 1)):=fun _ _=>k4 (by omega)
  have F2:x<q→q<E→c (gt l (E - 1)) (gt l x)<0:=fun _ _=>k5 (by omega)
  refine Hc (fun d=>MF l d x (q - x) (E - q)) (fun u1 u2=>?_) (fun u=>?_) ?_
  ·simp only [decide_eq_true_eq] at u1 u2
   exact G7 hm (by omega) (by omega) (by omega) hs
  ·simp only [decide_eq_true_eq] at u
   exact Hf (by omega)
  intro d5 R
  try dsimp only
  have M5:Mv a b l d5:=LZ R c1 (by omega)
  have l5:=M5.length
  refine Hc (fun d=>Mv a M d5 d∧(Ord c l→Sg c l a q→Sg c l q b→Sg c d a M)) (fun u1 u2=>?_) (fun u=>?_) ?_
  ·simp only [decide_eq_true_eq] at u1 u2
   obtain⟨d,g1,g2,g3⟩:=qg hm f d5 a x M (by omega) (by omega) (by omega) (by omega) (by omega) (C.perm M5.perm)
   refine⟨d,g1,g2,fun O S1 S2=>?_⟩
   obtain⟨v1,v2,v3,v4,v5⟩:=uq c1 c2 c3 c4 c5 c6 h3 R O F1 F2 S1 S2
   exact g3 (O.perm M5.perm) v1 v2
  ·simp only [decide_eq_true_eq] at u
   refine⟨Mv.refl,fun O S1 S2=>?_⟩
   obtain⟨v1,v2,v3,v4,v5⟩:=uq c1 c2 c3 c4 c5 c6 h3 R O F1 F2 S1 S2
   by_cases ua:a=x
   ·rw [ua]; exact v2
   ·rw [show M=x by omega]; exact v1
  rintro d6 ⟨M6,S6⟩
  try dsimp only
  have l6:=M6.length
  have SA:=M5.trans (M6.wide (ZI _) (by omega))
  have fin:∀d,Mv M b d6 d→(Ord c l→Sg c l a q→Sg c l q b→Sg c d M b)→Mv a b l d∧(Ord c l→Sg c l a q→Sg c l q b→Sg c d a b):=by
   intro d M7 S7
   refine⟨SA.trans (M7.wide (by omega) (ZI _)),fun O S1 S2 i j r1 r2 r3=>?_⟩
   obtain⟨v1,v2,v3,v4,v5⟩:=uq c1 c2 c3 c4 c5 c6 h3 R O F1 F2 S1 S2
   by_cases hj:j<M
   ·rw [M7.out i (by omega),M7.out j (by omega)]
    exact S6 O S1 S2 _ _ r1 r2 hj
   ·by_cases hi:M≤i
    ·exact S7 O S1 S2 _ _ hi r2 r3
    ·obtain⟨j',y1,y2,y3⟩:=M7.im j (by omega) r3
     obtain⟨i',w1,w2,w3⟩:=M6.im i r1 (by omega)
     rw [M7.out i (by omega),y3,M6.out j' (by omega),w3]
     exact v5 _ _ w1 w2 y1 y2
  refine Sw (fun u1 u2=>?_) (fun u=>?_)
  ·simp only [decide_eq_true_eq] at u1 u2
   obtain⟨d,g1,g2,g3⟩:=qg hm f d6 M E b (by omega) (by omega) (by omega) (by omega) (by omega) (C.perm SA.perm)
   refine⟨d,g1,fin d g2 fun O S1 S2=>?_⟩
   obtain⟨v1,v2,v3,v4,v5⟩:=uq c1 c2 c3 c4 c5 c6 h3 R O F1 F2 S1 S2
   refine g3 (O.perm SA.perm) (fun i j y1 y2 y3=>?_) (fun i j y1 y2 y3=>?_)
   ·rw [M6.out i (by omega),M6.out j (by omega)]; exact v3 _ _ y1 y2 y3
   ·rw [M6.out i (by omega),M6.out j (by omega)]; exact v4 _ _ y1 y2 y3
  ·simp only [decide_eq_true_eq] at u
   refine fin d6 Mv.refl fun O S1 S2 i j y1 y2 y3=>?_
   obtain⟨v1,v2,v3,v4,v5⟩:=uq c1 c2 c3 c4 c5 c6 h3 R O F1 F2 S1 S2
   rw [M6.out i (by omega),M6.out j (by omega)]
   by_cases ue:M=E
   ·exact v4 _ _ (by omega) y2 y3
   ·exact v3 _ _ y1 y2 (by omega)
end
end Go.Proofs.Ytifafejidnjckaa
namespace Go.Proofs.Ytifafejidnjckaa
open Go Go.R
open Go.IntKind (i64 u64 u8 u32)
section
variable {m:Nat}{cmp:Int→Int→Option Int}{c:Int→Int→Int}
def On (c:Int→Int→Int)(d:List Int)(bs n:Nat):Prop:=∀k i j,k*bs≤i→i<j→j<k*bs+bs→j<n→0≤c (gt d j) (gt d i)
theorem Hg (hm:2 ^ 41≤m){n:Nat}{l:List Int}(hn:n=l.length)(hs:l.length<2 ^ 40)(C:Cm cmp c l):∀(f t:Nat) (d:List Int),n - 20*t<f→20*t≤n→Mv 0 (20*t) l d→
  (Ord c l→∀k,k<t→Sg c d (20*k) (20*k+20))→
  ∃d' t' y,b7.l0 m (n:Int) cmp f d ((20*t:Nat):Int) ((20*t+20:Nat):Int)=some (d',((20*t':Nat):Int),y)∧20*t'≤n∧n<20*t'+20∧Mv 0 (20*t') l d'∧(Ord c l→∀k,k<t'→Sg c d' (20*k) (20*k+20))
 | 0,t,d,hf,_,_,_=>absurd hf (by omega)
 | f+1,t,d,hf,h1,M,S=>by
  have uI:(2:Nat) ^ 40=1099511627776:=by decide
  have ve:(2:Nat) ^ 41=2199023255552:=by decide
  have hl:=M.length
  unfold b7.l0
  by_cases h:20*t+20≤n
  ·obtain⟨d1,e1,M1,S1⟩:=zM (a:=20*t) (b:=20*t+20) (cmp:=cmp) (c:=c) hm (l:=d) (by omega) (by omega) (by omega) (C.perm M.perm)
   rw [if_pos (by simp only [decide_eq_true_eq]; omega),e1,ZB,bU (x:=((20*t+20:Nat):Int)+20) (by omega) (by omega)]
   have:=Hg hm hn hs C f (t+1) d1 (by omega) (by omega) ((M.wide (ZI _) (by omega)).trans (M1.wide (by omega) (by omega))) (fun O k hk i j k1 k2 k3=>by
    by_cases Ip:k=t
    ·subst Ip; exact S1 (O.perm M.perm) _ _ k1 k2 k3
    ·rw [M1.out i (by omega),M1.out j (by omega)]; exact S O k (by omega) _ _ k1 k2 k3)
   rw [show ((20*(t+1):Nat):Int)=((20*t+20:Nat):Int) by omega,show ((20*(t+1)+20:Nat):Int)=((20*t+20:Nat):Int)+20 by omega] at this
   exact this
  ·exact⟨d,t,_,by rw [if_neg (by simp only [decide_eq_true_eq]; omega)],h1,by omega,M,S⟩
theorem Hh (hm:2 ^ 41≤m){n bs:Nat}{l:List Int}(hn:n=l.length)(hs:l.length<2 ^ 40)(hb:0<bs)(FO:bs<n)(C:Cm cmp c l)(B:Ord c l→On c l bs n):∀(f t:Nat) (d:List Int),n - t*(2*bs)<f→t*(2*bs)≤n→Mv 0 (t*(2*bs)) l d→
  (Ord c l→∀k,k<t→Sg c d (k*(2*bs)) (k*(2*bs)+2*bs))→
  ∃d' t' y,b7.l2 m (n:Int) cmp (bs:Int) f d ((t*(2*bs):Nat):Int) ((t*(2*bs)+2*bs:Nat):Int)=some (d',((t'*(2*bs):Nat):Int),y)∧t'*(2*bs)≤n∧n<t'*(2*bs)+2*bs∧Mv 0 (t'*(2*bs)) l d'∧(Ord c l→∀k,k<t'→Sg c d' (k*(2*bs)) (k*(2*bs)+2*bs))
 | 0,t,d,hf,_,_,_=>absurd hf (by omega)
 | f+1,t,d,hf,h1,M,S=>by
  have uI:(2:Nat) ^ 40=1099511627776:=by decide
  have ve:(2:Nat) ^ 41=2199023255552:=by decide
  have hl:=M.length
  unfold b7.l2
  have ht:(t+1)*(2*bs)=t*(2*bs)+2*bs:=Nat.succ_mul _ _
  have q1:(2*t)*bs=t*(2*bs):=by rw [Nat.mul_assoc,Nat.mul_left_comm]
  have q2:(2*t+1)*bs=t*(2*bs)+bs:=by rw [Nat.succ_mul,q1]
  by_cases h:t*(2*bs)+2*bs≤n
  ·have S0:Ord c l→Sg c d (t*(2*bs)) (t*(2*bs)+bs):=fun O i j k1 k2 k3=>by
    rw [M.out i (by omega),M.out j (by omega)]; exact B O (2*t) i j (by omega) k2 (by omega) (by omega)
   have WV:Ord c l→Sg c d (t*(2*bs)+bs) (t*(2*bs)+2*bs):=fun O i j k1 k2 k3=>by
    rw [M.out i (by omega),M.out j (by omega)]; exact B O (2*t+1) i j (by omega) k2 (by omega) (by omega)
   have hk:∀k,k<t→k*(2*bs)+2*bs≤t*(2*bs):=fun k hk=>by
    rw [←Nat.succ_mul]; exact aay _ hk
   generalize hA:t*(2*bs)=A at *
   obtain⟨d1,e1,M1,S1⟩:=qg (cmp:=cmp) (c:=c) hm m d A (A+bs) (A+2*bs) (by omega) (by omega) (by omega) (by omega) (by omega) (C.perm M.perm)
   have e0:i64.wrap ((A:Int)+(bs:Int))=((A+bs:Nat):Int):=by rw [bU (by omega) (by omega)]; omega
   have e2:i64.wrap ((2:Int)*(bs:Int))=((2*bs:Nat):Int):=by rw [bU (by omega) (by omega)]; omega
   have e3:i64.wrap (((A+2*bs:Nat):Int)+((2*bs:Nat):Int))=((A+2*bs+2*bs:Nat):Int):=by rw [bU (by omega) (by omega)]; omega
   rw [if_pos (by simp only [decide_eq_true_eq]; omega),e0,e1,ZB,e2,e3]
   have:=Hh hm hn hs hb FO C B f (t+1) d1 (by omega) (by omega) (by rw [ht]; exact (M.wide (ZI _) (by omega)).trans (M1.wide (by omega) (by omega))) (fun O k qA i j k1 k2 k3=>by
    by_cases Ip:k=t
    ·subst Ip; rw [hA] at k1 k3; exact S1 (O.perm M.perm) (S0 O) (WV O) _ _ k1 k2 k3
    ·have:=hk k (by omega)
     rw [M1.out i (by omega),M1.out j (by omega)]; exact S O k (by omega) _ _ k1 k2 k3)
   rw [ht] at this
   exact this
  ·exact⟨d,t,_,by rw [if_neg (by simp only [decide_eq_true_eq]; omega)],h1,by omega,M,S⟩
theorem By (hm:2 ^ 41≤m){n:Nat}:∀(f bs:Nat) (l:List Int),n=l.length→l.length<2 ^ 40→Cm cmp c l→n - bs<f→0<bs→bs<2 ^ 42→(Ord c l→On c l bs n)→
  ∃d y,b7.l1 m (n:Int) cmp f l (bs:Int)=some (d,y)∧d.Perm l∧(Ord c l→Sg c d 0 n)
 | 0,bs,l,_,_,_,hf,_,_,_=>absurd hf (by omega)
 | f+1,bs,l,hn,hs,C,hf,hb,hb2,B=>by
  have uI:(2:Nat) ^ 40=1099511627776:=by decide
  have ve:(2:Nat) ^ 41=2199023255552:=by decide
  have Sy:(2:Nat) ^ 42=4398046511104:=by decide
  unfold b7.l1
  by_cases h:bs<n
  ·have e2:i64.wrap ((2:Int)*(bs:Int))=((2*bs:Nat):Int):=by rw [bU (by omega) (by omega)]; omega
   have e3:i64.wrap ((bs:Int)*(2:Int))=((2*bs:Nat):Int):=by rw [bU (by omega) (by omega)]; omega
   obtain⟨d1,t,y,k1,k2,k3,M1,S1⟩:=Hh (cmp:=cmp) (c:=c) hm hn hs hb h C B m 0 l (by omega) (by omega) Mv.refl (fun O k hk=>absurd hk (by omega))
   have l1:=M1.length
   simp only [Nat.zero_mul,Z2] at k1
   have k1:b7.l2 m (n:Int) cmp (bs:Int) m l (0:Int) ((2*bs:Nat):Int)=_:=k1
   rw [if_pos (by simp only [decide_eq_true_eq]; omega),e2,k1,ZB]
   dsimp only
   rw [e3]
   have q1:(2*t)*bs=t*(2*bs):=by rw [Nat.mul_assoc,Nat.mul_left_comm]
   have q2:(2*t+1)*bs=t*(2*bs)+bs:=by rw [Nat.succ_mul,q1]
   have hk:∀k,k<t→k*(2*bs)+2*bs≤t*(2*bs):=fun k hk=>by
    rw [←Nat.succ_mul]; exact aay _ hk
   have qA:∀k,t<k→t*(2*bs)+2*bs≤k*(2*bs):=fun k hk=>by
    rw [←Nat.succ_mul]; exact aay _ hk
   have e0:i64.wrap (((t*(2*bs):Nat):Int)+(bs:Int))=((t*(2*bs)+bs:Nat):Int):=by rw [bU (by omega) (by omega)]; omega
   rw [e0]
   by_cases h2:t*(2*bs)+bs<n
   ·obtain⟨d2,e4,M2,S2⟩:=qg (cmp:=cmp) (c:=c) hm m d1 (t*(2*bs)) (t*(2*bs)+bs) n (by omega) (by omega) (by omega) (by omega) (by omega) (C.perm M1.perm)
    rw [if_pos (by simp only [decide_eq_true_eq]; omega),e4,ZB]
    have P2:=M2.perm.trans M1.perm
    obtain⟨d,y,g1,g2,g3⟩:=By (n:=n) hm f (2*bs) d2 (by have:=P2.length_eq; omega) (by have:=P2.length_eq; omega) (C.perm P2) (by omega) (by omega) (by omega) (fun O k i j w1 w2 w3 w4=>by
     have O:=O.perm P2.symm
     by_cases u1:k<t
     ·have:=hk k u1
      rw [M2.out i (by omega),M2.out j (by omega)]; exact S1 O k u1 _ _ w1 w2 w3
     ·by_cases u2:k=t
      ·subst u2
       refine S2 (O.perm M1.perm) (fun i j x1 x2 x3=>?_) (fun i j x1 x2 x3=>?_) _ _ w1 w2 w4
       ·rw [M1.out i (by omega),M1.out j (by omega)]; exact B O (2*k) i j (by omega) x2 (by omega) (by omega)
       ·rw [M1.out i (by omega),M1.out j (by omega)]; exact B O (2*k+1) i j (by omega) x2 (by omega) (by omega)
      ·have:=qA k (by omega); omega)
    exact⟨d,y,g1,g2.trans P2,fun O=>g3 (O.perm P2)⟩
   ·rw [if_neg (by simp only [decide_eq_true_eq]; omega)]
    have P2:=M1.perm
    obtain⟨d,y,g1,g2,g3⟩:=By (n:=n) hm f (2*bs) d1 (by have:=P2.length_eq; omega) (by have:=P2.length_eq; omega) (C.perm P2) (by omega) (by omega) (by omega) (fun O k i j w1 w2 w3 w4=>by
     have O:=O.perm P2.symm
     by_cases u1:k<t
     ·exact S1 O k u1 _ _ w1 w2 w3
     ·by_cases u2:k=t
      ·subst u2
       rw [M1.out i (by omega),M1.out j (by omega)]; exact B O (2*k) i j (by omega) w2 (by omega) (by omega)
      ·have:=qA k (by omega); omega)
    exact⟨d,y,g1,g2.trans P2,fun O=>g3 (O.perm P2)⟩
  ·refine⟨l,bs,by rw [if_neg (by simp only [decide_eq_true_eq]; omega)],List.Perm.refl _,fun O i j w1 w2 w3=>B O 0 i j (by omega) w2 (by omega) w3⟩
theorem EP (hm:2 ^ 41≤m){l:List Int}(hs:l.length<2 ^ 40)(C:Cm cmp c l):∃d,fZ.f m l cmp=some d∧d.Perm l∧(Ord c l→Sg c d 0 l.length):=by
 have uI:(2:Nat) ^ 40=1099511627776:=by decide
 have ve:(2:Nat) ^ 41=2199023255552:=by decide
 have Sy:(2:Nat) ^ 42=4398046511104:=by decide
 unfold fZ.f b7.f
 obtain⟨d1,t,y,k1,k2,k3,M1,S1⟩:=Hg (cmp:=cmp) (c:=c) hm rfl hs C m 0 l (by omega) (by omega) Mv.refl (fun O k hk=>absurd hk (by omega))
 have k1:b7.l0 m (l.length:Int) cmp m l (0:Int) (20:Int)=_:=k1
 have l1:=M1.length
 rw [k1,ZB]
 dsimp only
 obtain⟨d2,e2,M2,S2⟩:=zM (a:=20*t) (b:=l.length) (cmp:=cmp) (c:=c) hm (l:=d1) (by omega) (by omega) (by omega) (C.perm M1.perm)
 rw [e2,ZB]
 have P2:=M2.perm.trans M1.perm
 obtain⟨d,y,g1,g2,g3⟩:=By (cmp:=cmp) (c:=c) (n:=l.length) hm m 20 d2 P2.length_eq.symm (by rw [P2.length_eq]; exact hs) (C.perm P2) (by omega) (by omega) (by omega) (fun O k i j w1 w2 w3 w4=>by
  have O:=O.perm P2.symm
  by_cases u1:k<t
  ·rw [M2.out i (by omega),M2.out j (by omega)]; exact S1 O k u1 _ _ (by omega) w2 (by omega)
  ·exact S2 (O.perm M1.perm) _ _ (by omega) w2 (by omega))
 have g1:b7.l1 m (l.length:Int) cmp m d2 (20:Int)=_:=g1
 rw [g1]
 exact⟨d,rfl,g2.trans P2,fun O=>g3 (O.perm P2)⟩
end
end Go.Proofs.Ytifafejidnjckaa
namespace Go.Proofs.Ytifafejidnjckaa
open Go Go.R
open Go.IntKind (i64 u64 u8 u32)
def gz (t:bg):Bool:=decide (1≤t.nodes.length)&&decide (t.nodes.length≤8000)&&decide (0≤t.root)&&decide (t.root<t.nodes.length)&&t.nodes.all fun n=>fN n t.nodes.length
theorem mG {m:Nat}(hm:2 ^ 30≤m)(t:bg):gg.f m t=some (gz t):=by
 have J7:(2:Nat) ^ 30=1073741824:=by decide
 have uI:(2:Nat) ^ 40=1099511627776:=by decide
 unfold gg.f gz
 by_cases h1:1≤t.nodes.length
 ·rw [if_pos (by simp only [decide_eq_true_eq]; omega),decide_eq_true h1]
  by_cases h2:t.nodes.length≤8000
  ·rw [if_pos (by simp only [decide_eq_true_eq]; omega),decide_eq_true h2]
   by_cases h3:0≤t.root
   ·rw [if_pos (by simp only [decide_eq_true_eq]; omega),decide_eq_true h3]
    by_cases h4:t.root<t.nodes.length
    ·rw [if_pos (by simp only [decide_eq_true_eq]; omega),decide_eq_true h4]
     rw [EN (g:=fun n=>!(fN n t.nodes.length)) (by omega) (by omega) (fun n _=>by unfold gM.f; rw [EO (by omega)]; rfl),ZB]
     simp [List.not_any_eq_all_not]
    ·rw [if_neg (by simp only [decide_eq_true_eq]; omega),decide_eq_false h4]; rfl
   ·rw [if_neg (by simp only [decide_eq_true_eq]; omega),decide_eq_false h3]; rfl
  ·rw [if_neg (by simp only [decide_eq_true_eq]; omega),decide_eq_false h2]; rfl
 ·rw [if_neg (by simp only [decide_eq_true_eq]; omega),decide_eq_false h1]; rfl
def cI (x y:Int):Int:=if x<y then -1 else if y<x then 1 else 0
def cS (x y:ByteArray):Int:=if Op.bytesLess x.data.toList y.data.toList=true then -1 else if (!Ga x y)=true then 1 else 0
def ER (x y:Int):Int:=if x=0 then y else x
def cT (a b:ak):Int:=if a.kind=b.kind then (if a.kind=3 then ER (cI a.args.length b.args.length) (cS a.label b.label) else ER (cS a.label b.label) (cI a.int b.int)) else cI a.kind b.kind
theorem xN {m:Nat}(x y:Int):dy.f m x y=some (cI x y):=by
 unfold dy.f cmp_isNaN_int.f cI
 simp only [beq_self_eq_true,aaC,ZB,ZN,if_false]
 by_cases h:x<y
 ·rw [if_pos (by simpa using h),if_pos h]
 ·rw [if_neg (by simpa using h),if_neg h]
  by_cases h2:y<x
  ·rw [if_pos (by simpa using h2),if_pos h2]
  ·rw [if_neg (by simpa using h2),if_neg h2]
theorem DA {m:Nat}(x y:ByteArray):cL.f m x y=some (cS x y):=by
 unfold cL.f cmp_isNaN_string.f cS
 simp only [beq_self_eq_true,aaC,ZB,ZN,if_false]
 split
 ·rfl
 ·split
  ·rfl
  ·rfl
theorem zN {m:Nat}(hm:3≤m)(x y:Int):cF.f m [x,y]=some (ER x y):=by
 obtain⟨k,rfl⟩:∃k,m=k+3:=⟨m - 3,by omega⟩
 unfold cF.f ER
 have e1:i64.wrap ((0:Int)+1)=1:=by decide
 have e2:i64.wrap ((1:Int)+1)=2:=by decide
 have a0:ix [x,y] 0=some x:=rfl
 have a1:ix [x,y] 1=some y:=rfl
 unfold cF.l0
 rw [if_pos (by simp),a0,ZB]
 by_cases h:x=0
 ·subst h
  rw [if_neg (by simp),e1,if_pos rfl]
  unfold cF.l0
  rw [if_pos (by simp),a1,ZB]
  by_cases h2:y=0
  ·subst h2
   rw [if_neg (by simp),e2]
   unfold cF.l0
   rw [if_neg (by simp)]; rfl
  ·rw [if_pos (by simpa using h2)]; rfl
 ·rw [if_pos (by simpa using h),if_neg h]; rfl
theorem xO {m:Nat}(hm:3≤m)(a b:ak):dz.f m a b=some (cT a b):=by
 unfold dz.f cT
 by_cases h:a.kind=b.kind
 ·rw [if_neg (by simp [h]),if_pos h]
  by_cases h3:a.kind=3
  ·rw [if_pos (by simpa using h3),if_pos h3,xN,DA,ZB,ZB,zN hm]; rfl
  ·rw [if_neg (by simpa using h3),if_neg h3,xN,DA,ZB,ZB,zN hm]; rfl
 ·rw [if_pos (by simpa using h),if_neg h,xN]; rfl
def nd (l:List ak)(i:Int):ak:=l.getD i.toNat ⟨0,0,⟨#[]⟩,[]⟩
theorem ur {l:List ak}{i:Int}(h0:0≤i)(h1:i<l.length):ix l i=some (nd l i):=by
 unfold ix nd
 have h:i.toNat<l.length:=by omega
 rw [if_pos h0,ZW,ZG h]; rfl
theorem ls {l:List ak}{i:Int}(h0:0≤i)(h1:i<l.length):nd l i∈l:=by
 have:=ur h0 h1
 unfold ix at this
 rw [if_pos h0] at this
 exact ZK this
theorem Hi {m:Nat}(hm:3≤m){l:List ak}{i j:Int}(h0:0≤i)(h1:i<l.length)(h2:0≤j)(h3:j<l.length):eH.f m i j l=some (cT (nd l i) (nd l j)):=by
 unfold eH.f
 rw [ur h0 h1,ur h2 h3,ZB,ZB,xO hm]; rfl
end Go.Proofs.Ytifafejidnjckaa
namespace Go.Proofs.Ytifafejidnjckaa
open Go Go.R
open Go.IntKind (i64 u64 u8 u32)
def key (out:List Int)(n:ak)(i:Nat):List Int:=(gt out i+1)::((n.args.map fun a=>gt out a.toNat+1)++ZY (8 - n.args.length) 0)
def enum:List (List Int)→Nat→List (List Int × Int)
 | [],_=>[]
 | k::ks,s=>(k,(s:Int))::enum ks (s+1)
theorem nS:∀(ks:List (List Int)) (s:Nat),(enum ks s).length=ks.length
 | [],_=>rfl
 | k::ks,s=>by simp [enum,nS ks]
theorem uu:∀(ks:List (List Int)) (s:Nat) (k:List Int),tD (enum ks s) k=if k∈ks then (((s+ks.idxOf k:Nat):Int),true) else (0,false)
 | [],s,k=>rfl
 | a::ks,s,k=>by
  simp only [enum,tD,uu ks (s+1) k,ZZ,List.idxOf_cons]
  by_cases h:k=a
  ·subst h; simp
  ·have h':(a==k)=false:=by simpa using fun z:a=k=>h z.symm
   rw [if_neg h,h']
   by_cases h2:k∈ks
   ·simp only [h2,if_true,or_true,cond_false]
    simp only [ZL,and_true]
    omega
   ·simp [h2,h]
theorem zO:∀(ks:List (List Int)) (s:Nat) (k:List Int),k∉ks→AW (enum ks s) k ((s+ks.length:Nat):Int)=enum (ks++[k]) s
 | [],s,k,_=>rfl
 | a::ks,s,k,h=>by
  have h1:k≠a:=fun z=>h (by simp [z])
  have h2:k∉ks:=fun z=>h (by simp [z])
  simp only [enum,AW,aak,if_neg h1,ZU]
  rw [show s+(ks.length+1)=s+1+ks.length by omega,zO ks (s+1) k h2]
theorem ot {n:Nat}:∀(ks:List (List Int)) (s:Nat) (k:List Int),k.length=n→(∀a∈ks,a.length=n)→tC n (enum ks s) k=true
 | [],s,k,h,_=>by simp [tC,enum,h]
 | a::ks,s,k,h,h2=>by
  have:=ot ks (s+1) k h fun a ha=>h2 a (by simp [ha])
  simp only [tC,ZF,beq_iff_eq,h,true_and] at this ⊢
  simp only [enum,aao,ZF,beq_iff_eq]
  exact⟨h2 a (by simp),this⟩
structure Part (n:Nat)(out:List Int)(many:Nat):Prop where
 len:out.length=n
 lY:∀i,i<n→0≤gt out i∧gt out i≤many
 U3:∀v:Nat,v≤many→∃i,i<n∧gt out i=v
structure qV (l:List ak)(out:List Int)(p:Nat)(ks:List (List Int)):Prop where
 Jh:ks.Nodup
 mem:∀k,k∈ks↔∃i,i<p∧key out (nd l i) i=k
def DB (l:List ak):Prop:=l.length≤8000∧∀n∈l,n.args.length≤8∧∀a∈n.args,0≤a∧a<l.length
theorem Ji {a:Int}{L:List Int}{t:Nat}{v:Int}(hL:L.length=t)(ht:t<8):(a::(L++ZY (8 - t) 0)).set (t+1) v=a::((L++[v])++ZY (8 - (t+1)) 0):=by
 rw [List.set_cons_succ,aaO _ _ (by omega),hL,aaJ,show 8 - t=(8 - (t+1))+1 by omega,List.replicate_succ,List.set_cons_zero,ZV]
 rfl
theorem Hj {m:Nat}{out:List Int}{n:ak}(h8:n.args.length≤8)(ha:∀a∈n.args,0≤a∧a<out.length)(ho:∀i,i<out.length→0≤gt out i∧gt out i<2 ^ 40)(o:Int):∀(f t:Nat),n.args.length - t<f→t≤n.args.length→
  ∃x,aA.l4 m out n f (o::(((n.args.take t).map fun a=>gt out a.toNat+1)++ZY (8 - t) 0)) (t:Int)=some (o::((n.args.map fun a=>gt out a.toNat+1)++ZY (8 - n.args.length) 0),x)
 | 0,t,hf,_=>absurd hf (by omega)
 | f+1,t,hf,ht=>by
  have uI:(2:Nat) ^ 40=1099511627776:=by decide
  have i40:(2:Int) ^ 40=1099511627776:=by decide
  unfold aA.l4
  by_cases h:t<n.args.length
  ·have hx:ix n.args (t:Int)=some (gt n.args t):=gw h
   obtain⟨b0,b1⟩:=ha _ (b8 h)
   obtain⟨c0,c1⟩:=ho (gt n.args t).toNat (by omega)
   have hy:ix out (gt n.args t)=some (gt out (gt n.args t).toNat):=Br (by omega) (by omega)
   have e1:i64.wrap ((t:Int)+1)=((t+1:Nat):Int):=by rw [bU (by omega) (by omega)]; omega
   have hT:((n.args.take t).map fun a=>gt out a.toNat+1).length=t:=by simp; omega
   have hz:∃z,ix (o::(((n.args.take t).map fun a=>gt out a.toNat+1)++ZY (8 - t) 0)) ((t+1:Nat):Int)=some z:=⟨_,gw (by simp; omega)⟩
   obtain⟨z,hz⟩:=hz
   obtain⟨x,ih⟩:=Hj (m:=m) h8 ha ho o f (t+1) (by omega) (by omega)
   have hT1:n.args.take (t+1)=n.args.take t++[gt n.args t]:=by rw [List.take_add_one,eQ h]; rfl
   rw [hT1,Z7] at ih
   rw [if_pos (by simp only [decide_eq_true_eq]; omega),hx,ZB,hy,ZB,e1,hz,ZB,ZQ,bU (x:=gt out (gt n.args t).toNat+1) (by omega) (by omega),Ji hT (by omega)]
   exact⟨x,ih⟩
  ·have:t=n.args.length:=by omega
   subst this
   exact⟨_,by rw [if_neg (by simp),aa9]⟩
theorem uv {out:List Int}{n:ak}{i:Nat}(h8:n.args.length≤8):(key out n i).length=9:=by simp [key]; omega
theorem J8 {l:List ak}(ok:DB l){i:Nat}(h:i<l.length):(nd l i).args.length≤8∧∀a∈(nd l i).args,0≤a∧a<l.length:=ok.2 _ (ls (by omega) (by omega))
theorem Bz {m:Nat}(hm:2 ^ 30≤m){l:List ak}{out:List Int}{many:Nat}(ok:DB l)(P:Part l.length out many)(J9:many<2 ^ 30):∀(f p:Nat) (ks:List (List Int)) (next:List Int),l.length - p<f→p≤l.length→qV l out p ks→next.length=l.length→
  (∀i,i<p→gt next i=(ks.idxOf (key out (nd l i) i):Int))→
  ∃SB next' x,aA.l3 m l out f (enum ks 0) next (p:Int)=some (enum SB 0,next',x)∧qV l out l.length SB∧next'.length=l.length∧∀i,i<l.length→gt next' i=(SB.idxOf (key out (nd l i) i):Int)
 | 0,p,ks,next,hf,_,_,_,_=>absurd hf (by omega)
 | f+1,p,ks,next,hf,hp,K,hn,hg=>by
  have J7:(2:Nat) ^ 30=1073741824:=by decide
  have uI:(2:Nat) ^ 40=1099511627776:=by decide
  have i40:(2:Int) ^ 40=1099511627776:=by decide
  have h8000:=ok.1
  have Io:=P.len
  unfold aA.l3
  by_cases h:p<l.length
  ·obtain⟨n1,n2⟩:=J8 ok h
   obtain⟨r0,r1⟩:=P.lY p h
   have e1:i64.wrap ((p:Int)+1)=((p+1:Nat):Int):=by rw [bU (by omega) (by omega)]; omega
   obtain⟨x,hk⟩:=Hj (m:=m) (out:=out) (n:=nd l p) n1 (by rw [Io]; exact n2) (fun i hi=>by have:=P.lY i (by omega); omega) (gt out p+1) m 0 (by omega) (by omega)
   have hk:aA.l4 m out (nd l p) m [gt out p+1,0,0,0,0,0,0,0,0] 0=some (key out (nd l p) p,x):=hk
   have Pm:=uv (out:=out) (i:=p) n1
   have BX:∀a∈ks,a.length=9:=fun a ha=>by
    obtain⟨i,hi,rfl⟩:=(K.mem a).1 ha
    exact uv (J8 ok (by omega)).1
   have SC:∃z,ix next (p:Int)=some z:=⟨_,gw (by omega)⟩
   obtain⟨z,hz⟩:=SC
   rw [if_pos (by simp only [decide_eq_true_eq]; omega),ur (by omega) (by omega),ZB,gw (by omega),ZB,bU (x:=gt out p+1) (by omega) (by omega),hk,ZB]
   dsimp only
   have hG:IL 9 (enum ks 0) (key out (nd l p) p)=some (if key out (nd l p) p∈ks then (((ks.idxOf (key out (nd l p) p):Nat):Int),true) else (0,false)):=by
    unfold IL; rw [if_pos (ot _ _ _ Pm BX),uu,Z2]
   rw [hG,ZB,e1,hz]
   by_cases hin:key out (nd l p) p∈ks
   ·rw [if_pos hin,if_neg (by simp),ZB,ZB,ZQ]
    refine Bz hm ok P J9 f (p+1) ks _ (by omega) (by omega) ⟨K.Jh,fun k=>⟨fun hk=>?_,fun ⟨i,hi,qA⟩=>?_⟩⟩ (by simpa using hn) (fun i hi=>?_)
    ·obtain⟨i,hi,h⟩:=(K.mem k).1 hk; exact⟨i,by omega,h⟩
    ·by_cases Jj:i=p
     ·subst Jj; rw [←qA]; exact hin
     ·exact (K.mem k).2 ⟨i,by omega,qA⟩
    ·rw [qU (by omega)]
     by_cases Jj:i=p
     ·subst Jj; rw [if_pos rfl]
     ·rw [if_neg Jj]; exact hg i (by omega)
   ·have hS:Nz 9 (enum ks 0) (key out (nd l p) p) (((enum ks 0).length:Nat):Int)=some (enum (ks++[key out (nd l p) p]) 0):=by
     unfold Nz; rw [if_pos (ot _ _ _ Pm BX),nS]
     have:=zO ks 0 _ hin
     rw [Z2] at this
     rw [this]
    have hid:(ks++[key out (nd l p) p]).idxOf (key out (nd l p) p)=ks.length:=by
     rw [List.idxOf_append,if_neg hin,List.idxOf_cons_self,Z2]
    have WW:IL 9 (enum (ks++[key out (nd l p) p]) 0) (key out (nd l p) p)=some (((ks.length:Nat):Int),true):=by
     unfold IL
     rw [if_pos (ot _ _ _ Pm (fun a ha=>by rcases aaa.1 ha with ha | ha; exact BX a ha; simp only [Z1] at ha; rw [ha]; exact Pm)),uu,if_pos (by simp),Z2,hid]
    rw [if_neg hin,if_pos (by simp),hS,ZB,WW,ZB,ZB,ZQ]
    refine Bz hm ok P J9 f (p+1) (ks++[key out (nd l p) p]) _ (by omega) (by omega) ⟨?_,fun k=>⟨fun hk=>?_,fun ⟨i,hi,qA⟩=>?_⟩⟩ (by simpa using hn) (fun i hi=>?_)
    ·rw [aa5]
     refine⟨K.Jh,by simp,fun a ha b hb=>?_⟩
     simp only [Z1] at hb
     subst hb; intro e; subst e; exact hin ha
    ·rcases aaa.1 hk with hk | hk
     ·obtain⟨i,hi,h⟩:=(K.mem k).1 hk; exact⟨i,by omega,h⟩
     ·simp only [Z1] at hk; exact⟨p,by omega,hk.symm⟩
    ·by_cases Jj:i=p
     ·subst Jj; rw [←qA]; simp
     ·exact aat _ ((K.mem k).2 ⟨i,by omega,qA⟩)
    ·rw [qU (by omega)]
     by_cases Jj:i=p
     ·subst Jj; rw [if_pos rfl,hid]
     ·rw [if_neg Jj,List.idxOf_append,if_pos ((K.mem _).2 ⟨i,by omega,rfl⟩)]; exact hg i (by omega)
  ·have:p=l.length:=by omega
   subst this
   exact⟨ks,next,_,by rw [if_neg (by simp)],K,hn,hg⟩
theorem Jk {l:List ak}{out:List Int}{ks:List (List Int)}(K:qV l out l.length ks):ks.length≤l.length:=by
 have:=K.Jh.length_le_of_subset (l₂:=(aa6 l.length).map fun i:Nat=>key out (nd l i) i) (fun k hk=>by
  obtain⟨i,hi,h⟩:=(K.mem k).1 hk
  exact aah.2 ⟨i,List.mem_range.2 hi,h⟩)
 simpa using this
theorem DC {l:List ak}{out:List Int}{many:Nat}{ks:List (List Int)}(P:Part l.length out many)(K:qV l out l.length ks):many+1≤ks.length:=by
 have hn:((aa6 (many+1)).map fun v:Nat=>((v:Int)+1)).Nodup:=by
  unfold List.Nodup
  rw [List.pairwise_map]
  exact List.Pairwise.imp (fun h=>by omega) List.nodup_range
 have:=hn.length_le_of_subset (l₂:=ks.map fun k=>k.headD 0) (fun x hx=>by
  obtain⟨v,hv,rfl⟩:=aah.1 hx
  obtain⟨i,hi,h⟩:=P.U3 v (by have:=List.mem_range.1 hv; omega)
  exact aah.2 ⟨_,(K.mem _).2 ⟨i,hi,rfl⟩,by simp [key,h]⟩)
 simpa using this
theorem ES {l:List ak}{out next:List Int}{many:Nat}{ks:List (List Int)}(P:Part l.length out many)(K:qV l out l.length ks)(hn:next.length=l.length)(hg:∀i,i<l.length→gt next i=(ks.idxOf (key out (nd l i) i):Int)):Part l.length next (ks.length - 1):=by
 have:=DC P K
 refine⟨hn,fun i hi=>?_,fun v hv=>?_⟩
 ·have:=aax ((K.mem _).2 ⟨i,hi,rfl⟩)
  rw [hg i hi]; omega
 ·have hv:v<ks.length:=by omega
  obtain⟨i,hi,h⟩:=(K.mem _).1 (List.getElem_mem hv)
  refine⟨i,hi,?_⟩
  rw [hg i hi,h,K.Jh.idxOf_getElem]
theorem Hk {m:Nat}(hm:2 ^ 30≤m){l:List ak}(ok:DB l)(Inv:List Int→Prop)
  (hI:∀out many ks next,Part l.length out many→Inv out→qV l out l.length ks→next.length=l.length→(∀i,i<l.length→gt next i=(ks.idxOf (key out (nd l i) i):Int))→Inv next):∀(f:Nat) (out:List Int) (many:Nat),l.length - many<f→many<l.length→Part l.length out many→Inv out→
  ∃r Ka ks,aA.l2 m l f out (many:Int)=some (.inl r)∧Part l.length r Ka∧Inv r∧qV l r l.length ks∧ks.length=Ka+1
 | 0,out,many,hf,_,_,_=>absurd hf (by omega)
 | f+1,out,many,hf,hlt,P,I=>by
  have J7:(2:Nat) ^ 30=1073741824:=by decide
  have h8000:=ok.1
  unfold aA.l2
  have e0:E7 8 (l.length:Int) (0:Int)=some (ZY l.length 0):=by unfold E7; rw [if_pos ⟨by omega,by rw [ZQ]; omega⟩,ZQ]
  obtain⟨ks,next,x,h1,K,hn,hg⟩:=Bz hm ok P (by omega) m 0 [] (ZY l.length 0) (by omega) (by omega) ⟨by simp,fun k=>⟨fun h=>by simp at h,fun ⟨i,hi,_⟩=>absurd hi (by omega)⟩⟩ (by simp) (fun i hi=>absurd hi (by omega))
  have h1:aA.l3 m l out m [] (ZY l.length 0) 0=_:=h1
  have g1:=Jk K
  have g2:=DC P K
  rw [e0,ZB,h1,ZB]
  dsimp only
  rw [nS,bU (x:=(many:Int)+1) (by omega) (by omega),bU (x:=(ks.length:Int) - 1) (by omega) (by omega)]
  by_cases h:ks.length=many+1
  ·rw [if_pos (by simp; omega)]
   exact⟨out,many,ks,rfl,P,I,K,h⟩
  ·rw [if_neg (by simp; omega),show (ks.length:Int) - 1=((ks.length - 1:Nat):Int) by omega]
   exact Hk hm ok Inv hI f next (ks.length - 1) (by omega) (by omega) (ES P K hn hg) (hI _ _ _ _ P I K hn hg)
end Go.Proofs.Ytifafejidnjckaa
namespace Go.Proofs.Ytifafejidnjckaa
open Go Go.R
open Go.IntKind (i64 u64 u8 u32)
def ints (n:Nat):List Int:=(aa6 n).map fun k:Nat=>(k:Int)
theorem fF (n:Nat):(ints n).length=n:=by simp [ints]
theorem Jl {n k:Nat}(h:k<n):gt (ints n) k=k:=by
 have h1:=eQ (l:=ints n) (k:=k) (by rw [fF]; exact h)
 have h2:(ints n)[k]? = some (k:Int):=by
  unfold ints
  rw [aau,ZG (by simpa using h)]
  simp
 rw [h2] at h1; exact (aaf h1).symm
theorem jJ {n:Nat}{x:Int}:x∈ints n↔0≤x∧x<n:=by
 unfold ints
 rw [aah]
 constructor
 ·rintro⟨k,hk,rfl⟩; have:=List.mem_range.1 hk; omega
 ·intro h; exact⟨x.toNat,List.mem_range.2 (by omega),by omega⟩
theorem BA (n:Nat):(ints n).Nodup:=by
 unfold ints List.Nodup
 rw [List.pairwise_map]
 exact List.Pairwise.imp (fun h=>by omega) List.nodup_range
theorem L2 {l:List Int}(h:l.Nodup){i j:Nat}(hi:i<l.length)(hj:j<l.length)(e:gt l i=gt l j):i=j:=by
 have h1:=eQ hi
 have h2:=eQ hj
 rw [ZG hi] at h1
 rw [ZG hj] at h2
 have h1:=aaf h1
 have h2:=aaf h2
 exact (List.getElem_inj (h₀:=hi) (h₁:=hj) h).1 (by rw [h1,h2,e])
theorem vV {l:List Int}{x:Int}(h:x∈l):∃k,k<l.length∧gt l k=x:=by
 obtain⟨k,hk,e⟩:=List.getElem_of_mem h
 refine⟨k,hk,?_⟩
 have h1:=eQ hk
 rw [ZG hk,e] at h1
 exact (aaf h1).symm
theorem Hl {m:Nat}{z:List Int}(hz:z.length<2 ^ 40):∀(f i:Nat) (d:List Int),z.length - i<f→i≤z.length→d.length=z.length→(∀k,k<i→gt d k=k)→
  ∃x,aA.l0 m z f d (i:Int)=some (ints z.length,x)
 | 0,i,d,hf,_,_,_=>absurd hf (by omega)
 | f+1,i,d,hf,hi,hd,hg=>by
  have uI:(2:Nat) ^ 40=1099511627776:=by decide
  unfold aA.l0
  by_cases h:i<z.length
  ·obtain⟨v,hv⟩:∃v,ix d (i:Int)=some v:=⟨_,gw (by omega)⟩
   rw [if_pos (by simp only [decide_eq_true_eq]; omega),hv,ZB,ZQ,bU (by omega) (by omega),show (i:Int)+1=((i+1:Nat):Int) by omega]
   refine Hl hz f (i+1) _ (by omega) (by omega) (by simpa using hd) fun k hk=>?_
   rw [qU (by omega)]
   by_cases e:k=i
   ·subst e; rw [if_pos rfl]
   ·rw [if_neg e]; exact hg k (by omega)
  ·refine⟨i,?_⟩
   rw [if_neg (by simp only [decide_eq_true_eq]; omega)]
   have:d=ints z.length:=LX (by rw [fF,hd]) fun k hk=>by rw [hg k (by omega),Jl (by omega)]
   rw [this]
def rk (l:List ak)(d:List Int):Nat→Nat
 | 0=>0
 | k+1=>rk l d k+if cT (nd l (gt d k)) (nd l (gt d (k+1)))=0 then 0 else 1
theorem Hm (l:List ak)(d:List Int):∀k,rk l d k≤k
 | 0=>ZI _
 | k+1=>by have:=Hm l d k; unfold rk; split<;>omega
theorem xP (l:List ak)(d:List Int)(i:Nat):∀j,i≤j→rk l d i≤rk l d j
 | 0,h=>by
   have:i=0:=by omega
   subst this; exact ZI _
 | j+1,h=>by
  by_cases e:i=j+1
  ·subst e; exact ZI _
  ·have:=xP l d i j (by omega)
   show _≤rk l d j+_
   omega
theorem Hn (l:List ak)(d:List Int):∀(j v:Nat),v≤rk l d j→∃k,k≤j∧rk l d k=v
 | 0,v,h=>⟨0,ZI _,by unfold rk at h ⊢; omega⟩
 | j+1,v,h=>by
  by_cases e:v=rk l d (j+1)
  ·exact⟨j+1,ZI _,e.symm⟩
  ·have h2:rk l d (j+1)≤rk l d j+1:=by show rk l d j+_≤_; split<;>omega
   obtain⟨k,hk,e⟩:=Hn l d j v (by omega)
   exact⟨k,by omega,e⟩
theorem Ho {m:Nat}(hm:3≤m){l:List ak}{o d:List Int}(hl:l.length≤8000)(ho:o.length=l.length)(hp:d.Perm (ints l.length)):∀(f p:Nat) (out:List Int),l.length - p<f→p≤l.length→out.length=l.length→(∀k,k<p→gt out (gt d k).toNat=rk l d k)→
  ∃nc x,aA.l1 m l o d f out ((rk l d (p - 1):Nat):Int) (p:Int)=some (nc,((rk l d (l.length - 1):Nat):Int),x)∧nc.length=l.length∧∀k,k<l.length→gt nc (gt d k).toNat=rk l d k
 | 0,p,out,hf,_,_,_=>absurd hf (by omega)
 | f+1,p,out,hf,BP,Oo,hg=>by
  have Su:d.length=l.length:=by rw [hp.length_eq,fF]
  have hd:∀k,k<l.length→0≤gt d k∧gt d k<l.length:=fun k hk=>jJ.1 (hp.mem_iff.1 (b8 (by omega)))
  have Kb:d.Nodup:=hp.symm.nodup (BA _)
  unfold aA.l1
  by_cases h:p<l.length
  ·obtain⟨d0,d1⟩:=hd p h
   have FC:∀k,k<p+1→gt (out.set (gt d p).toNat ((rk l d p:Nat):Int)) (gt d k).toNat=rk l d k:=fun k hk=>by
    rw [qU (by omega)]
    by_cases e:k=p
    ·subst e; rw [if_pos rfl]
    ·have:gt d k≠gt d p:=fun h=>e (L2 Kb (by omega) (by omega) h)
     have:=hd k (by omega)
     rw [if_neg (by omega)]; exact hg k (by omega)
   obtain⟨z,hz⟩:∃z,ix out (gt d p)=some z:=⟨_,Br (k:=(gt d p).toNat) (by omega) (by omega)⟩
   have e1:i64.wrap ((p:Int)+1)=((p+1:Nat):Int):=by rw [bU (by omega) (by omega)]; omega
   have hr:=Hm l d p
   have IH:=Ho hm hl ho hp f (p+1) (out.set (gt d p).toNat ((rk l d p:Nat):Int)) (by omega) (by omega) (by simpa using Oo) FC
   rw [show p+1 - 1=p by omega] at IH
   rw [if_pos (by simp only [decide_eq_true_eq]; omega),gw (by omega),ZB]
   by_cases h0:0<p
   ·obtain⟨q,rfl⟩:∃q,p=q+1:=⟨p - 1,by omega⟩
    obtain⟨q0,q1⟩:=hd q (by omega)
    rw [show q+1 - 1=q by omega]
    have e2:i64.wrap (((q+1:Nat):Int) - 1)=(q:Int):=by rw [bU (by omega) (by omega)]; omega
    rw [if_pos (by simp only [decide_eq_true_eq]; omega),e2,gw (by omega),ZB,ur q0 q1,ZB,ur d0 d1,ZB,xO hm,ZB,hz,e1]
    by_cases hc:cT (nd l (gt d q)) (nd l (gt d (q+1)))=0
    ·have SD:rk l d (q+1)=rk l d q:=by show rk l d q+_=_; rw [if_pos hc]; omega
     rw [if_neg (by simp [hc]),ZB]
     rw [SD] at IH; exact IH
    ·have SD:rk l d (q+1)=rk l d q+1:=by show rk l d q+_=_; rw [if_neg hc]
     rw [if_pos (by simpa using hc),ZB,bU (by omega) (by omega)]
     rw [SD] at IH; exact IH
   ·have:p=0:=by omega
    subst this
    rw [if_neg (by simp),hz,ZB,e1]
    exact IH
  ·have:p=l.length:=by omega
   subst this
   exact⟨out,_,by rw [if_neg (by simp only [decide_eq_true_eq]; omega)],Oo,hg⟩
theorem Jm {m:Nat}(hm:3≤m)(l:List ak):Cm (fun y0 y1=>eH.f m y0 y1 l) (fun x y=>cT (nd l x) (nd l y)) (ints l.length):=fun x hx y hy=>by
 have hx:=jJ.1 hx
 have hy:=jJ.1 hy
 exact Hi hm hx.1 hx.2 hy.1 hy.2
theorem xQ {m:Nat}(hm:2 ^ 41≤m){l:List ak}(ok:DB l)(h1:1≤l.length)(Inv:List Int→Prop)
  (hI0:∀d out,d.Perm (ints l.length)→(Ord (fun x y=>cT (nd l x) (nd l y)) (ints l.length)→Sg (fun x y=>cT (nd l x) (nd l y)) d 0 l.length)→(∀k,k<l.length→gt out (gt d k).toNat=rk l d k)→Inv out)
  (hI:∀out many ks next,Part l.length out many→Inv out→qV l out l.length ks→next.length=l.length→(∀i,i<l.length→gt next i=(ks.idxOf (key out (nd l i) i):Int))→Inv next) :
  ∃r many ks,aA.f m l=some r∧Part l.length r many∧Inv r∧qV l r l.length ks∧ks.length=many+1:=by
 have uI:(2:Nat) ^ 40=1099511627776:=by decide
 have ve:(2:Nat) ^ 41=2199023255552:=by decide
 have J7:(2:Nat) ^ 30=1073741824:=by decide
 have h8000:=ok.1
 have e0:E7 8 (l.length:Int) (0:Int)=some (ZY l.length 0):=by unfold E7; rw [if_pos ⟨by omega,by rw [ZQ]; omega⟩,ZQ]
 unfold aA.f
 obtain⟨x,k1⟩:=Hl (m:=m) (z:=ZY l.length 0) (by simp; omega) m 0 (ZY l.length 0) (by simp; omega) (by omega) rfl (fun k hk=>absurd hk (by omega))
 have k1:aA.l0 m (ZY l.length 0) m (ZY l.length 0) 0=_:=k1
 rw [aa3] at k1
 rw [e0,ZB,k1,ZB]
 dsimp only
 obtain⟨d,k2,hp,hs⟩:=EP hm (l:=ints l.length) (by rw [fF]; omega) (Jm (m:=m) (by omega) l)
 rw [k2,ZB,ZB]
 obtain⟨out,x,k3,ho,hg⟩:=Ho (m:=m) (l:=l) (o:=ints l.length) (d:=d) (by omega) h8000 (fF _) hp m 0 (ZY l.length 0) (by omega) (by omega) (by simp) (fun k hk=>absurd hk (by omega))
 have k3:aA.l1 m l (ints l.length) d m (ZY l.length 0) 0 0=_:=k3
 rw [k3,ZB]
 dsimp only
 rw [fF] at hs
 have Su:d.length=l.length:=by rw [hp.length_eq,fF]
 have hP:Part l.length out (rk l d (l.length - 1)):=by
  refine⟨ho,fun i hi=>?_,fun v hv=>?_⟩
  ·obtain⟨k,hk,e⟩:=vV (hp.mem_iff.2 (jJ.2 (show 0≤(i:Int)∧(i:Int)<l.length by omega)))
   have:=hg k (by omega)
   rw [e,ZQ] at this
   have h2:=xP l d k (l.length - 1) (by omega)
   omega
  ·obtain⟨k,hk,e⟩:=Hn l d _ v hv
   have PF:k<l.length:=by omega
   have:=jJ.1 (hp.mem_iff.1 (b8 (l:=d) (k:=k) (by omega)))
   exact⟨(gt d k).toNat,by omega,by rw [hg k PF,e]⟩
 have TQ:=Hm l d (l.length - 1)
 obtain⟨r,many,ks,k4,P,I,K,BX⟩:=Hk (m:=m) (by omega) ok Inv hI m out (rk l d (l.length - 1)) (by omega) (by omega) hP (hI0 d out hp hs hg)
 rw [k4]
 exact⟨r,many,ks,rfl,P,I,K,BX⟩
end Go.Proofs.Ytifafejidnjckaa
namespace Go.Proofs.Ytifafejidnjckaa
open Go Go.R
open Go.IntKind (i64 u64 u8 u32)
def lR:List Int→Nat→List (Int × Int)
 | [],_=>[]
 | k::ks,s=>(k,(s:Int))::lR ks (s+1)
theorem vW:∀(ks:List Int) (s:Nat) (k:Int),mK (lR ks s) k=if k∈ks then (((s+ks.idxOf k:Nat):Int),true) else (0,false)
 | [],s,k=>rfl
 | a::ks,s,k=>by
  simp only [lR,mK,vW ks (s+1) k,ZZ,List.idxOf_cons]
  by_cases h:k=a
  ·subst h; simp
  ·have h':(a==k)=false:=by simpa using fun z:a=k=>h z.symm
   rw [if_neg h,h']
   by_cases h2:k∈ks
   ·simp only [h2,if_true,or_true,cond_false]
    simp only [ZL,and_true]
    omega
   ·simp [h2,h]
theorem vX:∀(ks:List Int) (s:Nat) (k:Int),k∉ks→yc (lR ks s) k ((s+ks.length:Nat):Int)=lR (ks++[k]) s
 | [],s,k,_=>rfl
 | a::ks,s,k,h=>by
  have h1:k≠a:=fun z=>h (by simp [z])
  have h2:k∉ks:=fun z=>h (by simp [z])
  simp only [lR,yc,aak,if_neg h1,ZU]
  rw [show s+(ks.length+1)=s+1+ks.length by omega,vX ks (s+1) k h2]
def gB (cls:List Int)(a:Int):Int:=gt cls a.toNat
def idx (cls o:List Int)(a:Int):Int:=((o.map (gB cls)).idxOf (gB cls a):Nat)
def xR (cls:List Int)(l:List ak)(o:List Int)(i:Int):ak:=⟨(nd l i).kind,(nd l i).int,(nd l i).label,(nd l i).args.map (idx cls o)⟩
def uw (cls:List Int)(l:List ak):Nat→Int→List Int→List Int
 | 0,_,o=>o
 | k+1,i,o=>if gB cls i∈o.map (gB cls) then o else (nd l i).args.foldl (fun o a=>uw cls l k a o) (o++[i])
structure Vs (cls:List Int)(n:Nat)(o:List Int):Prop where
 Jh:(o.map (gB cls)).Nodup
 lY:∀x∈o,0≤x∧x<n
structure Ps (cls:List Int)(l:List ak)(o o':List Int)(ns BB:List ak):Prop where
 vs:Vs cls l.length o'
 pre:∃t,o'=o++t
 len:BB.length=o'.length
 old:∀k,k<o.length→BB[k]? = ns[k]?
 new:∀k,o.length≤k→k<o'.length→BB[k]? = some (xR cls l o' (gt o' k))
 arg:∀k,o.length≤k→k<o'.length→∀a∈(nd l (gt o' k)).args,gB cls a∈o'.map (gB cls)
theorem Vs.Fe {cls:List Int}{n:Nat}{o:List Int}(v:Vs cls n o):o.length≤n:=by
 have hn:o.Nodup:=by
  have:=v.Jh
  unfold List.Nodup at this ⊢
  rw [List.pairwise_map] at this
  exact List.Pairwise.imp (fun h e=>h (by rw [e])) this
 have:=hn.length_le_of_subset (l₂:=ints n) (fun x hx=>jJ.2 (v.lY x hx))
 rwa [fF] at this
theorem Ps.refl {cls:List Int}{l:List ak}{o:List Int}{ns:List ak}(v:Vs cls l.length o)(h:ns.length=o.length):Ps cls l o o ns ns:=
 ⟨v,⟨[],by simp⟩,h,fun _ _=>rfl,fun k h1 h2=>by omega,fun k h1 h2=>by omega⟩
theorem qW {a b:List Int}{k:Nat}(h:k<a.length):gt (a++b) k=gt a k:=by
 unfold gt; rw [ZW,ZW,ZS h]
theorem pk {cls o t:List Int}{a:Int}(h:gB cls a∈o.map (gB cls)):idx cls (o++t) a=idx cls o a:=by
 unfold idx; rw [Z7,List.idxOf_append,if_pos h]
theorem zP {cls:List Int}{l:List ak}{o t:List Int}{i:Int}(h:∀a∈(nd l i).args,gB cls a∈o.map (gB cls)):xR cls l (o++t) i=xR cls l o i:=by
 unfold xR
 congr 1
 exact aaT fun a ha=>pk (h a ha)
theorem Ps.trans {cls:List Int}{l:List ak}{o o1 o2:List Int}{ns n1 n2:List ak}(a:Ps cls l o o1 ns n1)(b:Ps cls l o1 o2 n1 n2):Ps cls l o o2 ns n2:=by
 obtain⟨t1,rfl⟩:=a.pre
 obtain⟨t2,rfl⟩:=b.pre
 have hl:(o++t1).length=o.length+t1.length:=by simp
 refine⟨b.vs,⟨t1++t2,by simp⟩,b.len,fun k hk=>(b.old k (by omega)).trans (a.old k hk),fun k h1 h2=>?_,fun k h1 h2 x hx=>?_⟩
 ·by_cases h:k<(o++t1).length
  ·rw [b.old k h,a.new k h1 h,qW h,zP (a.arg k h1 h)]
  ·exact b.new k (by omega) h2
 ·by_cases h:k<(o++t1).length
  ·rw [qW h] at hx
   rw [Z7]
   exact aat _ (a.arg k h1 h x hx)
  ·exact b.arg k (by omega) h2 x hx
section
variable {m:Nat}{cls:List Int}{l:List ak}{root:Int}
abbrev Oq:=Int→(List (Int × Int))→(List Int)→bg→bg→Option (Int × (List (Int × Int)) × bg)
def Kc (cls:List Int)(l:List ak)(root:Int)(rec:Oq)(df:Int→List Int→List Int)(need:Nat):Prop:=∀(i:Int) (o:List Int) (ns:List ak),0≤i→i<l.length→Vs cls l.length o→ns.length=o.length→l.length<need+o.length→
 ∃BB,rec i (lR (o.map (gB cls)) 0) cls ⟨ns,0⟩ ⟨l,root⟩=some (idx cls (df i o) i,lR ((df i o).map (gB cls)) 0,⟨BB,0⟩)∧Ps cls l o (df i o) ns BB∧gB cls i∈(df i o).map (gB cls)
theorem Hp {rec:Oq}{df:Int→List Int→List Int}{need:Nat}(hm:2 ^ 30≤m)(ok:DB l)(V:Kc cls l root rec df need){v:ak}(h8:v.args.length≤8)(ha:∀a∈v.args,0≤a∧a<l.length){o0:List Int}{U4:List ak}(Ot:l.length<need+o0.length):∀(f t:Nat) (o:List Int) (ns:List ak),v.args.length - t<f→t≤v.args.length→Ps cls l o0 o U4 ns→(∀a∈v.args.take t,gB cls a∈o.map (gB cls))→
  ∃o' BB x,o'=(v.args.drop t).foldl (fun o a=>df a o) o∧bk.l0 m cls ⟨l,root⟩ rec v f ((v.args.take t).map (idx cls o)) (t:Int) (lR (o.map (gB cls)) 0) ⟨ns,0⟩=some (v.args.map (idx cls o'),x,lR (o'.map (gB cls)) 0,⟨BB,0⟩)∧Ps cls l o0 o' U4 BB∧∀a∈v.args,gB cls a∈o'.map (gB cls)
 | 0,t,o,ns,hf,_,_,_=>absurd hf (by omega)
 | f+1,t,o,ns,hf,ht,P,hin=>by
  have J7:(2:Nat) ^ 30=1073741824:=by decide
  unfold bk.l0
  by_cases h:t<v.args.length
  ·obtain⟨b0,b1⟩:=ha _ (b8 h)
   have Zk:o0.length≤o.length:=by obtain⟨s,rfl⟩:=P.pre; simp
   obtain⟨WX,k1,P1,OY⟩:=V (gt v.args t) o ns b0 b1 P.vs P.len (by omega)
   obtain⟨s,hs⟩:=P1.pre
   have hT1:v.args.take (t+1)=v.args.take t++[gt v.args t]:=by rw [List.take_add_one,eQ h]; rfl
   have hD:v.args.drop t=gt v.args t::v.args.drop (t+1):=by
    obtain⟨h4,h5⟩:=ZH.1 (eQ h)
    rw [←h5]; exact ZP h4
   have SE:∀a∈v.args.take (t+1),gB cls a∈(df (gt v.args t) o).map (gB cls):=fun a ha=>by
    rw [hT1] at ha
    rcases aaa.1 ha with ha | ha
    ·rw [hs,Z7]; exact aat _ (hin a ha)
    ·simp only [Z1] at ha; subst ha; exact OY
   obtain⟨o',BB,x,e,k2,P2,h2⟩:=Hp hm ok V h8 ha Ot f (t+1) (df (gt v.args t) o) WX (by omega) (by omega) (P.trans P1) SE
   refine⟨o',BB,x,by rw [hD]; exact e,?_,P2,h2⟩
   have e1:i64.wrap ((t:Int)+1)=((t+1:Nat):Int):=by rw [bU (by omega) (by omega)]; omega
   have Mu:app 8 ((v.args.take t).map (idx cls o)) [idx cls (df (gt v.args t) o) (gt v.args t)]=some ((v.args.take (t+1)).map (idx cls (df (gt v.args t) o))):=by
    unfold app
    rw [if_pos (by simp; omega),hT1,Z7]
    congr 2
    exact aaT fun a ha=>by rw [hs]; exact (pk (hin a ha)).symm
   rw [if_pos (by simp only [decide_eq_true_eq]; omega),gw h,ZB,k1,ZB,Mu,ZB,e1]
   exact k2
  ·have:t=v.args.length:=by omega
   subst this
   rw [aa9] at hin ⊢
   exact⟨o,ns,_,by rw [List.drop_length]; rfl,by rw [if_neg (by simp)],P,hin⟩
theorem ux (hm:2 ^ 30≤m)(ok:DB l)(hc:cls.length=l.length):∀k,Kc cls l root (bk.f m k) (uw cls l k) k
 | 0=>fun i o ns h0 h1 v hl hn=>absurd v.Fe (by omega)
 | k+1=>fun i o ns h0 h1 v hl hn=>by
  have J7:(2:Nat) ^ 30=1073741824:=by decide
  have h8000:=ok.1
  have WY:=v.Fe
  show ∃BB,bk.b m (bk.f m k) i (lR (o.map (gB cls)) 0) cls ⟨ns,0⟩ ⟨l,root⟩=_∧_
  unfold bk.b
  have hx:ix cls i=some (gB cls i):=Br (by omega) (by omega)
  rw [hx,ZB,vW,Z2]
  by_cases h:gB cls i∈o.map (gB cls)
  ·have hd:uw cls l (k+1) i o=o:=by unfold uw; rw [if_pos h]
   rw [hd,if_pos h]
   exact⟨ns,rfl,Ps.refl v hl,h⟩
  ·have hd:uw cls l (k+1) i o=(nd l i).args.foldl (fun o a=>uw cls l k a o) (o++[i]):=by
    show (if gB cls i∈o.map (gB cls) then o else (nd l i).args.foldl (fun o a=>uw cls l k a o) (o++[i]))=_
    rw [if_neg h]
   have v1:Vs cls l.length (o++[i]):=by
    refine⟨?_,fun x hx=>?_⟩
    ·rw [Z7,aa5]
     refine⟨v.Jh,by simp,fun a ha b hb=>?_⟩
     simp only [Z0,aa8,Z1] at hb
     subst hb; intro e; subst e; exact h ha
    ·rcases aaa.1 hx with hx | hx
     ·exact v.lY x hx
     ·simp only [Z1] at hx; subst hx; exact⟨h0,h1⟩
   have Ou:=v1.Fe
   simp only [ZM,ZU,Z8] at Ou
   have Mu:app 56 ns [(⟨(nd l i).kind,(nd l i).int,(nd l i).label,[]⟩:ak)]=some (ns++[⟨(nd l i).kind,(nd l i).int,(nd l i).label,[]⟩]):=by
    unfold app; rw [if_pos (by simp; omega)]
   have Ng:yc (lR (o.map (gB cls)) 0) (gB cls i) ((ns.length:Nat):Int)=lR ((o++[i]).map (gB cls)) 0:=by
    have:=vX (o.map (gB cls)) 0 (gB cls i) h
    rw [Z2,ZR,←hl] at this
    rw [this,Z7]; rfl
   obtain⟨n1,n2⟩:=ok.2 _ (ls h0 h1)
   have P0:Ps cls l (o++[i]) (o++[i]) (ns++[⟨(nd l i).kind,(nd l i).int,(nd l i).label,[]⟩]) (ns++[⟨(nd l i).kind,(nd l i).int,(nd l i).label,[]⟩]):=Ps.refl v1 (by simp [hl])
   obtain⟨o',BB,x,e,k2,P2,h2⟩:=Hp (m:=m) (v:=nd l i) (need:=k) hm ok (ux hm ok hc k) n1 n2 (o0:=o++[i]) (by simp; omega) m 0 (o++[i]) _ (by omega) (by omega) P0 (fun a ha=>by simp at ha)
   rw [aam] at e
   rw [List.take_zero,aa8] at k2
   have k2:bk.l0 m cls ⟨l,root⟩ (bk.f m k) (nd l i) m [] 0 _ _=_:=k2
   obtain⟨s,hs⟩:=P2.pre
   have Io:o.length<o'.length:=by rw [hs]; simp
   have Ov:BB[o.length]? = some ⟨(nd l i).kind,(nd l i).int,(nd l i).label,[]⟩:=by
    rw [P2.old _ (by simp),←hl,ZT (ZI _),aaJ]; rfl
   have SC:ix BB ((ns.length:Nat):Int)=some ⟨(nd l i).kind,(nd l i).int,(nd l i).label,[]⟩:=by
    unfold ix; rw [if_pos (by omega),ZQ,hl,Ov]
   have U5:gt o' o.length=i:=by
    rw [hs,qW (by simp)]
    unfold gt; rw [ZW,ZT (ZI _),aaJ]; rfl
   have SF:idx cls o' i=(o.length:Nat):=by
    rw [hs,pk (by simp)]
    unfold idx
    rw [Z7,List.idxOf_append,if_neg h]; simp
   rw [hd,←e,if_neg h,if_neg (by simp),ZB,ur h0 h1,ZB,Mu,ZB,Ng,k2,ZB]
   dsimp only
   rw [SC,ZB,ZQ,SF,hl]
   refine⟨_,rfl,⟨P2.vs,⟨[i]++s,by rw [hs]; simp⟩,by simpa using P2.len,fun q hq=>?_,fun q h3 h4=>?_,fun q h3 h4 a ha=>?_⟩,by rw [hs]; simp⟩
   ·rw [List.getElem?_set_ne (by omega),P2.old q (by simp; omega),ZS (by omega)]
   ·by_cases hq:q=o.length
    ·subst hq
     rw [List.getElem?_set_self (by rw [P2.len]; omega),U5]; rfl
    ·rw [List.getElem?_set_ne (by omega)]
     exact P2.new q (by simp; omega) h4
   ·by_cases hq:q=o.length
    ·subst hq; rw [U5] at ha; exact h2 a ha
    ·exact P2.arg q (by simp; omega) h4 a ha
end
theorem BC {m:Nat}(hm:2 ^ 41≤m){t:bg}(ok:DB t.nodes)(h1:1≤t.nodes.length)(r0:0≤t.root)(r1:t.root<t.nodes.length)(Inv:List Int→Prop)
  (hI0:∀d out,d.Perm (ints t.nodes.length)→(Ord (fun x y=>cT (nd t.nodes x) (nd t.nodes y)) (ints t.nodes.length)→Sg (fun x y=>cT (nd t.nodes x) (nd t.nodes y)) d 0 t.nodes.length)→(∀k,k<t.nodes.length→gt out (gt d k).toNat=rk t.nodes d k)→Inv out)
  (hI:∀out many ks next,Part t.nodes.length out many→Inv out→qV t.nodes out t.nodes.length ks→next.length=t.nodes.length→(∀i,i<t.nodes.length→gt next i=(ks.idxOf (key out (nd t.nodes i) i):Int))→Inv next) :
  ∃cls many ks ns,dJ.f m t=some ⟨ns,0⟩∧Part t.nodes.length cls many∧Inv cls∧qV t.nodes cls t.nodes.length ks∧ks.length=many+1∧Ps cls t.nodes [] (uw cls t.nodes m t.root []) [] ns∧gB cls t.root∈(uw cls t.nodes m t.root []).map (gB cls):=by
 have J7:(2:Nat) ^ 30=1073741824:=by decide
 have ve:(2:Nat) ^ 41=2199023255552:=by decide
 have h8000:=ok.1
 obtain⟨cls,many,ks,k1,P,I,K,BX⟩:=xQ hm ok h1 Inv hI0 hI
 obtain⟨ns,k2,P2,h2⟩:=ux (m:=m) (root:=t.root) (by omega) ok P.len m t.root [] [] r0 r1 ⟨by simp,fun x hx=>by simp at hx⟩ rfl (by simp; omega)
 refine⟨cls,many,ks,ns,?_,P,I,K,BX,P2,h2⟩
 unfold dJ.f
 have k2:bk.f m m t.root [] cls ⟨[],0⟩ t=_:=k2
 rw [k1,ZB,k2]; rfl
end Go.Proofs.Ytifafejidnjckaa
namespace Go.Proofs.Ytifafejidnjckaa
open Go Go.R
open Go.IntKind (i64 u64 u8 u32)
end Go.Proofs.Ytifafejidnjckaa
namespace Go.Proofs.Ytifafejidnjckaa
open Go Go.R
open Go.IntKind (i64 u64 u8 u32)
end Go.Proofs.Ytifafejidnjckaa
namespace Go.Proofs.Ytifafejidnjckaa
open Go Go.R
open Go.IntKind (i64 u64 u8 u32)
end Go.Proofs.Ytifafejidnjckaa
namespace Go.Proofs.Ytifafejidnjckaa
open Go Go.R
open Go.IntKind (i64 u64 u8 u32)
end Go.Proofs.Ytifafejidnjckaa
namespace Go.Proofs.Ytifafejidnjckaa
open Go Go.R
open Go.IntKind (i64 u64 u8 u32)
end Go.Proofs.Ytifafejidnjckaa
namespace Go.Proofs.Ytifafejidnjckaa
open Go Go.R
open Go.IntKind (i64 u64 u8 u32)
end Go.Proofs.Ytifafejidnjckaa
namespace Go.Proofs.Ytifafejidnjckaa
open Go Go.R
open Go.IntKind (i64 u64 u8 u32)
theorem Hq {s:ByteArray}(h:(s.data.toList==[])=true):s=aaq #[]:=by
 have h:=beq_iff_eq.1 h
 cases s with
 | mk d=>
  cases d with
  | mk l=>simp only at h; subst h; rfl
theorem Ow {l:List Int}(h:l.isEmpty=true):l=[]:=by cases l with | nil=>rfl | cons=>cases h
structure ET (n:ak):Prop where
 kind:n.kind=0∧0≤n.int∧n.label=aaq #[]∧n.args=[]∨n.kind=1∧(-1099511627776≤n.int∧n.int≤1099511627776)∧n.label=aaq #[]∧n.args=[]∨n.kind=2∧n.int=0∧n.args=[]∨n.kind=3∧n.int=0∨n.kind=4∧n.args=[]
 label:n.kind=2∨n.kind=3→1≤n.label.size∧n.label.size≤16
 args:n.args.length≤8
theorem lS {n:ak}{size:Int}(h:fN n size=true):ET n∧∀a∈n.args,0≤a∧a<size:=by
 unfold fN at h
 split at h
 ·rename_i k
  simp only [ZF,decide_eq_true_eq] at h
  have ha:=Ow h.2
  exact⟨⟨.inl ⟨k,h.1.1,Hq h.1.2,ha⟩,fun z=>by omega,by rw [ha]; decide⟩,fun a h=>by rw [ha] at h; cases h⟩
 split at h
 ·rename_i k
  simp only [ZF,decide_eq_true_eq] at h
  have ha:=Ow h.2
  exact⟨⟨.inr (.inl ⟨k,h.1.1,Hq h.1.2,ha⟩),fun z=>by omega,by rw [ha]; decide⟩,fun a h=>by rw [ha] at h; cases h⟩
 split at h
 ·rename_i k
  simp only [ZF,beq_iff_eq] at h
  have ha:=Ow h.2
  exact⟨⟨.inr (.inr (.inl ⟨k,h.1.1,ha⟩)),fun z=>vT h.1.2,by rw [ha]; decide⟩,fun a h=>by rw [ha] at h; cases h⟩
 split at h
 ·rename_i k
  simp only [ZF,beq_iff_eq,decide_eq_true_eq,ZX] at h
  exact⟨⟨.inr (.inr (.inr (.inl ⟨k,h.1.1.1.1⟩))),fun z=>vT h.1.1.1.2,h.1.2⟩,h.2⟩
 split at h
 ·rename_i k
  simp only [ZF,decide_eq_true_eq] at h
  have ha:=Ow h.2
  exact⟨⟨.inr (.inr (.inr (.inr ⟨k,ha⟩))),fun z=>by omega,by rw [ha]; decide⟩,fun a h=>by rw [ha] at h; cases h⟩
 ·cases h
theorem jx {t:bg}(h:gz t=true):DB t.nodes∧1≤t.nodes.length∧0≤t.root∧t.root<t.nodes.length∧∀n∈t.nodes,ET n:=by
 unfold gz at h
 simp only [ZF,decide_eq_true_eq,ZX] at h
 obtain⟨⟨⟨⟨h1,h2⟩,h3⟩,h4⟩,h5⟩:=h
 exact⟨⟨h2,fun n hn=>⟨(lS (h5 n hn)).1.args,(lS (h5 n hn)).2⟩⟩,h1,h3,h4,fun n hn=>(lS (h5 n hn)).1⟩
end Go.Proofs.Ytifafejidnjckaa
namespace Go.Proofs.Ytifafejidnjckaa
open Go Go.R Go.Uf
open Go.IntKind (i64 u64 u8 u32)
section
variable {m:Nat}{s s':ab}
theorem qX {f:Int→Option Bool}{g:Int→Bool}(l:List Int)(hl:l.length≤1000000)(hf:∀x∈l,f x=some (g x)):∀(k:Nat) (s1:List Int) (i j:Nat),i≤j→i<l.length→j≤l.length→l.length - j<k→s1.length=l.length→s1.take i=(l.take j).filter (fun x=>!g x)→s1.drop j=l.drop j→
  ∃(s2:List Int) (i2:Nat) (z:Int),eG.l0 m l f k s1 (i:Int) (j:Int)=some (s2,(i2:Int),z)∧i2≤l.length∧s2.length=l.length∧s2.take i2=l.filter (fun x=>!g x)
 | 0,s1,i,j,h1,_,h2,h3,_,_,_=>by omega
 | k+1,s1,i,j,h1,h0,h2,h3,h4,h5,h6=>by
  simp only [eG.l0]
  by_cases hj:j<l.length
  ·have d:decide ((j:Int)<(l.length:Int))=true:=by rw [decide_eq_true_eq]; omega
   have el:=ZG hj
   have e1:s1[j]? = some l[j]:=by
    have:=congrArg (fun z=>z[0]?) h6
    simp only [List.getElem?_drop,aaW] at this
    rw [this,el]
   have et:l.take (j+1)=l.take j++[l[j]]:=(aan hj)
   have SG:i64.wrap ((j:Int)+1)=((j+1:Nat):Int):=by rw [jT (by omega) (by omega)]; omega
   have WZ:i64.wrap ((i:Int)+1)=((i+1:Nat):Int):=by rw [jT (by omega) (by omega)]; omega
   have hd:∀s3:List Int,s3.drop j=l.drop j→s3.drop (j+1)=l.drop (j+1):=fun s3 h=>by
    rw [aa7,←List.drop_drop,←List.drop_drop] at *
    rw [aa7] at *
    have a1:(s3.drop j).drop 1=(l.drop j).drop 1:=by rw [h]
    simpa [List.drop_drop,aa7] using a1
   rw [if_pos d,uj e1]
   simp only [ZB,hf _ (ZK el),SG,WZ]
   cases hg:g l[j] with
   | true=>
    rw [if_neg (by decide)]
    exact qX l hl hf k s1 i (j+1) (by omega) h0 (by omega) (by omega) h4 (by rw [et,List.filter_append,h5]; simp [hg]) (hd s1 h6)
   | false=>
    rw [if_pos (by decide)]
    have i1:i<s1.length:=by omega
    have e2:=ZG i1
    rw [uj e2,ZB,ZQ]
    by_cases hi:i+1<l.length
    ·refine qX l hl hf k (s1.set i l[j]) (i+1) (j+1) (by omega) hi (by omega) (by omega) (by rw [ZO,h4]) ?_ ?_
     ·rw [et,List.filter_append,←h5]
      have:(s1.set i l[j]).take (i+1)=s1.take i++[l[j]]:=by
       rw [aan (by rw [ZO]; exact i1)]
       rw [List.take_set_of_le (ZI _),List.getElem_set_self]
      rw [this]; simp [hg]
     ·rw [List.drop_set_of_lt (by omega)]
      exact hd s1 h6
    ·
     have H3:j+1=l.length:=by omega
     have Ah:i=j:=by omega
     cases k with
     | zero=>omega
     | succ k=>
      simp only [eG.l0]
      have d2:decide (((j+1:Nat):Int)<(l.length:Int))=false:=by rw [decide_eq_false_iff_not]; omega
      rw [if_neg (by rw [d2]; decide)]
      refine⟨_,i+1,_,rfl,by omega,by rw [ZO,h4],?_⟩
      have:(s1.set i l[j]).take (i+1)=s1.take i++[l[j]]:=by
       rw [aan (by rw [ZO]; exact i1)]
       rw [List.take_set_of_le (ZI _),List.getElem_set_self]
      have Ox:l=l.take j++[l[j]]:=by rw [←et,H3,aa9]
      rw [this,h5]
      conv=>rhs; rw [Ox]
      rw [List.filter_append]; simp [hg]
  ·have d:decide ((j:Int)<(l.length:Int))=false:=by rw [decide_eq_false_iff_not]; omega
   rw [if_neg (by rw [d]; decide)]
   have H3:j=l.length:=by omega
   refine⟨_,i,_,rfl,by omega,h4,?_⟩
   rw [h5,H3,aa9]
theorem Hr {f:Int→Option Bool}{g:Int→Bool}(hm:2000000≤m)(l:List Int)(hl:l.length≤1000000)(hf:∀x∈l,f x=some (g x)):eG.f m l f=some (l.filter fun x=>!g x):=by
 unfold eG.f
 rcases Dw hm l hl hf with⟨j,e,j1,j2,j3⟩| ⟨e,h⟩
 ·rw [e,ZB]
  have hne:((j:Int) == -1)=false:=by rw [beq_eq_false_iff_ne]; omega
  have SG:i64.wrap ((j:Int)+1)=((j+1:Nat):Int):=by rw [jT (by omega) (by omega)]; omega
  have el:=ZG j1
  obtain⟨s2,i2,z,e2,g1,g2,g3⟩:=qX (m:=m) l hl hf m l j (j+1) (by omega) j1 (by omega) (by omega) rfl (by
   rw [aan j1,List.filter_append]
   have:(l.take j).filter (fun x=>!g x)=l.take j:=by
    rw [List.filter_eq_self]
    intro x hx
    obtain⟨q,hq⟩:=aav hx
    have Sz:q<j:=by
     have:=(ZH.1 hq).1
     rw [aaw] at this; omega
    rw [List.getElem?_take_of_lt Sz] at hq
    rw [j3 q Sz x hq]; rfl
   rw [this]; simp [j2 _ el]) rfl
  rw [hne,if_neg (by decide),SG,e2]
  simp only [ZB]
  have hc:MA s2 (i2:Int)=some (s2.take i2++ZY (s2.length - i2) 0):=by
   unfold MA; rw [if_pos ⟨aaY _,by omega⟩,ZQ]
  rw [hc,ZB]
  have hs:J0 (s2.take i2++ZY (s2.length - i2) 0) 0 (i2:Int)=some (s2.take i2):=by
   unfold J0
   rw [if_pos ⟨Int.le_refl _,aaY _,by rw [ZM,aaw,aa3]; omega⟩]
   congr 1
   simp only [ZQ,Int.toNat_zero,aam,Nat.sub_zero]
   rw [Z9 (by rw [aaw]; omega),List.take_take,Nat.min_self]
  rw [hs,g3]; rfl
 ·rw [e,ZB]
  have hb:((-1:Int) == -1)=true:=rfl
  rw [hb,if_pos rfl]
  congr 1
  rw [eq_comm,List.filter_eq_self]
  intro x hx; rw [h x hx]; rfl
def xS (N:List ak)(l:List Int):List Int:=lJ (l.filter fun n=>(de N n).kind==0)
theorem sE (hm:2000000≤m){l:List Int}(hl:l.length≤8000)(hr:∀n∈l,Rg s.aa.length n):dm.f m s l=some (xS s.aa l):=by
 unfold dm.f
 have h1:E7 8 (l.length:Int) (0:Int)=some (ZY l.length 0):=by
  unfold E7; rw [if_pos ⟨aaY _,by rw [ZQ]; omega⟩,ZQ]
 have h2:NN (ZY l.length (0:Int)) l=some l:=by
  unfold NN; rw [if_pos (by rw [aa3]; exact ZI _)]; simp
 rw [h1,ZB,h2,ZB]
 rw [Hr hm l (by omega) (g:=fun n=>!((de s.aa n).kind==0)) (fun x hx=>by simp only [dH.f,Bq (hr x hx),ZB])]
 simp only [ZB,Bool.not_not]
 rfl
theorem uy (hm:2000000≤m)(v:Inv s)(c:Cl s.aa (rp s.ae)){a b:Int}(ha:Rg s.aa.length a)(hb:Rg s.aa.length b) :
  ∃l ok s',aB.f m s a b=some (l,ok,s')∧Ds s s' l∧Inv s'∧l.length≤8000∧
   (ok=false→∀T,Cl s.aa T→gN s.aa (rp s.ae) T→T a=T b→False)∧
   (ok=true→Cl s.aa (rp s'.ae)∧gN s.aa (rp s.ae) (rp s'.ae)∧rp s'.ae a=rp s'.ae b∧∀T,Cl s.aa T→gN s.aa (rp s.ae) T→T a=T b→gN s.aa (rp s'.ae) T):=by
 have n1:=xG s.ae
 have n2:=v.len
 have n3:=v.max
 obtain⟨out,e1,e2⟩:=qT (m:=m) (by omega) m s [] [⟨a,b⟩] 0 (by simp) (by simp only [ZU,Z8]; omega) (by simp only [ZU,Z8]; omega) (by simp) v
  (fun p hp=>by simp only [Z1] at hp; subst hp; exact⟨ha,hb⟩) (by
   rw [aam]; exact Jd c v.args)
 have e1:aB.l0 m m [] [⟨a,b⟩] 0 s=some out:=e1
 unfold aB.f
 rw [e1,ZB]
 match out,e2 with
 | .inl (G3,b',s'),⟨uG,l,e,u,v',hl,hT⟩=>
  subst uG
  rw [aal] at e hl
  subst e
  exact⟨G3,false,s',rfl,u,v',hl,fun _ T cT sT pT=>hT T cT sT fun p hp=>by
   simp only [aam,Z0,aa8,Z1] at hp; subst hp; exact pT,fun h=>by cases h⟩
 | .inr (G3,J6,i',s'),⟨l,e,u,v',hl,hc,hs,hq,hT⟩=>
  rw [aal] at e hl
  subst e
  exact⟨G3,true,s',rfl,u,v',hl,(fun h=>by cases h),fun _=>⟨hc,hs,hq (a,b) (by simp [yf]),fun T cT sT pT=>hT T cT sT fun p hp=>by
   simp only [aam,Z0,aa8,Z1] at hp; subst hp; exact pT⟩⟩
def W2 (N:List ak):Prop:=∀n,Rg N.length n→fN (de N n) N.length=true∧((de N n).kind=0→(de N n).int=n)
structure Inv2 (s:ab):Prop where
 inv:Inv s
 cl:Cl s.aa (rp s.ae)
 vn:W2 s.aa
def iy (s:ab)(l:List Int):Bool:=l.all fun n=>decide (Rg s.aa.length n)
theorem qY {a b:Int}(h:iy s [a,b]=true):Rg s.aa.length a∧Rg s.aa.length b:=by
 simpa [iy] using h
theorem Jn (hm:2000000≤m)(v:Inv2 s)(a b:Int):∃l e s',b6.f m s a b=some (l,e,s')∧Inv2 s'∧s'.aj=s.aj∧s'.aa=s.aa∧
  ((iy s [a,b]=false∧e=1∧s'=s)∨
   (iy s [a,b]=true∧e=8∧s'=s∧∀T,Cl s.aa T→gN s.aa (rp s.ae) T→T a=T b→False)∨
   (iy s [a,b]=true∧e=0∧gN s.aa (rp s.ae) (rp s'.ae)∧rp s'.ae a=rp s'.ae b∧∀T,Cl s.aa T→gN s.aa (rp s.ae) T→T a=T b→gN s.aa (rp s'.ae) T)):=by
 unfold b6.f
 rw [og hm v.inv.made [a,b] (by simp)]
 show ∃l e s',((some (if iy s [a,b]=true then (0:Int) else 1)).bind _)=_∧_
 rw [ZB]
 cases hn:iy s [a,b] with
 | false=>
  refine⟨[],1,s,by simp,v,rfl,rfl,.inl ⟨rfl,rfl,rfl⟩⟩
 | true=>
  obtain⟨ra,rb⟩:=qY hn
  obtain⟨l,ok,s',e,u,v',hl,h1,h2⟩:=uy hm v.inv v.cl ra rb
  have e0:(!((if true=true then (0:Int) else 1)==0))=false:=rfl
  rw [e0,if_neg (by decide),e,ZB]
  cases ok with
  | false=>
   rw [if_pos (show (!(l,false,s').2.1)=true from rfl)]
   simp only [xM (m:=m) (by omega) hl u,ZB]
   exact⟨_,_,s,rfl,v,rfl,rfl,.inr (.inl ⟨by simp,rfl,rfl,h1 rfl⟩)⟩
  | true=>
   rw [if_neg (show ¬(!(l,true,s').2.1)=true by simp)]
   have eN:s'.aa=s.aa:=u.2.1
   simp only []
   rw [sE hm hl (fun n hn=>by rw [eN,←v.inv.len]; exact (u.2.2.2.1 n hn).1)]
   obtain⟨k1,k2,k3,k4⟩:=h2 rfl
   exact⟨_,_,s',rfl,⟨v',by rw [eN]; exact k1,by rw [eN]; exact v.vn⟩,u.1,eN,.inr (.inr ⟨by simp,rfl,k2,k3,k4⟩)⟩
theorem L3 (hm:2000000≤m)(v:Inv2 s)(a b:Int):∃t l e,bT.f m s a b=some (t,l,e,s):=by
 unfold bT.f
 rw [og hm v.inv.made [a,b] (by simp)]
 show ∃t l e,((some (if iy s [a,b]=true then (0:Int) else 1)).bind _)=_
 rw [ZB]
 cases hn:iy s [a,b] with
 | false=>exact⟨0,[],1,by simp⟩
 | true=>
  obtain⟨ra,rb⟩:=qY hn
  obtain⟨l,ok,s',e,u,v',hl,h1,h2⟩:=uy hm v.inv v.cl ra rb
  have e0:(!((if true=true then (0:Int) else 1)==0))=false:=rfl
  rw [e0,if_neg (by decide),e,ZB]
  simp only [xM (m:=m) (by omega) hl u,ZB]
  rw [sE hm hl (fun n hn=>by rw [←v.inv.len]; exact (u.2.2.2.1 n hn).1)]
  simp only [ZB]
  cases ok with
  | false=>exact⟨0,[],0,by simp⟩
  | true=>
   rw [if_neg (by simp)]
   split
   ·exact⟨_,_,_,rfl⟩
   ·exact⟨_,_,_,rfl⟩
theorem Oy (hm:2000000≤m)(v:Inv s)(n:Int):eM.f m s n=some (if Rg s.aa.length n then (rp s.ae n,0) else (0,1)):=by
 unfold eM.f
 rw [og hm v.made [n] (by simp)]
 by_cases h:Rg s.aa.length n
 ·simp [h,vQ (m:=m) (by omega) v h]
 ·simp [h]
end
end Go.Proofs.Ytifafejidnjckaa
namespace Go.Proofs.Ytifafejidnjckaa
open Go Go.R
open Go.IntKind (i64 u64 u8 u32)
theorem uz:∀(x:List UInt8),Op.bytesLess x x=false
 | []=>rfl
 | a::x=>by simp [Op.bytesLess,uz x]
theorem xT:∀(x y:List UInt8),Op.bytesLess x y=true→Op.bytesLess y x=false
 | _,[],h=>by cases ‹List UInt8›<;>simp [Op.bytesLess] at h
 | [],b::y,_=>rfl
 | a::x,b::y,h=>by
  simp only [Op.bytesLess,aar,ZF,decide_eq_true_eq,beq_iff_eq] at h
  simp only [Op.bytesLess,Bool.or_eq_false_iff,Bool.and_eq_false_iff,decide_eq_false_iff_not,beq_eq_false_iff_ne]
  rcases h with h | ⟨rfl,h⟩
  ·refine⟨fun h2=>?_,.inl fun e=>?_⟩
   ·rw [aaQ] at h h2; omega
   ·subst e; rw [aaQ] at h; omega
  ·exact⟨by rw [aaQ]; omega,.inr (xT x y h)⟩
theorem Hs:∀(x y:List UInt8),Op.bytesLess x y=true∨x=y∨Op.bytesLess y x=true
 | [],[]=>.inr (.inl rfl)
 | [],b::y=>.inl rfl
 | a::x,[]=>.inr (.inr rfl)
 | a::x,b::y=>by
  simp only [Op.bytesLess,aar,ZF,decide_eq_true_eq,beq_iff_eq,List.cons.injEq]
  rcases Nat.lt_trichotomy a.toNat b.toNat with h | h | h
  ·exact .inl (.inl (aaQ.2 h))
  ·have:a=b:=UInt8.toNat_inj.1 h
   subst this
   rcases Hs x y with h1 | h1 | h1
   ·exact .inl (.inr ⟨rfl,h1⟩)
   ·exact .inr (.inl ⟨rfl,h1⟩)
   ·exact .inr (.inr (.inr ⟨rfl,h1⟩))
  ·exact .inr (.inr (.inl (aaQ.2 h)))
theorem zQ:∀(x y z:List UInt8),Op.bytesLess x y=true→Op.bytesLess y z=true→Op.bytesLess x z=true
 | _,_,[],_,h=>by cases ‹List UInt8›<;>simp [Op.bytesLess] at h
 | _,[],c::z,h,_=>by cases ‹List UInt8›<;>simp [Op.bytesLess] at h
 | [],b::y,c::z,_,_=>rfl
 | a::x,b::y,c::z,h1,h2=>by
  simp only [Op.bytesLess,aar,ZF,decide_eq_true_eq,beq_iff_eq] at h1 h2 ⊢
  rcases h1 with h1 | ⟨rfl,h1⟩
  ·rcases h2 with h2 | ⟨rfl,h2⟩
   ·left; rw [aaQ] at *; omega
   ·exact .inl h1
  ·rcases h2 with h2 | ⟨rfl,h2⟩
   ·exact .inl h2
   ·exact .inr ⟨rfl,zQ x y z h1 h2⟩
theorem BD {x y:ByteArray}(h:x.data.toList=y.data.toList):x=y:=by
 cases x with | mk a=>cases y with | mk b=>cases a; cases b; simp only at h; subst h; rfl
structure L4 {α:Type}(c:α→α→Int):Prop where
 zero:∀x y,c x y=0→x=y
 refl:∀x,c x x=0
 neg:∀x y,c y x = - c x y
 tr:∀x y z,c x y≤0→c y z≤0→c x z≤0
theorem nT:L4 cI:=by
 refine⟨fun x y h=>?_,fun x=>?_,fun x y=>?_,fun x y z h1 h2=>?_⟩
 ·unfold cI at h; split at h
  ·omega
  ·split at h<;>omega
 ·unfold cI; simp
 ·unfold cI; split<;>split<;>(try split)<;>omega
 ·unfold cI at *
  split at h1<;>split at h2<;>(try split at h1)<;>(try split at h2)<;>(try omega)<;>split<;>(try split)<;>omega
theorem zR (x y:ByteArray):cS x y=if Op.bytesLess x.data.toList y.data.toList=true then -1 else if x=y then 0 else 1:=by
 unfold cS Ga
 cases h:Op.bytesLess x.data.toList y.data.toList with
 | true=>rfl
 | false=>
  simp only [Bool.false_or,ZN,if_false]
  by_cases e:x=y
  ·subst e; simp
  ·rw [if_neg e]
   have:(x.data.toList==y.data.toList)=false:=by
    rw [beq_eq_false_iff_ne]; exact fun h=>e (BD h)
   rw [this]; rfl
theorem Ht:L4 cS:=by
 refine⟨fun x y h=>?_,fun x=>?_,fun x y=>?_,fun x y z h1 h2=>?_⟩
 ·rw [zR] at h
  split at h
  ·omega
  ·split at h
   ·assumption
   ·omega
 ·rw [zR,uz]; simp
 ·rw [zR,zR]
  rcases Hs x.data.toList y.data.toList with h | h | h
  ·have h2:=xT _ _ h
   have hne:¬y=x:=fun e=>by subst e; rw [uz] at h; cases h
   rw [if_pos h,h2]; simp [hne]
  ·have:=BD h
   subst this
   rw [uz]; simp
  ·have h2:=xT _ _ h
   have hne:¬x=y:=fun e=>by subst e; rw [uz] at h; cases h
   rw [if_pos h,h2]; simp [hne]
 ·rw [zR] at h1 h2 ⊢
  split at h1
  ·rename_i g1
   split at h2
   ·rename_i g2
    rw [if_pos (zQ _ _ _ g1 g2)]; omega
   ·split at h2
    ·rename_i e; subst e; rw [if_pos g1]; omega
    ·omega
  ·split at h1
   ·rename_i e; subst e
    split at h2
    ·rename_i g2; rw [if_pos g2]; omega
    ·split at h2
     ·rename_i g e; rw [if_neg g,if_pos e]; omega
     ·omega
   ·omega
theorem Hu {α β:Type}{c:α→α→Int}{d:β→β→Int}(C:L4 c)(D:L4 d):L4 fun (p q:α × β)=>ER (c p.1 q.1) (d p.2 q.2):=by
 refine⟨fun x y h=>?_,fun x=>?_,fun x y=>?_,fun x y z h1 h2=>?_⟩
 ·unfold ER at h
  split at h
  ·rename_i h1; exact Prod.ext (C.zero _ _ h1) (D.zero _ _ h)
  ·exact absurd h ‹_›
 ·unfold ER; rw [C.refl,if_pos rfl,D.refl]
 ·skip
  unfold ER
  have:=C.neg x.1 y.1
  by_cases h:c x.1 y.1=0
  ·rw [if_pos h,if_pos (by omega),D.neg]
  ·rw [if_neg h,if_neg (by omega),C.neg]
 ·skip
  unfold ER at *
  by_cases a:c x.1 y.1=0
  ·rw [if_pos a] at h1
   have e:=C.zero _ _ a
   rw [←e] at h2
   by_cases b:c x.1 z.1=0
   ·rw [if_pos b] at h2 ⊢; exact D.tr _ _ _ h1 h2
   ·rw [if_neg b] at h2 ⊢; exact h2
  ·rw [if_neg a] at h1
   have hz:c x.1 z.1≤0:=by
    by_cases b:c y.1 z.1=0
    ·rw [←C.zero _ _ b]; exact h1
    ·rw [if_neg b] at h2; exact C.tr _ _ _ h1 h2
   have hne:c x.1 z.1≠0:=fun e=>by
    have e1:=C.zero _ _ e
    by_cases b:c y.1 z.1=0
    ·have e2:=C.zero _ _ b; rw [e1,←e2] at a; exact a (C.refl _)
    ·rw [if_neg b,←e1] at h2
     have:=C.neg x.1 y.1; omega
   rw [if_neg hne]; exact hz
theorem DD:L4 fun (p q:Int × ByteArray)=>ER (cI p.1 q.1) (cS p.2 q.2):=Hu nT Ht
theorem DE:L4 fun (p q:ByteArray × Int)=>ER (cS p.1 q.1) (cI p.2 q.2):=Hu Ht nT
theorem mH {a b:ak}(h:a.kind=b.kind):cT a b=if a.kind=3 then ER (cI a.args.length b.args.length) (cS a.label b.label) else ER (cS a.label b.label) (cI a.int b.int):=by unfold cT; rw [if_pos h]
theorem j7 {a b:ak}(h:a.kind≠b.kind):cT a b=cI a.kind b.kind:=by unfold cT; rw [if_neg h]
theorem jy (a b:ak):cT b a = - cT a b:=by
 by_cases h:a.kind=b.kind
 ·rw [mH h,mH h.symm,←h]
  split
  ·exact DD.neg ((a.args.length:Int),a.label) ((b.args.length:Int),b.label)
  ·exact DE.neg (a.label,a.int) (b.label,b.int)
 ·rw [j7 h,j7 (Ne.symm h)]; exact nT.neg _ _
theorem zS (a b c:ak)(h1:cT a b≤0)(h2:cT b c≤0):cT a c≤0:=by
 by_cases e1:a.kind=b.kind
 ·by_cases e2:b.kind=c.kind
  ·rw [mH e1] at h1
   rw [mH e2,←e1] at h2
   rw [mH (e1.trans e2)]
   split
   ·rename_i h3; rw [if_pos h3] at h1 h2
    exact DD.tr ((a.args.length:Int),a.label) ((b.args.length:Int),b.label) ((c.args.length:Int),c.label) h1 h2
   ·rename_i h3; rw [if_neg h3] at h1 h2
    exact DE.tr (a.label,a.int) (b.label,b.int) (c.label,c.int) h1 h2
  ·rw [j7 e2] at h2
   rw [j7 (by rw [e1]; exact e2),e1]; exact h2
 ·rw [j7 e1] at h1
  by_cases e2:b.kind=c.kind
  ·rw [j7 (by rw [←e2]; exact e1),←e2]; exact h1
  ·rw [j7 e2] at h2
   have n1:cI a.kind b.kind≠0:=fun h=>e1 (nT.zero _ _ h)
   have n2:cI b.kind c.kind≠0:=fun h=>e2 (nT.zero _ _ h)
   by_cases e3:a.kind=c.kind
   ·rw [←e3] at h2
    have:=nT.neg a.kind b.kind
    omega
   ·rw [j7 e3]; exact nT.tr _ _ _ h1 h2
structure Alike (a b:ak):Prop where
 kind:a.kind=b.kind
 int:a.int=b.int
 label:a.label=b.label
 len:a.args.length=b.args.length
theorem Alike.refl (a:ak):Alike a a:=⟨rfl,rfl,rfl,rfl⟩
theorem Alike.symm {a b:ak}(h:Alike a b):Alike b a:=⟨h.1.symm,h.2.symm,h.3.symm,h.4.symm⟩
theorem Alike.trans {a b c:ak}(h:Alike a b)(k:Alike b c):Alike a c:=⟨h.1.trans k.1,h.2.trans k.2,h.3.trans k.3,h.4.trans k.4⟩
theorem Alike.cT {a b:ak}(h:Alike a b):cT a b=0:=by
 rw [mH h.kind]
 split
 ·rw [h.len,h.label]; exact DD.refl ((b.args.length:Int),b.label)
 ·rw [h.label,h.int]; exact DE.refl (b.label,b.int)
theorem zT {a b:ak}(h:cT a b=0)(ha:a.kind=3→a.int=0)(hb:b.kind=3→b.int=0)(W3:a.kind≠3→a.args=[])(hb2:b.kind≠3→b.args=[]):Alike a b:=by
 by_cases e:a.kind=b.kind
 ·rw [mH e] at h
  split at h
  ·rename_i h3
   have:=DD.zero ((a.args.length:Int),a.label) ((b.args.length:Int),b.label) h
   simp only [ZL] at this
   exact⟨e,by rw [ha h3,hb (by rw [←e]; exact h3)],this.2,by omega⟩
  ·rename_i h3
   have:=DE.zero (a.label,a.int) (b.label,b.int) h
   simp only [ZL] at this
   exact⟨e,this.2,this.1,by rw [W3 h3,hb2 (by rw [←e]; exact h3)]⟩
 ·rw [j7 e] at h
  exact absurd (nT.zero _ _ h) e
theorem L5 (l:List ak)(s:List Int):Ord (fun x y=>cT (nd l x) (nd l y)) s:=by
 refine⟨fun x _ y _ z _ h1 h2=>?_,fun x _ y _ h=>?_⟩
 ·skip
  have a1:=jy (nd l x) (nd l y)
  have a2:=jy (nd l y) (nd l z)
  have a3:=jy (nd l x) (nd l z)
  have:=zS (nd l x) (nd l y) (nd l z) (by omega) (by omega)
  omega
 ·skip
  have a1:=jy (nd l x) (nd l y)
  omega
end Go.Proofs.Ytifafejidnjckaa
namespace Go.Proofs.Ytifafejidnjckaa
open Go Go.R
open Go.IntKind (i64 u64 u8 u32)
structure U6 (l:List ak)(R:Nat→Nat→Prop):Prop where
 lY:∀i j,R i j→i<l.length∧j<l.length
 top:∀i j,R i j→Alike (nd l i) (nd l j)
 arg:∀i j,R i j→∀k,k<(nd l i).args.length→R (gt (nd l i).args k).toNat (gt (nd l j).args k).toNat
structure Min (l:List ak)(r:List Int):Prop where
 len:r.length=l.length
 top:∀i j,i<l.length→j<l.length→gt r i=gt r j→Alike (nd l i) (nd l j)
 arg:∀i j,i<l.length→j<l.length→gt r i=gt r j→∀k,k<(nd l i).args.length→gt r (gt (nd l i).args k).toNat=gt r (gt (nd l j).args k).toNat
 max:∀R,U6 l R→∀i j,R i j→gt r i=gt r j
theorem sF (a:ak):cT a a=0:=(Alike.refl a).cT
theorem vf {a b c:ak}(h1:cT a b=0)(h2:cT b c=0):cT a c=0:=by
 have n1:=jy a b
 have n2:=jy b c
 have n3:=jy a c
 have t1:=zS a b c (by omega) (by omega)
 have t2:=zS c b a (by omega) (by omega)
 omega
theorem xU {l:List ak}{d:List Int}{k:Nat}:∀j,k≤j→rk l d k=rk l d j→cT (nd l (gt d k)) (nd l (gt d j))=0
 | 0,h,_=>by
   have:k=0:=by omega
   subst this; exact sF _
 | j+1,h,e=>by
  by_cases hk:k=j+1
  ·subst hk; exact sF _
  ·have m1:=xP l d k j (by omega)
   have e2:rk l d (j+1)=rk l d j+if cT (nd l (gt d j)) (nd l (gt d (j+1)))=0 then 0 else 1:=rfl
   by_cases hc:cT (nd l (gt d j)) (nd l (gt d (j+1)))=0
   ·rw [if_pos hc] at e2
    exact vf (xU j (by omega) (by omega)) hc
   ·rw [if_neg hc] at e2; omega
theorem xV {l:List ak}{d:List Int}{n:Nat}(S:Sg (fun x y=>cT (nd l x) (nd l y)) d 0 n){k q:Nat}(hq:q<n)(h0:cT (nd l (gt d k)) (nd l (gt d q))=0):∀j,k≤j→j≤q→rk l d j=rk l d k
 | 0,h,_=>by
   have:k=0:=by omega
   subst this; rfl
 | j+1,h,hj=>by
  by_cases hk:k=j+1
  ·subst hk; rfl
  ·have ih:=xV S hq h0 j (by omega) (by omega)
   have W4:cT (nd l (gt d k)) (nd l (gt d j))≤0:=by
    by_cases e:k=j
    ·subst e; rw [sF]; omega
    ·have:0≤cT (nd l (gt d j)) (nd l (gt d k)):=S k j (by omega) (by omega) (by omega)
     have n:=jy (nd l (gt d k)) (nd l (gt d j))
     omega
   have W5:cT (nd l (gt d (j+1))) (nd l (gt d q))≤0:=by
    by_cases e:j+1=q
    ·subst e; rw [sF]; omega
    ·have:0≤cT (nd l (gt d q)) (nd l (gt d (j+1))):=S (j+1) q (by omega) (by omega) hq
     have n:=jy (nd l (gt d (j+1))) (nd l (gt d q))
     omega
   have W6:cT (nd l (gt d q)) (nd l (gt d k))≤0:=by have n:=jy (nd l (gt d k)) (nd l (gt d q)); omega
   have Zl:=zS _ _ _ (zS _ _ _ W5 W6) W4
   have s1:=S j (j+1) (by omega) (by omega) (by omega)
   have n:=jy (nd l (gt d j)) (nd l (gt d (j+1)))
   have hz:cT (nd l (gt d j)) (nd l (gt d (j+1)))=0:=by
    have s1:0≤cT (nd l (gt d (j+1))) (nd l (gt d j)):=s1
    omega
   show rk l d j+(if cT (nd l (gt d j)) (nd l (gt d (j+1)))=0 then 0 else 1)=_
   rw [if_pos hz,ih]; rfl
def Jo (l:List ak)(out:List Int):Prop:=(∀i j,i<l.length→j<l.length→gt out i=gt out j→cT (nd l i) (nd l j)=0)∧∀R,U6 l R→∀i j,R i j→gt out i=gt out j
theorem EU {l:List ak}{d out:List Int}(hp:d.Perm (ints l.length))(hs:Ord (fun x y=>cT (nd l x) (nd l y)) (ints l.length)→Sg (fun x y=>cT (nd l x) (nd l y)) d 0 l.length)(hg:∀k,k<l.length→gt out (gt d k).toNat=rk l d k):Jo l out:=by
 have S:=hs (L5 _ _)
 have Su:d.length=l.length:=by rw [hp.length_eq,fF]
 have pos:∀i,i<l.length→∃k,k<l.length∧gt d k=i∧gt out i=rk l d k:=fun i hi=>by
  obtain⟨k,hk,e⟩:=vV (hp.mem_iff.2 (jJ.2 (show 0≤(i:Int)∧(i:Int)<l.length by omega)))
  have:=hg k (by omega)
  rw [e,ZQ] at this
  exact⟨k,by omega,e,this⟩
 refine⟨fun i j hi hj e=>?_,fun R B i j hR=>?_⟩
 ·obtain⟨k,hk,ek,SH⟩:=pos i hi
  obtain⟨q,hq,eq,SJ⟩:=pos j hj
  rw [SH,SJ] at e
  rw [←ek,←eq]
  rcases Nat.le_total k q with h | h
  ·exact xU q h (by omega)
  ·have:=xU (l:=l) (d:=d) k h (by omega)
   have n:=jy (nd l (gt d k)) (nd l (gt d q))
   omega
 ·obtain⟨hi,hj⟩:=B.lY i j hR
  obtain⟨k,hk,ek,SH⟩:=pos i hi
  obtain⟨q,hq,eq,SJ⟩:=pos j hj
  have h0:=(B.top i j hR).cT
  rw [←ek,←eq] at h0
  rw [SH,SJ]
  rcases Nat.le_total k q with h | h
  ·rw [xV S hq h0 q h (ZI _)]
  ·have n:=jy (nd l (gt d k)) (nd l (gt d q))
   rw [xV S hk (by omega) k h (ZI _)]
theorem Hv {l:List ak}(ok:DB l){out:List Int}{i j:Nat}(h1:(nd l i).args.length=(nd l j).args.length)(e:key out (nd l i) i=key out (nd l j) j):gt out i=gt out j∧∀k,k<(nd l i).args.length→gt out (gt (nd l i).args k).toNat=gt out (gt (nd l j).args k).toNat:=by
 unfold key at e
 have e1:=List.cons.inj e
 refine⟨by omega,fun k hk=>?_⟩
 have e2:=e1.2
 rw [h1] at e2
 have e3:=List.append_cancel_right e2
 have e4:=congrArg (fun z=>z[k]?) e3
 simp only [aau] at e4
 rw [eQ hk,eQ (by omega)] at e4
 simp only [ZJ,ZE] at e4
 omega
theorem Hw {l:List ak}(ok:DB l)(out:List Int)(many:Nat)(ks:List (List Int))(next:List Int)(P:Part l.length out many)(I:Jo l out)(K:qV l out l.length ks)(hn:next.length=l.length)
  (hg:∀i,i<l.length→gt next i=(ks.idxOf (key out (nd l i) i):Int)):Jo l next:=by
 refine⟨fun i j hi hj e=>?_,fun R B i j hR=>?_⟩
 ·rw [hg i hi,hg j hj] at e
  have e:ks.idxOf (key out (nd l i) i)=ks.idxOf (key out (nd l j) j):=by omega
  have m1:=aax ((K.mem _).2 ⟨i,hi,rfl⟩)
  have m2:=aax ((K.mem _).2 ⟨j,hj,rfl⟩)
  have g1:=List.getElem_idxOf m1
  have g2:=List.getElem_idxOf m2
  have g3:key out (nd l i) i=key out (nd l j) j:=by rw [←g1,←g2]; congr 1
  exact I.1 i j hi hj (by have:=(List.cons.inj g3).1; omega)
 ·obtain⟨hi,hj⟩:=B.lY i j hR
  rw [hg i hi,hg j hj]
  have hk:key out (nd l i) i=key out (nd l j) j:=by
   have hl:=(B.top i j hR).len
   unfold key
   rw [I.2 R B i j hR,hl]
   congr 2
   apply aaL fun k=>?_
   simp only [aau]
   by_cases h:k<(nd l i).args.length
   ·rw [eQ h,eQ (by omega)]
    simp only [ZJ,ZE]
    rw [I.2 R B _ _ (B.arg i j hR k h)]
   ·rw [Z5 (by omega),Z5 (by omega)]
  rw [hk]
theorem L6 {l:List ak}{r:List Int}{many:Nat}{ks:List (List Int)}(P:Part l.length r many)(K:qV l r l.length ks)(BX:ks.length=many+1){i j:Nat}(hi:i<l.length)(hj:j<l.length)(e:gt r i=gt r j):key r (nd l i) i=key r (nd l j) j:=by
 by_cases hne:key r (nd l i) i=key r (nd l j) j
 ·exact hne
 ·exfalso
  have W7:=(K.mem _).2 ⟨i,hi,rfl⟩
  have W8:=(K.mem _).2 ⟨j,hj,rfl⟩
  have hn:((aa6 (many+1)).map fun v:Nat=>((v:Int)+1)).Nodup:=by
   unfold List.Nodup
   rw [List.pairwise_map]
   exact List.Pairwise.imp (fun h=>by omega) List.nodup_range
  have:=hn.length_le_of_subset (l₂:=(ks.erase (key r (nd l j) j)).map fun k=>k.headD 0) (fun x hx=>by
   obtain⟨v,hv,rfl⟩:=aah.1 hx
   obtain⟨q,hq,h⟩:=P.U3 v (by have:=List.mem_range.1 hv; omega)
   by_cases H4:key r (nd l q) q=key r (nd l j) j
   ·refine aah.2 ⟨key r (nd l i) i,(List.mem_erase_of_ne hne).2 W7,?_⟩
    have h1:=(List.cons.inj H4).1
    simp [key,e]
    omega
   ·exact aah.2 ⟨_,(List.mem_erase_of_ne H4).2 ((K.mem _).2 ⟨q,hq,rfl⟩),by simp [key,h]⟩)
  rw [ZR,ZR,List.length_range,List.length_erase_of_mem W8] at this
  omega
theorem vY {l:List ak}(hT:∀n∈l,ET n){i j:Nat}(hi:i<l.length)(hj:j<l.length)(h:cT (nd l i) (nd l j)=0):Alike (nd l i) (nd l j):=by
 have Ti:=hT _ (ls (i:=(i:Int)) (by omega) (by omega))
 have Tj:=hT _ (ls (i:=(j:Int)) (by omega) (by omega))
 have a3:∀{n:ak},ET n→n.kind=3→n.int=0:=fun T h=>by rcases T.kind with z | z | z | z | z<;>(have:=z.1; first | omega | exact z.2)
 have a0:∀{n:ak},ET n→n.kind≠3→n.args=[]:=fun T h=>by
  rcases T.kind with z | z | z | z | z
  ·exact z.2.2.2
  ·exact z.2.2.2
  ·exact z.2.2
  ·exact absurd z.1 h
  ·exact z.2
 exact zT h (a3 Ti) (a3 Tj) (a0 Ti) (a0 Tj)
theorem kF {m:Nat}(hm:2 ^ 41≤m){t:bg}(h:gz t=true) :
  ∃cls ns,dJ.f m t=some ⟨ns,0⟩∧Min t.nodes cls∧Ps cls t.nodes [] (uw cls t.nodes m t.root []) [] ns∧gB cls t.root∈(uw cls t.nodes m t.root []).map (gB cls):=by
 obtain⟨ok,h1,r0,r1,hT⟩:=jx h
 obtain⟨cls,many,ks,ns,e,P,I,K,BX,Q,hr⟩:=BC hm ok h1 r0 r1 (Jo t.nodes) (fun d out hp hs hg=>EU hp hs hg) (fun out many ks next P I K hn hg=>Hw ok out many ks next P I K hn hg)
 refine⟨cls,ns,e,⟨P.len,fun i j hi hj e=>vY hT hi hj (I.1 i j hi hj e),fun i j hi hj e k hk=>?_,I.2⟩,Q,hr⟩
 have hA:=vY hT hi hj (I.1 i j hi hj e)
 exact (Hv ok hA.len (L6 P K BX hi hj e)).2 k hk
end Go.Proofs.Ytifafejidnjckaa
namespace Go.Proofs.Ytifafejidnjckaa
open Go Go.R
open Go.IntKind (i64 u64 u8 u32)
def gb (l:List Bool)(k:Nat):Bool:=l.getD k false
end Go.Proofs.Ytifafejidnjckaa
