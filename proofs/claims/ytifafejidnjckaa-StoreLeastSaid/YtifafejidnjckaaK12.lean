/- Part of the proof: PS3, PS4, PS5, PT7, PT8, PT9, PT10, PB1, PR2, PR3, PR4, PR5, PR6, PR9, PT12, PB2, PB4. -/
import Derived.Test.YtifafejidnjckaaK11
set_option linter.unusedVariables false
set_option linter.unusedSimpArgs false
set_option maxRecDepth 100000
open Bool renaming and_eq_true → Ux, false_eq_true → UE, or_eq_true → Ve, not_true → Vu
open ByteArray renaming mk → Vk
open Int renaming toNat_natCast → UG
open List renaming getElem?_eq_some_iff → UA, getElem?_eq_getElem → UC, length_append → UD, drop_eq_getElem_cons → UH, length_cons → UI, getElem?_append_left → UJ, append_assoc → UK, replicate → UL, mem_of_getElem? → UM, all_eq_true → UN, getElem?_append_right → UO, getD_eq_getElem?_getD → UP, length_map → UQ, mem_cons → UT, mem_singleton → UU, length_nil → UW, map_cons → UX, mem_append → UZ, map_append → U0, getElem?_eq_none → U3, cons_append → U6, mem_map → U8, drop_zero → Vd, all_cons → Vi, mem_append_left → Vo, getElem?_map → Vv, map_congr_left → VK, idxOf_lt_length_of_mem → VO, length_replicate → VU, ext_getElem? → VV, range → VX, mem_range → VY, map_nil → V0
open Nat renaming le_refl → Uy, zero_add → UR, mul_le_mul_right → Vm, add_zero → V1, sub_self → V3
open Option renaming bind_some → Uu, map_some → Uz
open Option.some renaming injEq → Uw, inj → Vf
open Prod.mk renaming injEq → UB
open UInt8 renaming lt_iff_toNat_lt → VH
namespace Go.Proofs.Ytifafejidnjckaa
open Go Go.R
open Go.IntKind (i64 u64 u8 u32)
theorem EL {α β:Type}{B:α→Option β}{c1 c2:Bool}{X:Option α}{d0:α}{G:β→Prop}(D:α→Prop)(h1:c1=true→c2=true→∃x,X=some x∧D x)(h0:¬(c1=true∧c2=true)→D d0)
  (h:∀x,D x→∃d,B x=some d∧G d):∃d,jn B (fun j=>if c1=true then (if c2=true then (X.bind fun x0=>j x0) else j d0) else j d0)=some d∧G d:=by
 unfold jn
 dsimp only
 by_cases a1:c1=true
 ·by_cases a2:c2=true
  ·obtain⟨x,e,hx⟩:=h1 a1 a2
   rw [if_pos a1,if_pos a2,e]; exact h x hx
  ·rw [if_pos a1,if_neg a2]; exact h _ (h0 fun z=>a2 z.2)
 ·rw [if_neg a1]; exact h _ (h0 fun z=>a1 z.1)
theorem Pd {α:Type}{c1 c2:Bool}{X:Option α}{d0:α}{G:α→Prop}(h1:c1=true→c2=true→∃x,X=some x∧G x)(h0:¬(c1=true∧c2=true)→G d0) :
  ∃d,(if c1=true then (if c2=true then (X.bind fun x0=>some x0) else some d0) else some d0)=some d∧G d:=by
 by_cases a1:c1=true
 ·by_cases a2:c2=true
  ·obtain⟨x,e,hx⟩:=h1 a1 a2
   rw [if_pos a1,if_pos a2,e]; exact⟨x,rfl,hx⟩
  ·rw [if_pos a1,if_neg a2]; exact⟨_,rfl,h0 fun z=>a2 z.2⟩
 ·rw [if_neg a1]; exact⟨_,rfl,h0 fun z=>a1 z.1⟩
theorem Jl {α β:Type}{B:α→Option β}{c:Bool}{x y:α}{G:β→Prop}(h:∀z,(c=true∧z=x)∨(c=false∧z=y)→∃d,B z=some d∧G d):∃d,jn B (fun j=>if c=true then j x else j y)=some d∧G d:=by
 unfold jn
 dsimp only
 cases c with
 | true=>exact h _ (.inl ⟨rfl,rfl⟩)
 | false=>exact h _ (.inr ⟨rfl,rfl⟩)
theorem Ord.refl {c:Int→Int→Int}{l:List Int}(O:Ord c l){x:Int}(hx:x∈l):0≤c x x:=by
 by_cases h:c x x<0
 ·exact O.JS x hx x hx h
 ·omega
theorem Sg.le {c:Int→Int→Int}{l:List Int}{a b:Nat}(S:Sg c l a b)(O:Ord c l){i j:Nat}(h1:a≤i)(h2:i≤j)(h3:j<b)(h4:b≤l.length):0≤c (gt l j) (gt l i):=by
 by_cases h:i=j
 ·subst h; exact O.refl (bN (by omega))
 ·exact S i j h1 (by omega) h3
section
variable {m:Nat}{cmp:Int→Int→Option Int}{c:Int→Int→Int}
theorem y5 {l:List Int}{a:Nat}(ha:a<l.length)(hs:l.length<2 ^ 40)(C:Cm cmp c l):∀(f i j:Nat),j - i<f→i≤j→j≤l.length→
  ∃x:Nat,aG.l0 m l (a:Int) cmp f (i:Int) (j:Int)=some ((x:Int),(x:Int))∧i≤x∧x≤j∧(i<x→c (gt l (x - 1)) (gt l a)<0)∧(x<j→0≤c (gt l x) (gt l a))
 | 0,i,j,hf,_,_=>absurd hf (by omega)
 | f+1,i,j,hf,h1,h2=>by
  have sK:(2:Nat) ^ 40=1099511627776:=by decide
  unfold aG.l0
  by_cases h:i<j
  ·have hh:=xq (a:=i) (b:=j) (by omega)
   rw [if_pos (by simp; omega),hh,fD (by omega),fD ha,Uu,Uu,C.at (by omega) ha,Uu]
   by_cases g:c (gt l ((i+j) / 2)) (gt l a)<0
   ·obtain⟨x,e,x1,x2,x3,x4⟩:=y5 ha hs C f ((i+j) / 2+1) j (by omega) (by omega) h2
    rw [if_pos (by simpa using g),bH (by omega) (by omega),show (((i+j) / 2:Nat):Int)+1=(((i+j) / 2+1:Nat):Int) by omega,e]
    refine⟨x,rfl,by omega,x2,fun _=>?_,x4⟩
    by_cases hx:x=(i+j) / 2+1
    ·rw [hx]; simpa using g
    ·exact x3 (by omega)
   ·obtain⟨x,e,x1,x2,x3,x4⟩:=y5 ha hs C f i ((i+j) / 2) (by omega) (by omega) (by omega)
    rw [if_neg (by simpa using g),e]
    refine⟨x,rfl,x1,by omega,x3,fun _=>?_⟩
    by_cases hx:x=(i+j) / 2
    ·rw [hx]; omega
    ·exact x4 (by omega)
  ·have:i=j:=by omega
   subst this
   exact⟨i,by rw [if_neg (by simp)],Uy _,Uy _,fun h=>absurd h (by omega),fun h=>absurd h (by omega)⟩
theorem y6 {l:List Int}{q:Nat}(hq:q<l.length)(hs:l.length<2 ^ 40)(C:Cm cmp c l):∀(f i j:Nat),j - i<f→i≤j→j≤l.length→
  ∃x:Nat,aG.l2 m l (q:Int) cmp f (i:Int) (j:Int)=some ((x:Int),(x:Int))∧i≤x∧x≤j∧(i<x→0≤c (gt l q) (gt l (x - 1)))∧(x<j→c (gt l q) (gt l x)<0)
 | 0,i,j,hf,_,_=>absurd hf (by omega)
 | f+1,i,j,hf,h1,h2=>by
  have sK:(2:Nat) ^ 40=1099511627776:=by decide
  unfold aG.l2
  by_cases h:i<j
  ·have hh:=xq (a:=i) (b:=j) (by omega)
   rw [if_pos (by simp; omega),hh,fD hq,fD (by omega),Uu,Uu,C.at hq (by omega),Uu]
   by_cases g:c (gt l q) (gt l ((i+j) / 2))<0
   ·obtain⟨x,e,x1,x2,x3,x4⟩:=y6 hq hs C f i ((i+j) / 2) (by omega) (by omega) (by omega)
    rw [if_neg (by simpa using g),e]
    refine⟨x,rfl,x1,by omega,x3,fun _=>?_⟩
    by_cases hx:x=(i+j) / 2
    ·rw [hx]; omega
    ·exact x4 (by omega)
   ·obtain⟨x,e,x1,x2,x3,x4⟩:=y6 hq hs C f ((i+j) / 2+1) j (by omega) (by omega) h2
    rw [if_pos (by simpa using g),bH (by omega) (by omega),show (((i+j) / 2:Nat):Int)+1=(((i+j) / 2+1:Nat):Int) by omega,e]
    refine⟨x,rfl,by omega,x2,fun _=>?_,x4⟩
    by_cases hx:x=(i+j) / 2+1
    ·rw [hx]; simp; omega
    ·exact x3 (by omega)
  ·have:i=j:=by omega
   subst this
   exact⟨i,by rw [if_neg (by simp)],Uy _,Uy _,fun h=>absurd h (by omega),fun h=>absurd h (by omega)⟩
theorem EM {l:List Int}{a x:Nat}(hx:x≤l.length)(Pe:a<x)(hs:l.length<2 ^ 40):∀(f k:Nat) (d:List Int),x - k<f→a≤k→k<x→Mv a x l d→
  (∀t,gt d t=if a≤t∧t<k then gt l (t+1) else if t=k then gt l a else gt l t)→
  ∃d' y,aG.l1 m (x:Int) f d (k:Int)=some (d',y)∧Mv a x l d'∧∀t,gt d' t=if a≤t∧t+1<x then gt l (t+1) else if t+1=x then gt l a else gt l t
 | 0,k,d,hf,_,_,_,_=>absurd hf (by omega)
 | f+1,k,d,hf,h1,h2,M,hg=>by
  have sK:(2:Nat) ^ 40=1099511627776:=by decide
  have hl:=M.length
  unfold aG.l1
  have e0:i64.wrap ((x:Int) - 1)=((x - 1:Nat):Int):=by rw [bH (by omega) (by omega)]; omega
  rw [e0]
  by_cases h:k<x - 1
  ·have e1:i64.wrap ((k:Int)+1)=((k+1:Nat):Int):=by rw [bH (by omega) (by omega)]; omega
   rw [if_pos (by simp; omega),e1,fD (by omega),fD (by omega),Uu,Uu,Uu,UG,UG,fD (by simp; omega),Uu]
   refine EM hx Pe hs f (k+1) (swp d k (k+1)) (by omega) (by omega) (by omega) (M.trans (y4 (by omega) (by omega) (by omega) (by omega) (by omega))) fun t=>?_
   rw [ln (by omega) (by omega),hg k,hg (k+1),hg t]
   by_cases t1:t=k+1
   ·subst t1; rw [if_pos rfl,if_neg (by omega),if_pos rfl,if_neg (by omega),if_pos rfl]
   ·rw [if_neg t1]
    by_cases t2:t=k
    ·subst t2; rw [if_pos rfl,if_neg (by omega),if_neg (by omega),if_pos (by omega)]
    ·rw [if_neg t2,if_neg t2,if_neg t1]
     by_cases t3:a≤t∧t<k
     ·rw [if_pos t3,if_pos (by omega)]
     ·rw [if_neg t3,if_neg (by omega)]
  ·refine⟨d,k,by rw [if_neg (by simp; omega)],M,fun t=>?_⟩
   rw [hg]
   by_cases t3:a≤t∧t<k
   ·rw [if_pos t3,if_pos (by omega)]
   ·rw [if_neg t3,if_neg (show ¬(a≤t∧t+1<x) by omega)]
    by_cases t4:t=k
    ·rw [if_pos t4,if_pos (by omega)]
    ·rw [if_neg t4,if_neg (by omega)]
theorem EN {l:List Int}{q x:Nat}(hx:q<l.length)(Pe:x≤q)(hs:l.length<2 ^ 40):∀(f k:Nat) (d:List Int),k - x<f→x≤k→k≤q→Mv x (q+1) l d→
  (∀t,gt d t=if k<t∧t≤q then gt l (t - 1) else if t=k then gt l q else gt l t)→
  ∃d' y,aG.l3 m (x:Int) f d (k:Int)=some (d',y)∧Mv x (q+1) l d'∧∀t,gt d' t=if x<t∧t≤q then gt l (t - 1) else if t=x then gt l q else gt l t
 | 0,k,d,hf,_,_,_,_=>absurd hf (by omega)
 | f+1,k,d,hf,h1,h2,M,hg=>by
  have sK:(2:Nat) ^ 40=1099511627776:=by decide
  have hl:=M.length
  unfold aG.l3
  by_cases h:x<k
  ·have e1:i64.wrap ((k:Int) - 1)=((k - 1:Nat):Int):=by rw [bH (by omega) (by omega)]; omega
   rw [if_pos (by simp; omega),e1,fD (by omega),fD (by omega),Uu,Uu,Uu,UG,UG,fD (by simp; omega),Uu]
   refine EN hx Pe hs f (k - 1) (swp d k (k - 1)) (by omega) (by omega) (by omega) (M.trans (y4 (by omega) (by omega) (by omega) (by omega) (by omega))) fun t=>?_
   rw [ln (by omega) (by omega),hg k,hg (k - 1),hg t]
   by_cases t1:t=k - 1
   ·subst t1; rw [if_pos rfl,if_neg (by omega),if_pos rfl,if_neg (by omega),if_pos rfl]
   ·rw [if_neg t1]
    by_cases t2:t=k
    ·subst t2; rw [if_pos rfl,if_neg (by omega),if_neg (by omega),if_pos (by omega)]
    ·rw [if_neg t2,if_neg t2,if_neg t1]
     by_cases t3:k<t∧t≤q
     ·rw [if_pos t3,if_pos (by omega)]
     ·rw [if_neg t3,if_neg (by omega)]
  ·have:k=x:=by omega
   subst this
   exact⟨d,k,by rw [if_neg (by simp)],M,hg⟩
theorem y7 {l:List Int}{a b q:Nat}(Kq:a+b<2 ^ 42)(hs:l.length<2 ^ 40)(C:Cm cmp c l):∀(f s r:Nat),r - s<f→s≤r→r≤l.length→r≤(a+b) / 2+q→(a+b) / 2+q≤l.length+s→
  ∃x:Nat,aG.l4 m l (a:Int) (q:Int) (b:Int) cmp f (s:Int) (r:Int)=some ((x:Int),(x:Int))∧s≤x∧x≤r∧(s<x→0≤c (gt l ((a+b) / 2+q - x)) (gt l (x - 1)))∧(x<r→c (gt l ((a+b) / 2+q - x - 1)) (gt l x)<0)
 | 0,i,j,hf,_,_,_,_=>absurd hf (by omega)
 | f+1,s,r,hf,h1,h2,h3,h4=>by
  have sK:(2:Nat) ^ 40=1099511627776:=by decide
  have Pf:(2:Nat) ^ 42=4398046511104:=by decide
  unfold aG.l4
  by_cases h:s<r
  ·have hh:=xq (a:=s) (b:=r) (by omega)
   have Kq:=xq (a:=a) (b:=b) (by omega)
   have e1:i64.wrap (i64.wrap (i64.wrap ((((a+b) / 2:Nat):Int)+(q:Int)) - 1) - (((s+r) / 2:Nat):Int))=(((a+b) / 2+q - (s+r) / 2 - 1:Nat):Int):=by
    rw [bH (x:=(((a+b) / 2:Nat):Int)+(q:Int)) (by omega) (by omega),bH (x:=(((a+b) / 2:Nat):Int)+(q:Int) - 1) (by omega) (by omega),bH (by omega) (by omega)]
    omega
   rw [if_pos (by simp; omega),hh,Kq,e1,fD (by omega),fD (by omega),Uu,Uu,C.at (by omega) (by omega),Uu]
   by_cases g:c (gt l ((a+b) / 2+q - (s+r) / 2 - 1)) (gt l ((s+r) / 2))<0
   ·obtain⟨x,e,x1,x2,x3,x4⟩:=y7 (a:=a) (b:=b) (q:=q) (by omega) hs C f s ((s+r) / 2) (by omega) (by omega) (by omega) (by omega) (by omega)
    rw [if_neg (by simpa using g),e]
    refine⟨x,rfl,x1,by omega,x3,fun _=>?_⟩
    by_cases hx:x=(s+r) / 2
    ·rw [hx]; exact g
    ·exact x4 (by omega)
   ·obtain⟨x,e,x1,x2,x3,x4⟩:=y7 (a:=a) (b:=b) (q:=q) (by omega) hs C f ((s+r) / 2+1) r (by omega) (by omega) h2 h3 (by omega)
    rw [if_pos (by simpa using g),bH (by omega) (by omega),show (((s+r) / 2:Nat):Int)+1=(((s+r) / 2+1:Nat):Int) by omega,e]
    refine⟨x,rfl,by omega,x2,fun _=>?_,x4⟩
    by_cases hx:x=(s+r) / 2+1
    ·rw [hx,show (a+b) / 2+q - ((s+r) / 2+1)=(a+b) / 2+q - (s+r) / 2 - 1 by omega,Nat.add_sub_cancel]; omega
    ·exact x3 (by omega)
  ·have:s=r:=by omega
   subst this
   exact⟨s,by rw [if_neg (by simp)],Uy _,Uy _,fun h=>absurd h (by omega),fun h=>absurd h (by omega)⟩
end
end Go.Proofs.Ytifafejidnjckaa
namespace Go.Proofs.Ytifafejidnjckaa
open Go Go.R
open Go.IntKind (i64 u64 u8 u32)
section
variable {m:Nat}{cmp:Int→Int→Option Int}{c:Int→Int→Int}
theorem sB {l d:List Int}{a q b M E x:Nat}(h1:a≤x)(h2:x≤M)(h3:x≤q)(h4:q≤E)(h5:E≤b)(h6:E+x=M+q)(hb:b≤l.length)
  (R:JR l d x (q - x) (E - q)) (O:Ord c l) (F1:a<x→E<b→0≤c (gt l E) (gt l (x - 1))) (F2:x<q→q<E→c (gt l (E - 1)) (gt l x)<0)
  (S1:Sg c l a q) (S2:Sg c l q b) :
  Sg c d a x∧Sg c d x M∧Sg c d M E∧Sg c d E b∧(∀i j,a≤i→i<M→M≤j→j<b→0≤c (gt d j) (gt d i)):=by
 obtain⟨R1,R2,R3,R4⟩:=R
 have g1:∀k,k<x→gt d k=gt l k:=fun k hk=>R4 k (.inl hk)
 have g2:∀k,x≤k→k<M→gt d k=gt l (q+(k - x)):=fun k hk rG=>by
  have:=R2 (k - x) (by omega)
  rw [show x+(k - x)=k by omega,show x+(q - x)+(k - x)=q+(k - x) by omega] at this
  exact this
 have g3:∀k,M≤k→k<E→gt d k=gt l (x+(k - M)):=fun k hk rG=>by
  have:=R3 (k - M) (by omega)
  rw [show x+(E - q)+(k - M)=k by omega] at this
  exact this
 have g4:∀k,E≤k→gt d k=gt l k:=fun k hk=>R4 k (.inr (by omega))
 refine⟨fun i j k1 k2 k3=>?_,fun i j k1 k2 k3=>?_,fun i j k1 k2 k3=>?_,fun i j k1 k2 k3=>?_,fun i j k1 k2 k3 k4=>?_⟩
 ·rw [g1 i (by omega),g1 j (by omega)]; exact S1 _ _ k1 k2 (by omega)
 ·rw [g2 i (by omega) (by omega),g2 j (by omega) (by omega)]; exact S2 _ _ (by omega) (by omega) (by omega)
 ·rw [g3 i (by omega) (by omega),g3 j (by omega) (by omega)]; exact S1 _ _ (by omega) (by omega) (by omega)
 ·rw [g4 i (by omega),g4 j (by omega)]; exact S2 _ _ (by omega) (by omega) (by omega)
 ·by_cases hi:i<x
  ·rw [g1 i hi]
   by_cases hj:j<E
   ·rw [g3 j k3 hj]; exact S1 _ _ k1 (by omega) (by omega)
   ·rw [g4 j (by omega)]
    have f1:=F1 (by omega) (by omega)
    have f2:=S1.le O k1 (show i≤x - 1 by omega) (by omega) (by omega)
    have f3:=S2.le O (show q≤E from h4) (show E≤j by omega) k4 hb
    exact O.tr _ (bN (by omega)) _ (bN (show E<l.length by omega)) _ (bN (by omega)) (O.tr _ (bN (by omega)) _ (bN (show x - 1<l.length by omega)) _ (bN (by omega)) f2 f1) f3
  ·rw [g2 i (by omega) k2]
   by_cases hj:j<E
   ·rw [g3 j k3 hj]
    have f1:=O.JS _ (bN (show E - 1<l.length by omega)) _ (bN (show x<l.length by omega)) (F2 (by omega) (by omega))
    have f2:=S2.le O (show q≤q+(i - x) by omega) (show q+(i - x)≤E - 1 by omega) (by omega) hb
    have f3:=S1.le O h1 (show x≤x+(j - M) by omega) (by omega) (by omega)
    exact O.tr _ (bN (by omega)) _ (bN (show x<l.length by omega)) _ (bN (by omega)) (O.tr _ (bN (by omega)) _ (bN (show E - 1<l.length by omega)) _ (bN (by omega)) f2 f1) f3
   ·rw [g4 j (by omega)]; exact S2 _ _ (by omega) (by omega) k4
theorem EO {l:List Int}{x i j:Nat}(h:i=0∨j=0):JR l l x i j:=
 ⟨List.Perm.refl _,fun k hk=>by rw [show i=0 by omega,V1],fun k hk=>by rw [show j=0 by omega,V1],fun _ _=>rfl⟩
theorem Jm {l d:List Int}{x i j a b:Nat}(R:JR l d x i j)(h1:a≤x)(h2:x+i+j≤b):Mv a b l d:=by
 obtain⟨R1,R2,R3,R4⟩:=R
 refine⟨R1,fun k hk=>R4 k (by omega),fun k k1 k2=>?_⟩
 by_cases g1:k<x∨x+i+j≤k
 ·exact⟨k,k1,k2,R4 k g1⟩
 ·by_cases g2:k<x+j
  ·have:=R2 (k - x) (by omega)
   rw [show x+(k - x)=k by omega] at this
   exact⟨_,by omega,by omega,this⟩
  ·have:=R3 (k - x - j) (by omega)
   rw [show x+j+(k - x - j)=k by omega] at this
   exact⟨_,by omega,by omega,this⟩
theorem oN (hm:2 ^ 41≤m):∀(f:Nat) (l:List Int) (a q b:Nat),b - a<f→a<q→q<b→b≤l.length→l.length<2 ^ 40→Cm cmp c l→
  ∃d,aG.f m f l (a:Int) (q:Int) (b:Int) cmp=some d∧Mv a b l d∧(Ord c l→Sg c l a q→Sg c l q b→Sg c d a b)
 | 0,l,a,q,b,hf,_,_,_,_,_=>absurd hf (by omega)
 | f+1,l,a,q,b,hf,h1,h2,h3,hs,C=>by
  have sK:(2:Nat) ^ 40=1099511627776:=by decide
  have xU:(2:Nat) ^ 41=2199023255552:=by decide
  have Pf:(2:Nat) ^ 42=4398046511104:=by decide
  unfold aG.f
  unfold aG.b
  have e1:i64.wrap ((q:Int) - (a:Int))=((q - a:Nat):Int):=by rw [bH (by omega) (by omega)]; omega
  have e2:i64.wrap ((b:Int) - (q:Int))=((b - q:Nat):Int):=by rw [bH (by omega) (by omega)]; omega
  have hM:=xq (a:=a) (b:=b) (by omega)
  rw [e1,e2,hM]
  by_cases Pa:q - a=1
  ·obtain⟨x,k1,k2,k3,k4,k5⟩:=y5 (m:=m) (a:=a) (by omega) hs C m q b (by omega) (by omega) h3
   obtain⟨d,y,g1,g2,g3⟩:=EM (m:=m) (l:=l) (a:=a) (x:=x) (by omega) (by omega) hs m a l (by omega) (Uy _) (by omega) Mv.refl (fun t=>by rw [if_neg (by omega)]; split<;>simp_all)
   rw [if_pos (by simp; omega),k1,Uu]
   dsimp only
   rw [g1]
   refine⟨d,rfl,g2.wide (Uy _) k3,fun O S1 S2 i j r1 r2 r3=>?_⟩
   have A1:∀t,a≤t→t+1<x→gt d t=gt l (t+1):=fun t w1 w2=>by rw [g3 t,if_pos ⟨w1,w2⟩]
   have A2:∀t,t+1=x→gt d t=gt l a:=fun t w1=>by rw [g3 t,if_neg (by omega),if_pos w1]
   have A3:∀t,x≤t→gt d t=gt l t:=fun t w1=>by rw [g3 t,if_neg (by omega),if_neg (by omega)]
   by_cases i1:i+1<x
   ·rw [A1 i r1 i1]
    by_cases j1:j+1<x
    ·rw [A1 j (by omega) j1]; exact S2 _ _ (by omega) (by omega) (by omega)
    ·have f1:=O.JS _ (bN (show x - 1<l.length by omega)) _ (bN (show a<l.length by omega)) (k4 (by omega))
     have f2:=S2.le O (show q≤i+1 by omega) (show i+1≤x - 1 by omega) (by omega) h3
     by_cases j2:j+1=x
     ·rw [A2 j j2]
      exact O.tr _ (bN (by omega)) _ (bN (show x - 1<l.length by omega)) _ (bN (by omega)) f2 f1
     ·rw [A3 j (by omega)]; exact S2 _ _ (by omega) (by omega) (by omega)
   ·rw [A3 j (by omega)]
    by_cases i2:i+1=x
    ·rw [A2 i i2]
     have f1:=k5 (by omega)
     have f2:=S2.le O (show q≤x by omega) (show x≤j by omega) r3 h3
     exact O.tr _ (bN (by omega)) _ (bN (show x<l.length by omega)) _ (bN (by omega)) f1 f2
    ·rw [A3 i (by omega)]; exact S2 _ _ (by omega) r2 r3
  rw [if_neg (by simp; omega)]
  by_cases hb1:b - q=1
  ·obtain⟨x,k1,k2,k3,k4,k5⟩:=y6 (m:=m) (q:=q) (by omega) hs C m a q (by omega) (by omega) (by omega)
   obtain⟨d,y,g1,g2,g3⟩:=EN (m:=m) (l:=l) (q:=q) (x:=x) (by omega) (by omega) hs m q l (by omega) (by omega) (Uy _) Mv.refl (fun t=>by rw [if_neg (by omega)]; split<;>simp_all)
   rw [if_pos (by simp; omega),k1,Uu]
   dsimp only
   rw [g1]
   refine⟨d,rfl,g2.wide k2 (by omega),fun O S1 S2 i j r1 r2 r3=>?_⟩
   have A1:∀t,x<t→t≤q→gt d t=gt l (t - 1):=fun t w1 w2=>by rw [g3 t,if_pos ⟨w1,w2⟩]
   have A2:gt d x=gt l q:=by rw [g3 x,if_neg (by omega),if_pos rfl]
   have A3:∀t,t<x→gt d t=gt l t:=fun t w1=>by rw [g3 t,if_neg (by omega),if_neg (by omega)]
   by_cases i1:x<i
   ·rw [A1 i i1 (by omega),A1 j (by omega) (by omega)]
    exact S1 _ _ (by omega) (by omega) (by omega)
   ·by_cases i2:i=x
    ·subst i2
     rw [A2,A1 j (by omega) (by omega)]
     have f1:=O.JS _ (bN (show q<l.length by omega)) _ (bN (show i<l.length by omega)) (k5 (by omega))
     have f2:=S1.le O r1 (show i≤j - 1 by omega) (by omega) (by omega)
     exact O.tr _ (bN (by omega)) _ (bN (show i<l.length by omega)) _ (bN (by omega)) f1 f2
    ·rw [A3 i (by omega)]
     by_cases j1:x<j
     ·rw [A1 j j1 (by omega)]
      exact S1.le O r1 (by omega) (by omega) (by omega)
     ·have f1:=k4 (by omega)
      have f2:=S1.le O r1 (show i≤x - 1 by omega) (by omega) (by omega)
      by_cases j2:j=x
      ·subst j2
       rw [A2]
       exact O.tr _ (bN (by omega)) _ (bN (show j - 1<l.length by omega)) _ (bN (by omega)) f2 f1
      ·rw [A3 j (by omega)]; exact S1 _ _ r1 r2 (by omega)
  rw [if_neg (by simp; omega)]
  refine Jl ?_
  intro z hz
  have QT:∃s r:Nat,z=((s:Int),(r:Int))∧((q > (a+b) / 2∧s=(a+b) / 2+q - b∧r=(a+b) / 2)∨(q≤(a+b) / 2∧s=a∧r=q)):=by
   rcases hz with⟨hc,rfl⟩| ⟨hc,rfl⟩
   ·refine⟨(a+b) / 2+q - b,(a+b) / 2,?_,.inl ⟨by simp only [decide_eq_true_eq] at hc; omega,rfl,rfl⟩⟩
    simp only [UB,and_true]
    simp only [decide_eq_true_eq] at hc
    rw [bH (x:=(((a+b) / 2:Nat):Int)+(q:Int)) (by omega) (by omega),bH (by omega) (by omega)]
    omega
   ·refine⟨a,q,rfl,.inr ⟨?_,rfl,rfl⟩⟩
    simp only [decide_eq_false_iff_not] at hc
    omega
  obtain⟨s,r,rfl,QT⟩:=QT
  clear hz
  dsimp only
  obtain⟨x,k1,k2,k3,k4,k5⟩:=y7 (m:=m) (a:=a) (b:=b) (q:=q) (by omega) hs C m s r (by omega) (by omega) (by omega) (by omega) (by omega)
  rw [k1,Uu]
  dsimp only
  generalize Up:(a+b) / 2=M at *
  obtain⟨E,hE⟩:∃E,E=M+q - x:=⟨_,rfl⟩
  have eE:i64.wrap (i64.wrap ((M:Int)+(q:Int)) - (x:Int))=(E:Int):=by
   rw [bH (x:=(M:Int)+(q:Int)) (by omega) (by omega),bH (by omega) (by omega)]
   omega
  rw [eE]
  rw [←hE] at k4 k5
  have c1:a≤x:=by omega
  have c2:x≤M:=by omega
  have c3:x≤q:=by omega
  have c4:q≤E:=by omega
  have c5:E≤b:=by omega
  have c6:E+x=M+q:=by omega
  have c7:M≤E:=by omega
  have F1:a<x→E<b→0≤c (gt l E) (gt l (x - 1)):=fun _ _=>k4 (by omega)
  have F2:x<q→q<E→c (gt l (E - 1)) (gt l x)<0:=fun _ _=>k5 (by omega)
  refine EL (fun d=>JR l d x (q - x) (E - q)) (fun u1 u2=>?_) (fun u=>?_) ?_
  ·simp only [decide_eq_true_eq] at u1 u2
   exact EG hm (by omega) (by omega) (by omega) hs
  ·simp only [decide_eq_true_eq] at u
   exact EO (by omega)
  intro d5 R
  try dsimp only
  have M5:Mv a b l d5:=Jm R c1 (by omega)
  have l5:=M5.length
  refine EL (fun d=>Mv a M d5 d∧(Ord c l→Sg c l a q→Sg c l q b→Sg c d a M)) (fun u1 u2=>?_) (fun u=>?_) ?_
  ·simp only [decide_eq_true_eq] at u1 u2
   obtain⟨d,g1,g2,g3⟩:=oN hm f d5 a x M (by omega) (by omega) (by omega) (by omega) (by omega) (C.perm M5.perm)
   refine⟨d,g1,g2,fun O S1 S2=>?_⟩
   obtain⟨v1,v2,v3,v4,v5⟩:=sB c1 c2 c3 c4 c5 c6 h3 R O F1 F2 S1 S2
   exact g3 (O.perm M5.perm) v1 v2
  ·simp only [decide_eq_true_eq] at u
   refine⟨Mv.refl,fun O S1 S2=>?_⟩
   obtain⟨v1,v2,v3,v4,v5⟩:=sB c1 c2 c3 c4 c5 c6 h3 R O F1 F2 S1 S2
   by_cases ua:a=x
   ·rw [ua]; exact v2
   ·rw [show M=x by omega]; exact v1
  rintro d6 ⟨M6,S6⟩
  try dsimp only
  have l6:=M6.length
  have Pg:=M5.trans (M6.wide (Uy _) (by omega))
  have fin:∀d,Mv M b d6 d→(Ord c l→Sg c l a q→Sg c l q b→Sg c d M b)→Mv a b l d∧(Ord c l→Sg c l a q→Sg c l q b→Sg c d a b):=by
   intro d M7 S7
   refine⟨Pg.trans (M7.wide (by omega) (Uy _)),fun O S1 S2 i j r1 r2 r3=>?_⟩
   obtain⟨v1,v2,v3,v4,v5⟩:=sB c1 c2 c3 c4 c5 c6 h3 R O F1 F2 S1 S2
   by_cases hj:j<M
   ·rw [M7.out i (by omega),M7.out j (by omega)]
    exact S6 O S1 S2 _ _ r1 r2 hj
   ·by_cases hi:M≤i
    ·exact S7 O S1 S2 _ _ hi r2 r3
    ·obtain⟨j',y1,y2,y3⟩:=M7.im j (by omega) r3
     obtain⟨i',w1,w2,w3⟩:=M6.im i r1 (by omega)
     rw [M7.out i (by omega),y3,M6.out j' (by omega),w3]
     exact v5 _ _ w1 w2 y1 y2
  refine Pd (fun u1 u2=>?_) (fun u=>?_)
  ·simp only [decide_eq_true_eq] at u1 u2
   obtain⟨d,g1,g2,g3⟩:=oN hm f d6 M E b (by omega) (by omega) (by omega) (by omega) (by omega) (C.perm Pg.perm)
   refine⟨d,g1,fin d g2 fun O S1 S2=>?_⟩
   obtain⟨v1,v2,v3,v4,v5⟩:=sB c1 c2 c3 c4 c5 c6 h3 R O F1 F2 S1 S2
   refine g3 (O.perm Pg.perm) (fun i j y1 y2 y3=>?_) (fun i j y1 y2 y3=>?_)
   ·rw [M6.out i (by omega),M6.out j (by omega)]; exact v3 _ _ y1 y2 y3
   ·rw [M6.out i (by omega),M6.out j (by omega)]; exact v4 _ _ y1 y2 y3
  ·simp only [decide_eq_true_eq] at u
   refine fin d6 Mv.refl fun O S1 S2 i j y1 y2 y3=>?_
   obtain⟨v1,v2,v3,v4,v5⟩:=sB c1 c2 c3 c4 c5 c6 h3 R O F1 F2 S1 S2
   rw [M6.out i (by omega),M6.out j (by omega)]
   by_cases ue:M=E
   ·exact v4 _ _ (by omega) y2 y3
   ·exact v3 _ _ y1 y2 (by omega)
end
end Go.Proofs.Ytifafejidnjckaa
namespace Go.Proofs.Ytifafejidnjckaa
open Go Go.R
open Go.IntKind (i64 u64 u8 u32)
section
variable {m:Nat}{cmp:Int→Int→Option Int}{c:Int→Int→Int}
def Lx (c:Int→Int→Int)(d:List Int)(bs n:Nat):Prop:=∀k i j,k*bs≤i→i<j→j<k*bs+bs→j<n→0≤c (gt d j) (gt d i)
theorem EP (hm:2 ^ 41≤m){n:Nat}{l:List Int}(hn:n=l.length)(hs:l.length<2 ^ 40)(C:Cm cmp c l):∀(f t:Nat) (d:List Int),n - 20*t<f→20*t≤n→Mv 0 (20*t) l d→
  (Ord c l→∀k,k<t→Sg c d (20*k) (20*k+20))→
  ∃d' t' y,bM.l0 m (n:Int) cmp f d ((20*t:Nat):Int) ((20*t+20:Nat):Int)=some (d',((20*t':Nat):Int),y)∧20*t'≤n∧n<20*t'+20∧Mv 0 (20*t') l d'∧(Ord c l→∀k,k<t'→Sg c d' (20*k) (20*k+20))
 | 0,t,d,hf,_,_,_=>absurd hf (by omega)
 | f+1,t,d,hf,h1,M,S=>by
  have sK:(2:Nat) ^ 40=1099511627776:=by decide
  have xU:(2:Nat) ^ 41=2199023255552:=by decide
  have hl:=M.length
  unfold bM.l0
  by_cases h:20*t+20≤n
  ·obtain⟨d1,e1,M1,S1⟩:=xt (a:=20*t) (b:=20*t+20) (cmp:=cmp) (c:=c) hm (l:=d) (by omega) (by omega) (by omega) (C.perm M.perm)
   rw [if_pos (by simp only [decide_eq_true_eq]; omega),e1,Uu,bH (x:=((20*t+20:Nat):Int)+20) (by omega) (by omega)]
   have:=EP hm hn hs C f (t+1) d1 (by omega) (by omega) ((M.wide (Uy _) (by omega)).trans (M1.wide (by omega) (by omega))) (fun O k hk i j k1 k2 k3=>by
    by_cases FO:k=t
    ·subst FO; exact S1 (O.perm M.perm) _ _ k1 k2 k3
    ·rw [M1.out i (by omega),M1.out j (by omega)]; exact S O k (by omega) _ _ k1 k2 k3)
   rw [show ((20*(t+1):Nat):Int)=((20*t+20:Nat):Int) by omega,show ((20*(t+1)+20:Nat):Int)=((20*t+20:Nat):Int)+20 by omega] at this
   exact this
  ·exact⟨d,t,_,by rw [if_neg (by simp only [decide_eq_true_eq]; omega)],h1,by omega,M,S⟩
theorem ER (hm:2 ^ 41≤m){n bs:Nat}{l:List Int}(hn:n=l.length)(hs:l.length<2 ^ 40)(hb:0<bs)(Dh:bs<n)(C:Cm cmp c l)(B:Ord c l→Lx c l bs n):∀(f t:Nat) (d:List Int),n - t*(2*bs)<f→t*(2*bs)≤n→Mv 0 (t*(2*bs)) l d→
  (Ord c l→∀k,k<t→Sg c d (k*(2*bs)) (k*(2*bs)+2*bs))→
  ∃d' t' y,bM.l2 m (n:Int) cmp (bs:Int) f d ((t*(2*bs):Nat):Int) ((t*(2*bs)+2*bs:Nat):Int)=some (d',((t'*(2*bs):Nat):Int),y)∧t'*(2*bs)≤n∧n<t'*(2*bs)+2*bs∧Mv 0 (t'*(2*bs)) l d'∧(Ord c l→∀k,k<t'→Sg c d' (k*(2*bs)) (k*(2*bs)+2*bs))
 | 0,t,d,hf,_,_,_=>absurd hf (by omega)
 | f+1,t,d,hf,h1,M,S=>by
  have sK:(2:Nat) ^ 40=1099511627776:=by decide
  have xU:(2:Nat) ^ 41=2199023255552:=by decide
  have hl:=M.length
  unfold bM.l2
  have ht:(t+1)*(2*bs)=t*(2*bs)+2*bs:=Nat.succ_mul _ _
  have q1:(2*t)*bs=t*(2*bs):=by rw [Nat.mul_assoc,Nat.mul_left_comm]
  have q2:(2*t+1)*bs=t*(2*bs)+bs:=by rw [Nat.succ_mul,q1]
  by_cases h:t*(2*bs)+2*bs≤n
  ·have S0:Ord c l→Sg c d (t*(2*bs)) (t*(2*bs)+bs):=fun O i j k1 k2 k3=>by
    rw [M.out i (by omega),M.out j (by omega)]; exact B O (2*t) i j (by omega) k2 (by omega) (by omega)
   have Ta:Ord c l→Sg c d (t*(2*bs)+bs) (t*(2*bs)+2*bs):=fun O i j k1 k2 k3=>by
    rw [M.out i (by omega),M.out j (by omega)]; exact B O (2*t+1) i j (by omega) k2 (by omega) (by omega)
   have hk:∀k,k<t→k*(2*bs)+2*bs≤t*(2*bs):=fun k hk=>by
    rw [←Nat.succ_mul]; exact Vm _ hk
   generalize hA:t*(2*bs)=A at *
   obtain⟨d1,e1,M1,S1⟩:=oN (cmp:=cmp) (c:=c) hm m d A (A+bs) (A+2*bs) (by omega) (by omega) (by omega) (by omega) (by omega) (C.perm M.perm)
   have e0:i64.wrap ((A:Int)+(bs:Int))=((A+bs:Nat):Int):=by rw [bH (by omega) (by omega)]; omega
   have e2:i64.wrap ((2:Int)*(bs:Int))=((2*bs:Nat):Int):=by rw [bH (by omega) (by omega)]; omega
   have e3:i64.wrap (((A+2*bs:Nat):Int)+((2*bs:Nat):Int))=((A+2*bs+2*bs:Nat):Int):=by rw [bH (by omega) (by omega)]; omega
   rw [if_pos (by simp only [decide_eq_true_eq]; omega),e0,e1,Uu,e2,e3]
   have:=ER hm hn hs hb Dh C B f (t+1) d1 (by omega) (by omega) (by rw [ht]; exact (M.wide (Uy _) (by omega)).trans (M1.wide (by omega) (by omega))) (fun O k rG i j k1 k2 k3=>by
    by_cases FO:k=t
    ·subst FO; rw [hA] at k1 k3; exact S1 (O.perm M.perm) (S0 O) (Ta O) _ _ k1 k2 k3
    ·have:=hk k (by omega)
     rw [M1.out i (by omega),M1.out j (by omega)]; exact S O k (by omega) _ _ k1 k2 k3)
   rw [ht] at this
   exact this
  ·exact⟨d,t,_,by rw [if_neg (by simp only [decide_eq_true_eq]; omega)],h1,by omega,M,S⟩
theorem y8 (hm:2 ^ 41≤m){n:Nat}:∀(f bs:Nat) (l:List Int),n=l.length→l.length<2 ^ 40→Cm cmp c l→n - bs<f→0<bs→bs<2 ^ 42→(Ord c l→Lx c l bs n)→
  ∃d y,bM.l1 m (n:Int) cmp f l (bs:Int)=some (d,y)∧d.Perm l∧(Ord c l→Sg c d 0 n)
 | 0,bs,l,_,_,_,hf,_,_,_=>absurd hf (by omega)
 | f+1,bs,l,hn,hs,C,hf,hb,hb2,B=>by
  have sK:(2:Nat) ^ 40=1099511627776:=by decide
  have xU:(2:Nat) ^ 41=2199023255552:=by decide
  have Pf:(2:Nat) ^ 42=4398046511104:=by decide
  unfold bM.l1
  by_cases h:bs<n
  ·have e2:i64.wrap ((2:Int)*(bs:Int))=((2*bs:Nat):Int):=by rw [bH (by omega) (by omega)]; omega
   have e3:i64.wrap ((bs:Int)*(2:Int))=((2*bs:Nat):Int):=by rw [bH (by omega) (by omega)]; omega
   obtain⟨d1,t,y,k1,k2,k3,M1,S1⟩:=ER (cmp:=cmp) (c:=c) hm hn hs hb h C B m 0 l (by omega) (by omega) Mv.refl (fun O k hk=>absurd hk (by omega))
   have l1:=M1.length
   simp only [Nat.zero_mul,UR] at k1
   have k1:bM.l2 m (n:Int) cmp (bs:Int) m l (0:Int) ((2*bs:Nat):Int)=_:=k1
   rw [if_pos (by simp only [decide_eq_true_eq]; omega),e2,k1,Uu]
   dsimp only
   rw [e3]
   have q1:(2*t)*bs=t*(2*bs):=by rw [Nat.mul_assoc,Nat.mul_left_comm]
   have q2:(2*t+1)*bs=t*(2*bs)+bs:=by rw [Nat.succ_mul,q1]
   have hk:∀k,k<t→k*(2*bs)+2*bs≤t*(2*bs):=fun k hk=>by
    rw [←Nat.succ_mul]; exact Vm _ hk
   have rG:∀k,t<k→t*(2*bs)+2*bs≤k*(2*bs):=fun k hk=>by
    rw [←Nat.succ_mul]; exact Vm _ hk
   have e0:i64.wrap (((t*(2*bs):Nat):Int)+(bs:Int))=((t*(2*bs)+bs:Nat):Int):=by rw [bH (by omega) (by omega)]; omega
   rw [e0]
   by_cases h2:t*(2*bs)+bs<n
   ·obtain⟨d2,e4,M2,S2⟩:=oN (cmp:=cmp) (c:=c) hm m d1 (t*(2*bs)) (t*(2*bs)+bs) n (by omega) (by omega) (by omega) (by omega) (by omega) (C.perm M1.perm)
    rw [if_pos (by simp only [decide_eq_true_eq]; omega),e4,Uu]
    have P2:=M2.perm.trans M1.perm
    obtain⟨d,y,g1,g2,g3⟩:=y8 (n:=n) hm f (2*bs) d2 (by have:=P2.length_eq; omega) (by have:=P2.length_eq; omega) (C.perm P2) (by omega) (by omega) (by omega) (fun O k i j w1 w2 w3 w4=>by
     have O:=O.perm P2.symm
     by_cases u1:k<t
     ·have:=hk k u1
      rw [M2.out i (by omega),M2.out j (by omega)]; exact S1 O k u1 _ _ w1 w2 w3
     ·by_cases u2:k=t
      ·subst u2
       refine S2 (O.perm M1.perm) (fun i j x1 x2 x3=>?_) (fun i j x1 x2 x3=>?_) _ _ w1 w2 w4
       ·rw [M1.out i (by omega),M1.out j (by omega)]; exact B O (2*k) i j (by omega) x2 (by omega) (by omega)
       ·rw [M1.out i (by omega),M1.out j (by omega)]; exact B O (2*k+1) i j (by omega) x2 (by omega) (by omega)
      ·have:=rG k (by omega); omega)
    exact⟨d,y,g1,g2.trans P2,fun O=>g3 (O.perm P2)⟩
   ·rw [if_neg (by simp only [decide_eq_true_eq]; omega)]
    have P2:=M1.perm
    obtain⟨d,y,g1,g2,g3⟩:=y8 (n:=n) hm f (2*bs) d1 (by have:=P2.length_eq; omega) (by have:=P2.length_eq; omega) (C.perm P2) (by omega) (by omega) (by omega) (fun O k i j w1 w2 w3 w4=>by
     have O:=O.perm P2.symm
     by_cases u1:k<t
     ·exact S1 O k u1 _ _ w1 w2 w3
     ·by_cases u2:k=t
      ·subst u2
       rw [M1.out i (by omega),M1.out j (by omega)]; exact B O (2*k) i j (by omega) w2 (by omega) (by omega)
      ·have:=rG k (by omega); omega)
    exact⟨d,y,g1,g2.trans P2,fun O=>g3 (O.perm P2)⟩
  ·refine⟨l,bs,by rw [if_neg (by simp only [decide_eq_true_eq]; omega)],List.Perm.refl _,fun O i j w1 w2 w3=>B O 0 i j (by omega) w2 (by omega) w3⟩
theorem Ci (hm:2 ^ 41≤m){l:List Int}(hs:l.length<2 ^ 40)(C:Cm cmp c l):∃d,eX.f m l cmp=some d∧d.Perm l∧(Ord c l→Sg c d 0 l.length):=by
 have sK:(2:Nat) ^ 40=1099511627776:=by decide
 have xU:(2:Nat) ^ 41=2199023255552:=by decide
 have Pf:(2:Nat) ^ 42=4398046511104:=by decide
 unfold eX.f bM.f
 obtain⟨d1,t,y,k1,k2,k3,M1,S1⟩:=EP (cmp:=cmp) (c:=c) hm rfl hs C m 0 l (by omega) (by omega) Mv.refl (fun O k hk=>absurd hk (by omega))
 have k1:bM.l0 m (l.length:Int) cmp m l (0:Int) (20:Int)=_:=k1
 have l1:=M1.length
 rw [k1,Uu]
 dsimp only
 obtain⟨d2,e2,M2,S2⟩:=xt (a:=20*t) (b:=l.length) (cmp:=cmp) (c:=c) hm (l:=d1) (by omega) (by omega) (by omega) (C.perm M1.perm)
 rw [e2,Uu]
 have P2:=M2.perm.trans M1.perm
 obtain⟨d,y,g1,g2,g3⟩:=y8 (cmp:=cmp) (c:=c) (n:=l.length) hm m 20 d2 P2.length_eq.symm (by rw [P2.length_eq]; exact hs) (C.perm P2) (by omega) (by omega) (by omega) (fun O k i j w1 w2 w3 w4=>by
  have O:=O.perm P2.symm
  by_cases u1:k<t
  ·rw [M2.out i (by omega),M2.out j (by omega)]; exact S1 O k u1 _ _ (by omega) w2 (by omega)
  ·exact S2 (O.perm M1.perm) _ _ (by omega) w2 (by omega))
 have g1:bM.l1 m (l.length:Int) cmp m d2 (20:Int)=_:=g1
 rw [g1]
 exact⟨d,rfl,g2.trans P2,fun O=>g3 (O.perm P2)⟩
end
end Go.Proofs.Ytifafejidnjckaa
namespace Go.Proofs.Ytifafejidnjckaa
open Go Go.R
open Go.IntKind (i64 u64 u8 u32)
def kh (t:br):Bool:=decide (1≤t.nodes.length)&&decide (t.nodes.length≤8000)&&decide (0≤t.root)&&decide (t.root<t.nodes.length)&&t.nodes.all fun n=>oM n t.nodes.length
theorem y9 {m:Nat}(hm:2 ^ 30≤m)(t:br):gG.f m t=some (kh t):=by
 have Jn:(2:Nat) ^ 30=1073741824:=by decide
 have sK:(2:Nat) ^ 40=1099511627776:=by decide
 unfold gG.f kh
 by_cases h1:1≤t.nodes.length
 ·rw [if_pos (by simp only [decide_eq_true_eq]; omega),decide_eq_true h1]
  by_cases h2:t.nodes.length≤8000
  ·rw [if_pos (by simp only [decide_eq_true_eq]; omega),decide_eq_true h2]
   by_cases h3:0≤t.root
   ·rw [if_pos (by simp only [decide_eq_true_eq]; omega),decide_eq_true h3]
    by_cases h4:t.root<t.nodes.length
    ·rw [if_pos (by simp only [decide_eq_true_eq]; omega),decide_eq_true h4]
     rw [Cg (g:=fun n=>!(oM n t.nodes.length)) (by omega) (by omega) (fun n _=>by unfold fR.f; rw [Ch (by omega)]; rfl),Uu]
     simp [List.not_any_eq_all_not]
    ·rw [if_neg (by simp only [decide_eq_true_eq]; omega),decide_eq_false h4]; rfl
   ·rw [if_neg (by simp only [decide_eq_true_eq]; omega),decide_eq_false h3]; rfl
  ·rw [if_neg (by simp only [decide_eq_true_eq]; omega),decide_eq_false h2]; rfl
 ·rw [if_neg (by simp only [decide_eq_true_eq]; omega),decide_eq_false h1]; rfl
def cI (x y:Int):Int:=if x<y then -1 else if y<x then 1 else 0
def cS (x y:ByteArray):Int:=if Op.bytesLess x.data.toList y.data.toList=true then -1 else if (!DA x y)=true then 1 else 0
def Cj (x y:Int):Int:=if x=0 then y else x
def cT (a b:aq):Int:=if a.kind=b.kind then (if a.kind=3 then Cj (cI a.args.length b.args.length) (cS a.label b.label) else Cj (cS a.label b.label) (cI a.int b.int)) else cI a.kind b.kind
theorem vu {m:Nat}(x y:Int):cF.f m x y=some (cI x y):=by
 unfold cF.f cmp_isNaN_int.f cI
 simp only [beq_self_eq_true,Vu,Uu,UE,if_false]
 by_cases h:x<y
 ·rw [if_pos (by simpa using h),if_pos h]
 ·rw [if_neg (by simpa using h),if_neg h]
  by_cases h2:y<x
  ·rw [if_pos (by simpa using h2),if_pos h2]
  ·rw [if_neg (by simpa using h2),if_neg h2]
theorem A9 {m:Nat}(x y:ByteArray):ca.f m x y=some (cS x y):=by
 unfold ca.f cmp_isNaN_string.f cS
 simp only [beq_self_eq_true,Vu,Uu,UE,if_false]
 split
 ·rfl
 ·split
  ·rfl
  ·rfl
theorem xu {m:Nat}(hm:3≤m)(x y:Int):b5.f m [x,y]=some (Cj x y):=by
 obtain⟨k,rfl⟩:∃k,m=k+3:=⟨m - 3,by omega⟩
 unfold b5.f Cj
 have e1:i64.wrap ((0:Int)+1)=1:=by decide
 have e2:i64.wrap ((1:Int)+1)=2:=by decide
 have a0:ix [x,y] 0=some x:=rfl
 have a1:ix [x,y] 1=some y:=rfl
 unfold b5.l0
 rw [if_pos (by simp),a0,Uu]
 by_cases h:x=0
 ·subst h
  rw [if_neg (by simp),e1,if_pos rfl]
  unfold b5.l0
  rw [if_pos (by simp),a1,Uu]
  by_cases h2:y=0
  ·subst h2
   rw [if_neg (by simp),e2]
   unfold b5.l0
   rw [if_neg (by simp)]; rfl
  ·rw [if_pos (by simpa using h2)]; rfl
 ·rw [if_pos (by simpa using h),if_neg h]; rfl
theorem Ba {m:Nat}(hm:3≤m)(a b:aq):dh.f m a b=some (cT a b):=by
 unfold dh.f cT
 by_cases h:a.kind=b.kind
 ·rw [if_neg (by simp [h]),if_pos h]
  by_cases h3:a.kind=3
  ·rw [if_pos (by simpa using h3),if_pos h3,vu,A9,Uu,Uu,xu hm]; rfl
  ·rw [if_neg (by simpa using h3),if_neg h3,vu,A9,Uu,Uu,xu hm]; rfl
 ·rw [if_pos (by simpa using h),if_neg h,vu]; rfl
def nd (l:List aq)(i:Int):aq:=l.getD i.toNat ⟨0,0,⟨#[]⟩,[]⟩
theorem sC {l:List aq}{i:Int}(h0:0≤i)(h1:i<l.length):ix l i=some (nd l i):=by
 unfold ix nd
 have h:i.toNat<l.length:=by omega
 rw [if_pos h0,UP,UC h]; rfl
theorem ki {l:List aq}{i:Int}(h0:0≤i)(h1:i<l.length):nd l i∈l:=by
 have:=sC h0 h1
 unfold ix at this
 rw [if_pos h0] at this
 exact UM this
theorem ES {m:Nat}(hm:3≤m){l:List aq}{i j:Int}(h0:0≤i)(h1:i<l.length)(h2:0≤j)(h3:j<l.length):dG.f m i j l=some (cT (nd l i) (nd l j)):=by
 unfold dG.f
 rw [sC h0 h1,sC h2 h3,Uu,Uu,Ba hm]; rfl
end Go.Proofs.Ytifafejidnjckaa
namespace Go.Proofs.Ytifafejidnjckaa
open Go Go.R
open Go.IntKind (i64 u64 u8 u32)
def key (out:List Int)(n:aq)(i:Nat):List Int:=(gt out i+1)::((n.args.map fun a=>gt out a.toNat+1)++UL (8 - n.args.length) 0)
def enum:List (List Int)→Nat→List (List Int × Int)
 | [],_=>[]
 | k::ks,s=>(k,(s:Int))::enum ks (s+1)
theorem mB:∀(ks:List (List Int)) (s:Nat),(enum ks s).length=ks.length
 | [],_=>rfl
 | k::ks,s=>by simp [enum,mB ks]
theorem sD:∀(ks:List (List Int)) (s:Nat) (k:List Int),rW (enum ks s) k=if k∈ks then (((s+ks.idxOf k:Nat):Int),true) else (0,false)
 | [],s,k=>rfl
 | a::ks,s,k=>by
  simp only [enum,rW,sD ks (s+1) k,UT,List.idxOf_cons]
  by_cases h:k=a
  ·subst h; simp
  ·have h':(a==k)=false:=by simpa using fun z:a=k=>h z.symm
   rw [if_neg h,h']
   by_cases h2:k∈ks
   ·simp only [h2,if_true,or_true,cond_false]
    simp only [UB,and_true]
    omega
   ·simp [h2,h]
theorem xw:∀(ks:List (List Int)) (s:Nat) (k:List Int),k∉ks→yB (enum ks s) k ((s+ks.length:Nat):Int)=enum (ks++[k]) s
 | [],s,k,_=>rfl
 | a::ks,s,k,h=>by
  have h1:k≠a:=fun z=>h (by simp [z])
  have h2:k∉ks:=fun z=>h (by simp [z])
  simp only [enum,yB,U6,if_neg h1,UI]
  rw [show s+(ks.length+1)=s+1+ks.length by omega,xw ks (s+1) k h2]
theorem mS {n:Nat}:∀(ks:List (List Int)) (s:Nat) (k:List Int),k.length=n→(∀a∈ks,a.length=n)→rV n (enum ks s) k=true
 | [],s,k,h,_=>by simp [rV,enum,h]
 | a::ks,s,k,h,h2=>by
  have:=mS ks (s+1) k h fun a ha=>h2 a (by simp [ha])
  simp only [rV,Ux,beq_iff_eq,h,true_and] at this ⊢
  simp only [enum,Vi,Ux,beq_iff_eq]
  exact⟨h2 a (by simp),this⟩
structure Part (n:Nat)(out:List Int)(many:Nat):Prop where
 len:out.length=n
 Bb:∀i,i<n→0≤gt out i∧gt out i≤many
 QU:∀v:Nat,v≤many→∃i,i<n∧gt out i=v
structure pD (l:List aq)(out:List Int)(p:Nat)(ks:List (List Int)):Prop where
 GK:ks.Nodup
 mem:∀k,k∈ks↔∃i,i<p∧key out (nd l i) i=k
def Bc (l:List aq):Prop:=l.length≤8000∧∀n∈l,n.args.length≤8∧∀a∈n.args,0≤a∧a<l.length
theorem GL {a:Int}{L:List Int}{t:Nat}{v:Int}(hL:L.length=t)(ht:t<8):(a::(L++UL (8 - t) 0)).set (t+1) v=a::((L++[v])++UL (8 - (t+1)) 0):=by
 rw [List.set_cons_succ,List.set_append_right _ _ (by omega),hL,V3,show 8 - t=(8 - (t+1))+1 by omega,List.replicate_succ,List.set_cons_zero,UK]
 rfl
theorem ET {m:Nat}{out:List Int}{n:aq}(h8:n.args.length≤8)(ha:∀a∈n.args,0≤a∧a<out.length)(ho:∀i,i<out.length→0≤gt out i∧gt out i<2 ^ 40)(o:Int):∀(f t:Nat),n.args.length - t<f→t≤n.args.length→
  ∃x,ax.l4 m out n f (o::(((n.args.take t).map fun a=>gt out a.toNat+1)++UL (8 - t) 0)) (t:Int)=some (o::((n.args.map fun a=>gt out a.toNat+1)++UL (8 - n.args.length) 0),x)
 | 0,t,hf,_=>absurd hf (by omega)
 | f+1,t,hf,ht=>by
  have sK:(2:Nat) ^ 40=1099511627776:=by decide
  have i40:(2:Int) ^ 40=1099511627776:=by decide
  unfold ax.l4
  by_cases h:t<n.args.length
  ·have hx:ix n.args (t:Int)=some (gt n.args t):=fD h
   obtain⟨b0,b1⟩:=ha _ (bN h)
   obtain⟨c0,c1⟩:=ho (gt n.args t).toNat (by omega)
   have hy:ix out (gt n.args t)=some (gt out (gt n.args t).toNat):=yY (by omega) (by omega)
   have e1:i64.wrap ((t:Int)+1)=((t+1:Nat):Int):=by rw [bH (by omega) (by omega)]; omega
   have hT:((n.args.take t).map fun a=>gt out a.toNat+1).length=t:=by simp; omega
   have hz:∃z,ix (o::(((n.args.take t).map fun a=>gt out a.toNat+1)++UL (8 - t) 0)) ((t+1:Nat):Int)=some z:=⟨_,fD (by simp; omega)⟩
   obtain⟨z,hz⟩:=hz
   obtain⟨x,ih⟩:=ET (m:=m) h8 ha ho o f (t+1) (by omega) (by omega)
   have hT1:n.args.take (t+1)=n.args.take t++[gt n.args t]:=by rw [List.take_add_one,dY h]; rfl
   rw [hT1,U0] at ih
   rw [if_pos (by simp only [decide_eq_true_eq]; omega),hx,Uu,hy,Uu,e1,hz,Uu,UG,bH (x:=gt out (gt n.args t).toNat+1) (by omega) (by omega),GL hT (by omega)]
   exact⟨x,ih⟩
  ·have:t=n.args.length:=by omega
   subst this
   exact⟨_,by rw [if_neg (by simp),List.take_length]⟩
theorem sE {out:List Int}{n:aq}{i:Nat}(h8:n.args.length≤8):(key out n i).length=9:=by simp [key]; omega
theorem Hz {l:List aq}(ok:Bc l){i:Nat}(h:i<l.length):(nd l i).args.length≤8∧∀a∈(nd l i).args,0≤a∧a<l.length:=ok.2 _ (ki (by omega) (by omega))
theorem za {m:Nat}(hm:2 ^ 30≤m){l:List aq}{out:List Int}{many:Nat}(ok:Bc l)(P:Part l.length out many)(HA:many<2 ^ 30):∀(f p:Nat) (ks:List (List Int)) (next:List Int),l.length - p<f→p≤l.length→pD l out p ks→next.length=l.length→
  (∀i,i<p→gt next i=(ks.idxOf (key out (nd l i) i):Int))→
  ∃Ph next' x,ax.l3 m l out f (enum ks 0) next (p:Int)=some (enum Ph 0,next',x)∧pD l out l.length Ph∧next'.length=l.length∧∀i,i<l.length→gt next' i=(Ph.idxOf (key out (nd l i) i):Int)
 | 0,p,ks,next,hf,_,_,_,_=>absurd hf (by omega)
 | f+1,p,ks,next,hf,hp,K,hn,hg=>by
  have Jn:(2:Nat) ^ 30=1073741824:=by decide
  have sK:(2:Nat) ^ 40=1099511627776:=by decide
  have i40:(2:Int) ^ 40=1099511627776:=by decide
  have h8000:=ok.1
  have FN:=P.len
  unfold ax.l3
  by_cases h:p<l.length
  ·obtain⟨n1,n2⟩:=Hz ok h
   obtain⟨r0,r1⟩:=P.Bb p h
   have e1:i64.wrap ((p:Int)+1)=((p+1:Nat):Int):=by rw [bH (by omega) (by omega)]; omega
   obtain⟨x,hk⟩:=ET (m:=m) (out:=out) (n:=nd l p) n1 (by rw [FN]; exact n2) (fun i hi=>by have:=P.Bb i (by omega); omega) (gt out p+1) m 0 (by omega) (by omega)
   have hk:ax.l4 m out (nd l p) m [gt out p+1,0,0,0,0,0,0,0,0] 0=some (key out (nd l p) p,x):=hk
   have Mj:=sE (out:=out) (i:=p) n1
   have zz:∀a∈ks,a.length=9:=fun a ha=>by
    obtain⟨i,hi,rfl⟩:=(K.mem a).1 ha
    exact sE (Hz ok (by omega)).1
   have Pj:∃z,ix next (p:Int)=some z:=⟨_,fD (by omega)⟩
   obtain⟨z,hz⟩:=Pj
   rw [if_pos (by simp only [decide_eq_true_eq]; omega),sC (by omega) (by omega),Uu,fD (by omega),Uu,bH (x:=gt out p+1) (by omega) (by omega),hk,Uu]
   dsimp only
   have hG:Gc 9 (enum ks 0) (key out (nd l p) p)=some (if key out (nd l p) p∈ks then (((ks.idxOf (key out (nd l p) p):Nat):Int),true) else (0,false)):=by
    unfold Gc; rw [if_pos (mS _ _ _ Mj zz),sD,UR]
   rw [hG,Uu,e1,hz]
   by_cases hin:key out (nd l p) p∈ks
   ·rw [if_pos hin,if_neg (by simp),Uu,Uu,UG]
    refine za hm ok P HA f (p+1) ks _ (by omega) (by omega) ⟨K.GK,fun k=>⟨fun hk=>?_,fun ⟨i,hi,rG⟩=>?_⟩⟩ (by simpa using hn) (fun i hi=>?_)
    ·obtain⟨i,hi,h⟩:=(K.mem k).1 hk; exact⟨i,by omega,h⟩
    ·by_cases GM:i=p
     ·subst GM; rw [←rG]; exact hin
     ·exact (K.mem k).2 ⟨i,by omega,rG⟩
    ·rw [pC (by omega)]
     by_cases GM:i=p
     ·subst GM; rw [if_pos rfl]
     ·rw [if_neg GM]; exact hg i (by omega)
   ·have hS:KD 9 (enum ks 0) (key out (nd l p) p) (((enum ks 0).length:Nat):Int)=some (enum (ks++[key out (nd l p) p]) 0):=by
     unfold KD; rw [if_pos (mS _ _ _ Mj zz),mB]
     have:=xw ks 0 _ hin
     rw [UR] at this
     rw [this]
    have hid:(ks++[key out (nd l p) p]).idxOf (key out (nd l p) p)=ks.length:=by
     rw [List.idxOf_append,if_neg hin,List.idxOf_cons_self,UR]
    have Tb:Gc 9 (enum (ks++[key out (nd l p) p]) 0) (key out (nd l p) p)=some (((ks.length:Nat):Int),true):=by
     unfold Gc
     rw [if_pos (mS _ _ _ Mj (fun a ha=>by rcases UZ.1 ha with ha | ha; exact zz a ha; simp only [UU] at ha; rw [ha]; exact Mj)),sD,if_pos (by simp),UR,hid]
    rw [if_neg hin,if_pos (by simp),hS,Uu,Tb,Uu,Uu,UG]
    refine za hm ok P HA f (p+1) (ks++[key out (nd l p) p]) _ (by omega) (by omega) ⟨?_,fun k=>⟨fun hk=>?_,fun ⟨i,hi,rG⟩=>?_⟩⟩ (by simpa using hn) (fun i hi=>?_)
    ·rw [List.nodup_append]
     refine⟨K.GK,by simp,fun a ha b hb=>?_⟩
     simp only [UU] at hb
     subst hb; intro e; subst e; exact hin ha
    ·rcases UZ.1 hk with hk | hk
     ·obtain⟨i,hi,h⟩:=(K.mem k).1 hk; exact⟨i,by omega,h⟩
     ·simp only [UU] at hk; exact⟨p,by omega,hk.symm⟩
    ·by_cases GM:i=p
     ·subst GM; rw [←rG]; simp
     ·exact Vo _ ((K.mem k).2 ⟨i,by omega,rG⟩)
    ·rw [pC (by omega)]
     by_cases GM:i=p
     ·subst GM; rw [if_pos rfl,hid]
     ·rw [if_neg GM,List.idxOf_append,if_pos ((K.mem _).2 ⟨i,by omega,rfl⟩)]; exact hg i (by omega)
  ·have:p=l.length:=by omega
   subst this
   exact⟨ks,next,_,by rw [if_neg (by simp)],K,hn,hg⟩
theorem GN {l:List aq}{out:List Int}{ks:List (List Int)}(K:pD l out l.length ks):ks.length≤l.length:=by
 have:=K.GK.length_le_of_subset (l₂:=(VX l.length).map fun i:Nat=>key out (nd l i) i) (fun k hk=>by
  obtain⟨i,hi,h⟩:=(K.mem k).1 hk
  exact U8.2 ⟨i,VY.2 hi,h⟩)
 simpa using this
theorem Bd {l:List aq}{out:List Int}{many:Nat}{ks:List (List Int)}(P:Part l.length out many)(K:pD l out l.length ks):many+1≤ks.length:=by
 have hn:((VX (many+1)).map fun v:Nat=>((v:Int)+1)).Nodup:=by
  unfold List.Nodup
  rw [List.pairwise_map]
  exact List.Pairwise.imp (fun h=>by omega) List.nodup_range
 have:=hn.length_le_of_subset (l₂:=ks.map fun k=>k.headD 0) (fun x hx=>by
  obtain⟨v,hv,rfl⟩:=U8.1 hx
  obtain⟨i,hi,h⟩:=P.QU v (by have:=VY.1 hv; omega)
  exact U8.2 ⟨_,(K.mem _).2 ⟨i,hi,rfl⟩,by simp [key,h]⟩)
 simpa using this
theorem Ck {l:List aq}{out next:List Int}{many:Nat}{ks:List (List Int)}(P:Part l.length out many)(K:pD l out l.length ks)(hn:next.length=l.length)(hg:∀i,i<l.length→gt next i=(ks.idxOf (key out (nd l i) i):Int)):Part l.length next (ks.length - 1):=by
 have:=Bd P K
 refine⟨hn,fun i hi=>?_,fun v hv=>?_⟩
 ·have:=VO ((K.mem _).2 ⟨i,hi,rfl⟩)
  rw [hg i hi]; omega
 ·have hv:v<ks.length:=by omega
  obtain⟨i,hi,h⟩:=(K.mem _).1 (List.getElem_mem hv)
  refine⟨i,hi,?_⟩
  rw [hg i hi,h,K.GK.idxOf_getElem]
theorem EU {m:Nat}(hm:2 ^ 30≤m){l:List aq}(ok:Bc l)(Inv:List Int→Prop)
  (hI:∀out many ks next,Part l.length out many→Inv out→pD l out l.length ks→next.length=l.length→(∀i,i<l.length→gt next i=(ks.idxOf (key out (nd l i) i):Int))→Inv next):∀(f:Nat) (out:List Int) (many:Nat),l.length - many<f→many<l.length→Part l.length out many→Inv out→
  ∃r HB ks,ax.l2 m l f out (many:Int)=some (.inl r)∧Part l.length r HB∧Inv r∧pD l r l.length ks∧ks.length=HB+1
 | 0,out,many,hf,_,_,_=>absurd hf (by omega)
 | f+1,out,many,hf,hlt,P,I=>by
  have Jn:(2:Nat) ^ 30=1073741824:=by decide
  have h8000:=ok.1
  unfold ax.l2
  have e0:CB 8 (l.length:Int) (0:Int)=some (UL l.length 0):=by unfold CB; rw [if_pos ⟨by omega,by rw [UG]; omega⟩,UG]
  obtain⟨ks,next,x,h1,K,hn,hg⟩:=za hm ok P (by omega) m 0 [] (UL l.length 0) (by omega) (by omega) ⟨by simp,fun k=>⟨fun h=>by simp at h,fun ⟨i,hi,_⟩=>absurd hi (by omega)⟩⟩ (by simp) (fun i hi=>absurd hi (by omega))
  have h1:ax.l3 m l out m [] (UL l.length 0) 0=_:=h1
  have g1:=GN K
  have g2:=Bd P K
  rw [e0,Uu,h1,Uu]
  dsimp only
  rw [mB,bH (x:=(many:Int)+1) (by omega) (by omega),bH (x:=(ks.length:Int) - 1) (by omega) (by omega)]
  by_cases h:ks.length=many+1
  ·rw [if_pos (by simp; omega)]
   exact⟨out,many,ks,rfl,P,I,K,h⟩
  ·rw [if_neg (by simp; omega),show (ks.length:Int) - 1=((ks.length - 1:Nat):Int) by omega]
   exact EU hm ok Inv hI f next (ks.length - 1) (by omega) (by omega) (Ck P K hn hg) (hI _ _ _ _ P I K hn hg)
end Go.Proofs.Ytifafejidnjckaa
namespace Go.Proofs.Ytifafejidnjckaa
open Go Go.R
open Go.IntKind (i64 u64 u8 u32)
def ints (n:Nat):List Int:=(VX n).map fun k:Nat=>(k:Int)
theorem eY (n:Nat):(ints n).length=n:=by simp [ints]
theorem GO {n k:Nat}(h:k<n):gt (ints n) k=k:=by
 have h1:=dY (l:=ints n) (k:=k) (by rw [eY]; exact h)
 have h2:(ints n)[k]? = some (k:Int):=by
  unfold ints
  rw [Vv,UC (by simpa using h)]
  simp
 rw [h2] at h1; exact (Vf h1).symm
theorem jJ {n:Nat}{x:Int}:x∈ints n↔0≤x∧x<n:=by
 unfold ints
 rw [U8]
 constructor
 ·rintro⟨k,hk,rfl⟩; have:=VY.1 hk; omega
 ·intro h; exact⟨x.toNat,VY.2 (by omega),by omega⟩
theorem zb (n:Nat):(ints n).Nodup:=by
 unfold ints List.Nodup
 rw [List.pairwise_map]
 exact List.Pairwise.imp (fun h=>by omega) List.nodup_range
theorem Jo {l:List Int}(h:l.Nodup){i j:Nat}(hi:i<l.length)(hj:j<l.length)(e:gt l i=gt l j):i=j:=by
 have h1:=dY hi
 have h2:=dY hj
 rw [UC hi] at h1
 rw [UC hj] at h2
 have h1:=Vf h1
 have h2:=Vf h2
 exact (List.getElem_inj (h₀:=hi) (h₁:=hj) h).1 (by rw [h1,h2,e])
theorem tY {l:List Int}{x:Int}(h:x∈l):∃k,k<l.length∧gt l k=x:=by
 obtain⟨k,hk,e⟩:=List.getElem_of_mem h
 refine⟨k,hk,?_⟩
 have h1:=dY hk
 rw [UC hk,e] at h1
 exact (Vf h1).symm
theorem EV {m:Nat}{z:List Int}(hz:z.length<2 ^ 40):∀(f i:Nat) (d:List Int),z.length - i<f→i≤z.length→d.length=z.length→(∀k,k<i→gt d k=k)→
  ∃x,ax.l0 m z f d (i:Int)=some (ints z.length,x)
 | 0,i,d,hf,_,_,_=>absurd hf (by omega)
 | f+1,i,d,hf,hi,hd,hg=>by
  have sK:(2:Nat) ^ 40=1099511627776:=by decide
  unfold ax.l0
  by_cases h:i<z.length
  ·obtain⟨v,hv⟩:∃v,ix d (i:Int)=some v:=⟨_,fD (by omega)⟩
   rw [if_pos (by simp only [decide_eq_true_eq]; omega),hv,Uu,UG,bH (by omega) (by omega),show (i:Int)+1=((i+1:Nat):Int) by omega]
   refine EV hz f (i+1) _ (by omega) (by omega) (by simpa using hd) fun k hk=>?_
   rw [pC (by omega)]
   by_cases e:k=i
   ·subst e; rw [if_pos rfl]
   ·rw [if_neg e]; exact hg k (by omega)
  ·refine⟨i,?_⟩
   rw [if_neg (by simp only [decide_eq_true_eq]; omega)]
   have:d=ints z.length:=Jk (by rw [eY,hd]) fun k hk=>by rw [hg k (by omega),GO (by omega)]
   rw [this]
def rk (l:List aq)(d:List Int):Nat→Nat
 | 0=>0
 | k+1=>rk l d k+if cT (nd l (gt d k)) (nd l (gt d (k+1)))=0 then 0 else 1
theorem EW (l:List aq)(d:List Int):∀k,rk l d k≤k
 | 0=>Uy _
 | k+1=>by have:=EW l d k; unfold rk; split<;>omega
theorem vw (l:List aq)(d:List Int)(i:Nat):∀j,i≤j→rk l d i≤rk l d j
 | 0,h=>by
   have:i=0:=by omega
   subst this; exact Uy _
 | j+1,h=>by
  by_cases e:i=j+1
  ·subst e; exact Uy _
  ·have:=vw l d i j (by omega)
   show _≤rk l d j+_
   omega
theorem EX (l:List aq)(d:List Int):∀(j v:Nat),v≤rk l d j→∃k,k≤j∧rk l d k=v
 | 0,v,h=>⟨0,Uy _,by unfold rk at h ⊢; omega⟩
 | j+1,v,h=>by
  by_cases e:v=rk l d (j+1)
  ·exact⟨j+1,Uy _,e.symm⟩
  ·have h2:rk l d (j+1)≤rk l d j+1:=by show rk l d j+_≤_; split<;>omega
   obtain⟨k,hk,e⟩:=EX l d j v (by omega)
   exact⟨k,by omega,e⟩
theorem EY {m:Nat}(hm:3≤m){l:List aq}{o d:List Int}(hl:l.length≤8000)(ho:o.length=l.length)(hp:d.Perm (ints l.length)):∀(f p:Nat) (out:List Int),l.length - p<f→p≤l.length→out.length=l.length→(∀k,k<p→gt out (gt d k).toNat=rk l d k)→
  ∃Jp x,ax.l1 m l o d f out ((rk l d (p - 1):Nat):Int) (p:Int)=some (Jp,((rk l d (l.length - 1):Nat):Int),x)∧Jp.length=l.length∧∀k,k<l.length→gt Jp (gt d k).toNat=rk l d k
 | 0,p,out,hf,_,_,_=>absurd hf (by omega)
 | f+1,p,out,hf,zp,Ly,hg=>by
  have Pb:d.length=l.length:=by rw [hp.length_eq,eY]
  have hd:∀k,k<l.length→0≤gt d k∧gt d k<l.length:=fun k hk=>jJ.1 (hp.mem_iff.1 (bN (by omega)))
  have HC:d.Nodup:=hp.symm.nodup (zb _)
  unfold ax.l1
  by_cases h:p<l.length
  ·obtain⟨d0,d1⟩:=hd p h
   have C5:∀k,k<p+1→gt (out.set (gt d p).toNat ((rk l d p:Nat):Int)) (gt d k).toNat=rk l d k:=fun k hk=>by
    rw [pC (by omega)]
    by_cases e:k=p
    ·subst e; rw [if_pos rfl]
    ·have:gt d k≠gt d p:=fun h=>e (Jo HC (by omega) (by omega) h)
     have:=hd k (by omega)
     rw [if_neg (by omega)]; exact hg k (by omega)
   obtain⟨z,hz⟩:∃z,ix out (gt d p)=some z:=⟨_,yY (k:=(gt d p).toNat) (by omega) (by omega)⟩
   have e1:i64.wrap ((p:Int)+1)=((p+1:Nat):Int):=by rw [bH (by omega) (by omega)]; omega
   have hr:=EW l d p
   have IH:=EY hm hl ho hp f (p+1) (out.set (gt d p).toNat ((rk l d p:Nat):Int)) (by omega) (by omega) (by simpa using Ly) C5
   rw [show p+1 - 1=p by omega] at IH
   rw [if_pos (by simp only [decide_eq_true_eq]; omega),fD (by omega),Uu]
   by_cases h0:0<p
   ·obtain⟨q,rfl⟩:∃q,p=q+1:=⟨p - 1,by omega⟩
    obtain⟨q0,q1⟩:=hd q (by omega)
    rw [show q+1 - 1=q by omega]
    have e2:i64.wrap (((q+1:Nat):Int) - 1)=(q:Int):=by rw [bH (by omega) (by omega)]; omega
    rw [if_pos (by simp only [decide_eq_true_eq]; omega),e2,fD (by omega),Uu,sC q0 q1,Uu,sC d0 d1,Uu,Ba hm,Uu,hz,e1]
    by_cases hc:cT (nd l (gt d q)) (nd l (gt d (q+1)))=0
    ·have Pk:rk l d (q+1)=rk l d q:=by show rk l d q+_=_; rw [if_pos hc]; omega
     rw [if_neg (by simp [hc]),Uu]
     rw [Pk] at IH; exact IH
    ·have Pk:rk l d (q+1)=rk l d q+1:=by show rk l d q+_=_; rw [if_neg hc]
     rw [if_pos (by simpa using hc),Uu,bH (by omega) (by omega)]
     rw [Pk] at IH; exact IH
   ·have:p=0:=by omega
    subst this
    rw [if_neg (by simp),hz,Uu,e1]
    exact IH
  ·have:p=l.length:=by omega
   subst this
   exact⟨out,_,by rw [if_neg (by simp only [decide_eq_true_eq]; omega)],Ly,hg⟩
theorem GP {m:Nat}(hm:3≤m)(l:List aq):Cm (fun y0 y1=>dG.f m y0 y1 l) (fun x y=>cT (nd l x) (nd l y)) (ints l.length):=fun x hx y hy=>by
 have hx:=jJ.1 hx
 have hy:=jJ.1 hy
 exact ES hm hx.1 hx.2 hy.1 hy.2
theorem vz {m:Nat}(hm:2 ^ 41≤m){l:List aq}(ok:Bc l)(h1:1≤l.length)(Inv:List Int→Prop)
  (hI0:∀d out,d.Perm (ints l.length)→(Ord (fun x y=>cT (nd l x) (nd l y)) (ints l.length)→Sg (fun x y=>cT (nd l x) (nd l y)) d 0 l.length)→(∀k,k<l.length→gt out (gt d k).toNat=rk l d k)→Inv out)
  (hI:∀out many ks next,Part l.length out many→Inv out→pD l out l.length ks→next.length=l.length→(∀i,i<l.length→gt next i=(ks.idxOf (key out (nd l i) i):Int))→Inv next) :
  ∃r many ks,ax.f m l=some r∧Part l.length r many∧Inv r∧pD l r l.length ks∧ks.length=many+1:=by
 have sK:(2:Nat) ^ 40=1099511627776:=by decide
 have xU:(2:Nat) ^ 41=2199023255552:=by decide
 have Jn:(2:Nat) ^ 30=1073741824:=by decide
 have h8000:=ok.1
 have e0:CB 8 (l.length:Int) (0:Int)=some (UL l.length 0):=by unfold CB; rw [if_pos ⟨by omega,by rw [UG]; omega⟩,UG]
 unfold ax.f
 obtain⟨x,k1⟩:=EV (m:=m) (z:=UL l.length 0) (by simp; omega) m 0 (UL l.length 0) (by simp; omega) (by omega) rfl (fun k hk=>absurd hk (by omega))
 have k1:ax.l0 m (UL l.length 0) m (UL l.length 0) 0=_:=k1
 rw [VU] at k1
 rw [e0,Uu,k1,Uu]
 dsimp only
 obtain⟨d,k2,hp,hs⟩:=Ci hm (l:=ints l.length) (by rw [eY]; omega) (GP (m:=m) (by omega) l)
 rw [k2,Uu,Uu]
 obtain⟨out,x,k3,ho,hg⟩:=EY (m:=m) (l:=l) (o:=ints l.length) (d:=d) (by omega) h8000 (eY _) hp m 0 (UL l.length 0) (by omega) (by omega) (by simp) (fun k hk=>absurd hk (by omega))
 have k3:ax.l1 m l (ints l.length) d m (UL l.length 0) 0 0=_:=k3
 rw [k3,Uu]
 dsimp only
 rw [eY] at hs
 have Pb:d.length=l.length:=by rw [hp.length_eq,eY]
 have hP:Part l.length out (rk l d (l.length - 1)):=by
  refine⟨ho,fun i hi=>?_,fun v hv=>?_⟩
  ·obtain⟨k,hk,e⟩:=tY (hp.mem_iff.2 (jJ.2 (show 0≤(i:Int)∧(i:Int)<l.length by omega)))
   have:=hg k (by omega)
   rw [e,UG] at this
   have h2:=vw l d k (l.length - 1) (by omega)
   omega
  ·obtain⟨k,hk,e⟩:=EX l d _ v hv
   have Mz:k<l.length:=by omega
   have:=jJ.1 (hp.mem_iff.1 (bN (l:=d) (k:=k) (by omega)))
   exact⟨(gt d k).toNat,by omega,by rw [hg k Mz,e]⟩
 have PH:=EW l d (l.length - 1)
 obtain⟨r,many,ks,k4,P,I,K,zz⟩:=EU (m:=m) (by omega) ok Inv hI m out (rk l d (l.length - 1)) (by omega) (by omega) hP (hI0 d out hp hs hg)
 rw [k4]
 exact⟨r,many,ks,rfl,P,I,K,zz⟩
end Go.Proofs.Ytifafejidnjckaa
namespace Go.Proofs.Ytifafejidnjckaa
open Go Go.R
open Go.IntKind (i64 u64 u8 u32)
def kJ:List Int→Nat→List (Int × Int)
 | [],_=>[]
 | k::ks,s=>(k,(s:Int))::kJ ks (s+1)
theorem tZ:∀(ks:List Int) (s:Nat) (k:Int),wP (kJ ks s) k=if k∈ks then (((s+ks.idxOf k:Nat):Int),true) else (0,false)
 | [],s,k=>rfl
 | a::ks,s,k=>by
  simp only [kJ,wP,tZ ks (s+1) k,UT,List.idxOf_cons]
  by_cases h:k=a
  ·subst h; simp
  ·have h':(a==k)=false:=by simpa using fun z:a=k=>h z.symm
   rw [if_neg h,h']
   by_cases h2:k∈ks
   ·simp only [h2,if_true,or_true,cond_false]
    simp only [UB,and_true]
    omega
   ·simp [h2,h]
theorem ub:∀(ks:List Int) (s:Nat) (k:Int),k∉ks→BQ (kJ ks s) k ((s+ks.length:Nat):Int)=kJ (ks++[k]) s
 | [],s,k,_=>rfl
 | a::ks,s,k,h=>by
  have h1:k≠a:=fun z=>h (by simp [z])
  have h2:k∉ks:=fun z=>h (by simp [z])
  simp only [kJ,BQ,U6,if_neg h1,UI]
  rw [show s+(ks.length+1)=s+1+ks.length by omega,ub ks (s+1) k h2]
def il (cls:List Int)(a:Int):Int:=gt cls a.toNat
def idx (cls o:List Int)(a:Int):Int:=((o.map (il cls)).idxOf (il cls a):Nat)
def xy (cls:List Int)(l:List aq)(o:List Int)(i:Int):aq:=⟨(nd l i).kind,(nd l i).int,(nd l i).label,(nd l i).args.map (idx cls o)⟩
def tg (cls:List Int)(l:List aq):Nat→Int→List Int→List Int
 | 0,_,o=>o
 | k+1,i,o=>if il cls i∈o.map (il cls) then o else (nd l i).args.foldl (fun o a=>tg cls l k a o) (o++[i])
structure Vs (cls:List Int)(n:Nat)(o:List Int):Prop where
 GK:(o.map (il cls)).Nodup
 Bb:∀x∈o,0≤x∧x<n
structure Ps (cls:List Int)(l:List aq)(o o':List Int)(ns zc:List aq):Prop where
 vs:Vs cls l.length o'
 pre:∃t,o'=o++t
 len:zc.length=o'.length
 old:∀k,k<o.length→zc[k]? = ns[k]?
 new:∀k,o.length≤k→k<o'.length→zc[k]? = some (xy cls l o' (gt o' k))
 arg:∀k,o.length≤k→k<o'.length→∀a∈(nd l (gt o' k)).args,il cls a∈o'.map (il cls)
theorem Vs.JT {cls:List Int}{n:Nat}{o:List Int}(v:Vs cls n o):o.length≤n:=by
 have hn:o.Nodup:=by
  have:=v.GK
  unfold List.Nodup at this ⊢
  rw [List.pairwise_map] at this
  exact List.Pairwise.imp (fun h e=>h (by rw [e])) this
 have:=hn.length_le_of_subset (l₂:=ints n) (fun x hx=>jJ.2 (v.Bb x hx))
 rwa [eY] at this
theorem Ps.refl {cls:List Int}{l:List aq}{o:List Int}{ns:List aq}(v:Vs cls l.length o)(h:ns.length=o.length):Ps cls l o o ns ns:=
 ⟨v,⟨[],by simp⟩,h,fun _ _=>rfl,fun k h1 h2=>by omega,fun k h1 h2=>by omega⟩
theorem pE {a b:List Int}{k:Nat}(h:k<a.length):gt (a++b) k=gt a k:=by
 unfold gt; rw [UP,UP,UJ h]
theorem nG {cls o t:List Int}{a:Int}(h:il cls a∈o.map (il cls)):idx cls (o++t) a=idx cls o a:=by
 unfold idx; rw [U0,List.idxOf_append,if_pos h]
theorem xz {cls:List Int}{l:List aq}{o t:List Int}{i:Int}(h:∀a∈(nd l i).args,il cls a∈o.map (il cls)):xy cls l (o++t) i=xy cls l o i:=by
 unfold xy
 congr 1
 exact VK fun a ha=>nG (h a ha)
theorem Ps.trans {cls:List Int}{l:List aq}{o o1 o2:List Int}{ns n1 n2:List aq}(a:Ps cls l o o1 ns n1)(b:Ps cls l o1 o2 n1 n2):Ps cls l o o2 ns n2:=by
 obtain⟨t1,rfl⟩:=a.pre
 obtain⟨t2,rfl⟩:=b.pre
 have hl:(o++t1).length=o.length+t1.length:=by simp
 refine⟨b.vs,⟨t1++t2,by simp⟩,b.len,fun k hk=>(b.old k (by omega)).trans (a.old k hk),fun k h1 h2=>?_,fun k h1 h2 x hx=>?_⟩
 ·by_cases h:k<(o++t1).length
  ·rw [b.old k h,a.new k h1 h,pE h,xz (a.arg k h1 h)]
  ·exact b.new k (by omega) h2
 ·by_cases h:k<(o++t1).length
  ·rw [pE h] at hx
   rw [U0]
   exact Vo _ (a.arg k h1 h x hx)
  ·exact b.arg k (by omega) h2 x hx
section
variable {m:Nat}{cls:List Int}{l:List aq}{root:Int}
abbrev Lz:=Int→(List (Int × Int))→(List Int)→br→br→Option (Int × (List (Int × Int)) × br)
def HD (cls:List Int)(l:List aq)(root:Int)(rec:Lz)(df:Int→List Int→List Int)(need:Nat):Prop:=∀(i:Int) (o:List Int) (ns:List aq),0≤i→i<l.length→Vs cls l.length o→ns.length=o.length→l.length<need+o.length→
 ∃zc,rec i (kJ (o.map (il cls)) 0) cls ⟨ns,0⟩ ⟨l,root⟩=some (idx cls (df i o) i,kJ ((df i o).map (il cls)) 0,⟨zc,0⟩)∧Ps cls l o (df i o) ns zc∧il cls i∈(df i o).map (il cls)
theorem EZ {rec:Lz}{df:Int→List Int→List Int}{need:Nat}(hm:2 ^ 30≤m)(ok:Bc l)(V:HD cls l root rec df need){v:aq}(h8:v.args.length≤8)(ha:∀a∈v.args,0≤a∧a<l.length){o0:List Int}{QV:List aq}(LA:l.length<need+o0.length):∀(f t:Nat) (o:List Int) (ns:List aq),v.args.length - t<f→t≤v.args.length→Ps cls l o0 o QV ns→(∀a∈v.args.take t,il cls a∈o.map (il cls))→
  ∃o' zc x,o'=(v.args.drop t).foldl (fun o a=>df a o) o∧aY.l0 m cls ⟨l,root⟩ rec v f ((v.args.take t).map (idx cls o)) (t:Int) (kJ (o.map (il cls)) 0) ⟨ns,0⟩=some (v.args.map (idx cls o'),x,kJ (o'.map (il cls)) 0,⟨zc,0⟩)∧Ps cls l o0 o' QV zc∧∀a∈v.args,il cls a∈o'.map (il cls)
 | 0,t,o,ns,hf,_,_,_=>absurd hf (by omega)
 | f+1,t,o,ns,hf,ht,P,hin=>by
  have Jn:(2:Nat) ^ 30=1073741824:=by decide
  unfold aY.l0
  by_cases h:t<v.args.length
  ·obtain⟨b0,b1⟩:=ha _ (bN h)
   have Uq:o0.length≤o.length:=by obtain⟨s,rfl⟩:=P.pre; simp
   obtain⟨Tc,k1,P1,LR⟩:=V (gt v.args t) o ns b0 b1 P.vs P.len (by omega)
   obtain⟨s,hs⟩:=P1.pre
   have hT1:v.args.take (t+1)=v.args.take t++[gt v.args t]:=by rw [List.take_add_one,dY h]; rfl
   have hD:v.args.drop t=gt v.args t::v.args.drop (t+1):=by
    obtain⟨h4,h5⟩:=UA.1 (dY h)
    rw [←h5]; exact UH h4
   have Pl:∀a∈v.args.take (t+1),il cls a∈(df (gt v.args t) o).map (il cls):=fun a ha=>by
    rw [hT1] at ha
    rcases UZ.1 ha with ha | ha
    ·rw [hs,U0]; exact Vo _ (hin a ha)
    ·simp only [UU] at ha; subst ha; exact LR
   obtain⟨o',zc,x,e,k2,P2,h2⟩:=EZ hm ok V h8 ha LA f (t+1) (df (gt v.args t) o) Tc (by omega) (by omega) (P.trans P1) Pl
   refine⟨o',zc,x,by rw [hD]; exact e,?_,P2,h2⟩
   have e1:i64.wrap ((t:Int)+1)=((t+1:Nat):Int):=by rw [bH (by omega) (by omega)]; omega
   have JK:app 8 ((v.args.take t).map (idx cls o)) [idx cls (df (gt v.args t) o) (gt v.args t)]=some ((v.args.take (t+1)).map (idx cls (df (gt v.args t) o))):=by
    unfold app
    rw [if_pos (by simp; omega),hT1,U0]
    congr 2
    exact VK fun a ha=>by rw [hs]; exact (nG (hin a ha)).symm
   rw [if_pos (by simp only [decide_eq_true_eq]; omega),fD h,Uu,k1,Uu,JK,Uu,e1]
   exact k2
  ·have:t=v.args.length:=by omega
   subst this
   rw [List.take_length] at hin ⊢
   exact⟨o,ns,_,by rw [List.drop_length]; rfl,by rw [if_neg (by simp)],P,hin⟩
theorem sF (hm:2 ^ 30≤m)(ok:Bc l)(hc:cls.length=l.length):∀k,HD cls l root (aY.f m k) (tg cls l k) k
 | 0=>fun i o ns h0 h1 v hl hn=>absurd v.JT (by omega)
 | k+1=>fun i o ns h0 h1 v hl hn=>by
  have Jn:(2:Nat) ^ 30=1073741824:=by decide
  have h8000:=ok.1
  have Td:=v.JT
  show ∃zc,aY.b m (aY.f m k) i (kJ (o.map (il cls)) 0) cls ⟨ns,0⟩ ⟨l,root⟩=_∧_
  unfold aY.b
  have hx:ix cls i=some (il cls i):=yY (by omega) (by omega)
  rw [hx,Uu,tZ,UR]
  by_cases h:il cls i∈o.map (il cls)
  ·have hd:tg cls l (k+1) i o=o:=by unfold tg; rw [if_pos h]
   rw [hd,if_pos h]
   exact⟨ns,rfl,Ps.refl v hl,h⟩
  ·have hd:tg cls l (k+1) i o=(nd l i).args.foldl (fun o a=>tg cls l k a o) (o++[i]):=by
    show (if il cls i∈o.map (il cls) then o else (nd l i).args.foldl (fun o a=>tg cls l k a o) (o++[i]))=_
    rw [if_neg h]
   have v1:Vs cls l.length (o++[i]):=by
    refine⟨?_,fun x hx=>?_⟩
    ·rw [U0,List.nodup_append]
     refine⟨v.GK,by simp,fun a ha b hb=>?_⟩
     simp only [UX,V0,UU] at hb
     subst hb; intro e; subst e; exact h ha
    ·rcases UZ.1 hx with hx | hx
     ·exact v.Bb x hx
     ·simp only [UU] at hx; subst hx; exact⟨h0,h1⟩
   have LB:=v1.JT
   simp only [UD,UI,UW] at LB
   have JK:app 56 ns [(⟨(nd l i).kind,(nd l i).int,(nd l i).label,[]⟩:aq)]=some (ns++[⟨(nd l i).kind,(nd l i).int,(nd l i).label,[]⟩]):=by
    unfold app; rw [if_pos (by simp; omega)]
   have Kn:BQ (kJ (o.map (il cls)) 0) (il cls i) ((ns.length:Nat):Int)=kJ ((o++[i]).map (il cls)) 0:=by
    have:=ub (o.map (il cls)) 0 (il cls i) h
    rw [UR,UQ,←hl] at this
    rw [this,U0]; rfl
   obtain⟨n1,n2⟩:=ok.2 _ (ki h0 h1)
   have P0:Ps cls l (o++[i]) (o++[i]) (ns++[⟨(nd l i).kind,(nd l i).int,(nd l i).label,[]⟩]) (ns++[⟨(nd l i).kind,(nd l i).int,(nd l i).label,[]⟩]):=Ps.refl v1 (by simp [hl])
   obtain⟨o',zc,x,e,k2,P2,h2⟩:=EZ (m:=m) (v:=nd l i) (need:=k) hm ok (sF hm ok hc k) n1 n2 (o0:=o++[i]) (by simp; omega) m 0 (o++[i]) _ (by omega) (by omega) P0 (fun a ha=>by simp at ha)
   rw [Vd] at e
   rw [List.take_zero,V0] at k2
   have k2:aY.l0 m cls ⟨l,root⟩ (aY.f m k) (nd l i) m [] 0 _ _=_:=k2
   obtain⟨s,hs⟩:=P2.pre
   have FN:o.length<o'.length:=by rw [hs]; simp
   have LC:zc[o.length]? = some ⟨(nd l i).kind,(nd l i).int,(nd l i).label,[]⟩:=by
    rw [P2.old _ (by simp),←hl,UO (Uy _),V3]; rfl
   have Pj:ix zc ((ns.length:Nat):Int)=some ⟨(nd l i).kind,(nd l i).int,(nd l i).label,[]⟩:=by
    unfold ix; rw [if_pos (by omega),UG,hl,LC]
   have QX:gt o' o.length=i:=by
    rw [hs,pE (by simp)]
    unfold gt; rw [UP,UO (Uy _),V3]; rfl
   have Pm:idx cls o' i=(o.length:Nat):=by
    rw [hs,nG (by simp)]
    unfold idx
    rw [U0,List.idxOf_append,if_neg h]; simp
   rw [hd,←e,if_neg h,if_neg (by simp),Uu,sC h0 h1,Uu,JK,Uu,Kn,k2,Uu]
   dsimp only
   rw [Pj,Uu,UG,Pm,hl]
   refine⟨_,rfl,⟨P2.vs,⟨[i]++s,by rw [hs]; simp⟩,by simpa using P2.len,fun q hq=>?_,fun q h3 h4=>?_,fun q h3 h4 a ha=>?_⟩,by rw [hs]; simp⟩
   ·rw [List.getElem?_set_ne (by omega),P2.old q (by simp; omega),UJ (by omega)]
   ·by_cases hq:q=o.length
    ·subst hq
     rw [List.getElem?_set_self (by rw [P2.len]; omega),QX]; rfl
    ·rw [List.getElem?_set_ne (by omega)]
     exact P2.new q (by simp; omega) h4
   ·by_cases hq:q=o.length
    ·subst hq; rw [QX] at ha; exact h2 a ha
    ·exact P2.arg q (by simp; omega) h4 a ha
end
theorem zd {m:Nat}(hm:2 ^ 41≤m){t:br}(ok:Bc t.nodes)(h1:1≤t.nodes.length)(r0:0≤t.root)(r1:t.root<t.nodes.length)(Inv:List Int→Prop)
  (hI0:∀d out,d.Perm (ints t.nodes.length)→(Ord (fun x y=>cT (nd t.nodes x) (nd t.nodes y)) (ints t.nodes.length)→Sg (fun x y=>cT (nd t.nodes x) (nd t.nodes y)) d 0 t.nodes.length)→(∀k,k<t.nodes.length→gt out (gt d k).toNat=rk t.nodes d k)→Inv out)
  (hI:∀out many ks next,Part t.nodes.length out many→Inv out→pD t.nodes out t.nodes.length ks→next.length=t.nodes.length→(∀i,i<t.nodes.length→gt next i=(ks.idxOf (key out (nd t.nodes i) i):Int))→Inv next) :
  ∃cls many ks ns,fc.f m t=some ⟨ns,0⟩∧Part t.nodes.length cls many∧Inv cls∧pD t.nodes cls t.nodes.length ks∧ks.length=many+1∧Ps cls t.nodes [] (tg cls t.nodes m t.root []) [] ns∧il cls t.root∈(tg cls t.nodes m t.root []).map (il cls):=by
 have Jn:(2:Nat) ^ 30=1073741824:=by decide
 have xU:(2:Nat) ^ 41=2199023255552:=by decide
 have h8000:=ok.1
 obtain⟨cls,many,ks,k1,P,I,K,zz⟩:=vz hm ok h1 Inv hI0 hI
 obtain⟨ns,k2,P2,h2⟩:=sF (m:=m) (root:=t.root) (by omega) ok P.len m t.root [] [] r0 r1 ⟨by simp,fun x hx=>by simp at hx⟩ rfl (by simp; omega)
 refine⟨cls,many,ks,ns,?_,P,I,K,zz,P2,h2⟩
 unfold fc.f
 have k2:aY.f m m t.root [] cls ⟨[],0⟩ t=_:=k2
 rw [k1,Uu,k2]; rfl
end Go.Proofs.Ytifafejidnjckaa
namespace Go.Proofs.Ytifafejidnjckaa
open Go Go.R
open Go.IntKind (i64 u64 u8 u32)
theorem sG:∀(x:List UInt8),Op.bytesLess x x=false
 | []=>rfl
 | a::x=>by simp [Op.bytesLess,sG x]
theorem vA:∀(x y:List UInt8),Op.bytesLess x y=true→Op.bytesLess y x=false
 | _,[],h=>by cases ‹List UInt8›<;>simp [Op.bytesLess] at h
 | [],b::y,_=>rfl
 | a::x,b::y,h=>by
  simp only [Op.bytesLess,Ve,Ux,decide_eq_true_eq,beq_iff_eq] at h
  simp only [Op.bytesLess,Bool.or_eq_false_iff,Bool.and_eq_false_iff,decide_eq_false_iff_not,beq_eq_false_iff_ne]
  rcases h with h | ⟨rfl,h⟩
  ·refine⟨fun h2=>?_,.inl fun e=>?_⟩
   ·rw [VH] at h h2; omega
   ·subst e; rw [VH] at h; omega
  ·exact⟨by rw [VH]; omega,.inr (vA x y h)⟩
theorem E0:∀(x y:List UInt8),Op.bytesLess x y=true∨x=y∨Op.bytesLess y x=true
 | [],[]=>.inr (.inl rfl)
 | [],b::y=>.inl rfl
 | a::x,[]=>.inr (.inr rfl)
 | a::x,b::y=>by
  simp only [Op.bytesLess,Ve,Ux,decide_eq_true_eq,beq_iff_eq,List.cons.injEq]
  rcases Nat.lt_trichotomy a.toNat b.toNat with h | h | h
  ·exact .inl (.inl (VH.2 h))
  ·have:a=b:=UInt8.toNat_inj.1 h
   subst this
   rcases E0 x y with h1 | h1 | h1
   ·exact .inl (.inr ⟨rfl,h1⟩)
   ·exact .inr (.inl ⟨rfl,h1⟩)
   ·exact .inr (.inr (.inr ⟨rfl,h1⟩))
  ·exact .inr (.inr (.inl (VH.2 h)))
theorem xA:∀(x y z:List UInt8),Op.bytesLess x y=true→Op.bytesLess y z=true→Op.bytesLess x z=true
 | _,_,[],_,h=>by cases ‹List UInt8›<;>simp [Op.bytesLess] at h
 | _,[],c::z,h,_=>by cases ‹List UInt8›<;>simp [Op.bytesLess] at h
 | [],b::y,c::z,_,_=>rfl
 | a::x,b::y,c::z,h1,h2=>by
  simp only [Op.bytesLess,Ve,Ux,decide_eq_true_eq,beq_iff_eq] at h1 h2 ⊢
  rcases h1 with h1 | ⟨rfl,h1⟩
  ·rcases h2 with h2 | ⟨rfl,h2⟩
   ·left; rw [VH] at *; omega
   ·exact .inl h1
  ·rcases h2 with h2 | ⟨rfl,h2⟩
   ·exact .inl h2
   ·exact .inr ⟨rfl,xA x y z h1 h2⟩
theorem E1 {x y:ByteArray}(h:x.data.toList=y.data.toList):x=y:=by
 cases x with | mk a=>cases y with | mk b=>cases a; cases b; simp only at h; subst h; rfl
structure Jq {α:Type}(c:α→α→Int):Prop where
 zero:∀x y,c x y=0→x=y
 refl:∀x,c x x=0
 neg:∀x y,c y x = - c x y
 tr:∀x y z,c x y≤0→c y z≤0→c x z≤0
theorem mC:Jq cI:=by
 refine⟨fun x y h=>?_,fun x=>?_,fun x y=>?_,fun x y z h1 h2=>?_⟩
 ·unfold cI at h; split at h
  ·omega
  ·split at h<;>omega
 ·unfold cI; simp
 ·unfold cI; split<;>split<;>(try split)<;>omega
 ·unfold cI at *
  split at h1<;>split at h2<;>(try split at h1)<;>(try split at h2)<;>(try omega)<;>split<;>(try split)<;>omega
theorem xB (x y:ByteArray):cS x y=if Op.bytesLess x.data.toList y.data.toList=true then -1 else if x=y then 0 else 1:=by
 unfold cS DA
 cases h:Op.bytesLess x.data.toList y.data.toList with
 | true=>rfl
 | false=>
  simp only [Bool.false_or,UE,if_false]
  by_cases e:x=y
  ·subst e; simp
  ·rw [if_neg e]
   have:(x.data.toList==y.data.toList)=false:=by
    rw [beq_eq_false_iff_ne]; exact fun h=>e (E1 h)
   rw [this]; rfl
theorem E2:Jq cS:=by
 refine⟨fun x y h=>?_,fun x=>?_,fun x y=>?_,fun x y z h1 h2=>?_⟩
 ·rw [xB] at h
  split at h
  ·omega
  ·split at h
   ·assumption
   ·omega
 ·rw [xB,sG]; simp
 ·rw [xB,xB]
  rcases E0 x.data.toList y.data.toList with h | h | h
  ·have h2:=vA _ _ h
   have hne:¬y=x:=fun e=>by subst e; rw [sG] at h; cases h
   rw [if_pos h,h2]; simp [hne]
  ·have:=E1 h
   subst this
   rw [sG]; simp
  ·have h2:=vA _ _ h
   have hne:¬x=y:=fun e=>by subst e; rw [sG] at h; cases h
   rw [if_pos h,h2]; simp [hne]
 ·rw [xB] at h1 h2 ⊢
  split at h1
  ·rename_i g1
   split at h2
   ·rename_i g2
    rw [if_pos (xA _ _ _ g1 g2)]; omega
   ·split at h2
    ·rename_i e; subst e; rw [if_pos g1]; omega
    ·omega
  ·split at h1
   ·rename_i e; subst e
    split at h2
    ·rename_i g2; rw [if_pos g2]; omega
    ·split at h2
     ·rename_i g e; rw [if_neg g,if_pos e]; omega
     ·omega
   ·omega
theorem E3 {α β:Type}{c:α→α→Int}{d:β→β→Int}(C:Jq c)(D:Jq d):Jq fun (p q:α × β)=>Cj (c p.1 q.1) (d p.2 q.2):=by
 refine⟨fun x y h=>?_,fun x=>?_,fun x y=>?_,fun x y z h1 h2=>?_⟩
 ·unfold Cj at h
  split at h
  ·rename_i h1; exact Prod.ext (C.zero _ _ h1) (D.zero _ _ h)
  ·exact absurd h ‹_›
 ·unfold Cj; rw [C.refl,if_pos rfl,D.refl]
 ·skip
  unfold Cj
  have:=C.neg x.1 y.1
  by_cases h:c x.1 y.1=0
  ·rw [if_pos h,if_pos (by omega),D.neg]
  ·rw [if_neg h,if_neg (by omega),C.neg]
 ·skip
  unfold Cj at *
  by_cases a:c x.1 y.1=0
  ·rw [if_pos a] at h1
   have e:=C.zero _ _ a
   rw [←e] at h2
   by_cases b:c x.1 z.1=0
   ·rw [if_pos b] at h2 ⊢; exact D.tr _ _ _ h1 h2
   ·rw [if_neg b] at h2 ⊢; exact h2
  ·rw [if_neg a] at h1
   have hz:c x.1 z.1≤0:=by
    by_cases b:c y.1 z.1=0
    ·rw [←C.zero _ _ b]; exact h1
    ·rw [if_neg b] at h2; exact C.tr _ _ _ h1 h2
   have hne:c x.1 z.1≠0:=fun e=>by
    have e1:=C.zero _ _ e
    by_cases b:c y.1 z.1=0
    ·have e2:=C.zero _ _ b; rw [e1,←e2] at a; exact a (C.refl _)
    ·rw [if_neg b,←e1] at h2
     have:=C.neg x.1 y.1; omega
   rw [if_neg hne]; exact hz
theorem Be:Jq fun (p q:Int × ByteArray)=>Cj (cI p.1 q.1) (cS p.2 q.2):=E3 mC E2
theorem Bf:Jq fun (p q:ByteArray × Int)=>Cj (cS p.1 q.1) (cI p.2 q.2):=E3 E2 mC
theorem lq {a b:aq}(h:a.kind=b.kind):cT a b=if a.kind=3 then Cj (cI a.args.length b.args.length) (cS a.label b.label) else Cj (cS a.label b.label) (cI a.int b.int):=by unfold cT; rw [if_pos h]
theorem jl {a b:aq}(h:a.kind≠b.kind):cT a b=cI a.kind b.kind:=by unfold cT; rw [if_neg h]
theorem iS (a b:aq):cT b a = - cT a b:=by
 by_cases h:a.kind=b.kind
 ·rw [lq h,lq h.symm,←h]
  split
  ·exact Be.neg ((a.args.length:Int),a.label) ((b.args.length:Int),b.label)
  ·exact Bf.neg (a.label,a.int) (b.label,b.int)
 ·rw [jl h,jl (Ne.symm h)]; exact mC.neg _ _
theorem xC (a b c:aq)(h1:cT a b≤0)(h2:cT b c≤0):cT a c≤0:=by
 by_cases e1:a.kind=b.kind
 ·by_cases e2:b.kind=c.kind
  ·rw [lq e1] at h1
   rw [lq e2,←e1] at h2
   rw [lq (e1.trans e2)]
   split
   ·rename_i h3; rw [if_pos h3] at h1 h2
    exact Be.tr ((a.args.length:Int),a.label) ((b.args.length:Int),b.label) ((c.args.length:Int),c.label) h1 h2
   ·rename_i h3; rw [if_neg h3] at h1 h2
    exact Bf.tr (a.label,a.int) (b.label,b.int) (c.label,c.int) h1 h2
  ·rw [jl e2] at h2
   rw [jl (by rw [e1]; exact e2),e1]; exact h2
 ·rw [jl e1] at h1
  by_cases e2:b.kind=c.kind
  ·rw [jl (by rw [←e2]; exact e1),←e2]; exact h1
  ·rw [jl e2] at h2
   have n1:cI a.kind b.kind≠0:=fun h=>e1 (mC.zero _ _ h)
   have n2:cI b.kind c.kind≠0:=fun h=>e2 (mC.zero _ _ h)
   by_cases e3:a.kind=c.kind
   ·rw [←e3] at h2
    have:=mC.neg a.kind b.kind
    omega
   ·rw [jl e3]; exact mC.tr _ _ _ h1 h2
structure Alike (a b:aq):Prop where
 kind:a.kind=b.kind
 int:a.int=b.int
 label:a.label=b.label
 len:a.args.length=b.args.length
theorem Alike.refl (a:aq):Alike a a:=⟨rfl,rfl,rfl,rfl⟩
theorem Alike.cT {a b:aq}(h:Alike a b):cT a b=0:=by
 rw [lq h.kind]
 split
 ·rw [h.len,h.label]; exact Be.refl ((b.args.length:Int),b.label)
 ·rw [h.label,h.int]; exact Bf.refl (b.label,b.int)
theorem E4 {a b:aq}(h:cT a b=0)(ha:a.kind=3→a.int=0)(hb:b.kind=3→b.int=0)(Te:a.kind≠3→a.args=[])(hb2:b.kind≠3→b.args=[]):Alike a b:=by
 by_cases e:a.kind=b.kind
 ·rw [lq e] at h
  split at h
  ·rename_i h3
   have:=Be.zero ((a.args.length:Int),a.label) ((b.args.length:Int),b.label) h
   simp only [UB] at this
   exact⟨e,by rw [ha h3,hb (by rw [←e]; exact h3)],this.2,by omega⟩
  ·rename_i h3
   have:=Bf.zero (a.label,a.int) (b.label,b.int) h
   simp only [UB] at this
   exact⟨e,this.2,this.1,by rw [Te h3,hb2 (by rw [←e]; exact h3)]⟩
 ·rw [jl e] at h
  exact absurd (mC.zero _ _ h) e
theorem Jr (l:List aq)(s:List Int):Ord (fun x y=>cT (nd l x) (nd l y)) s:=by
 refine⟨fun x _ y _ z _ h1 h2=>?_,fun x _ y _ h=>?_⟩
 ·skip
  have a1:=iS (nd l x) (nd l y)
  have a2:=iS (nd l y) (nd l z)
  have a3:=iS (nd l x) (nd l z)
  have:=xC (nd l x) (nd l y) (nd l z) (by omega) (by omega)
  omega
 ·skip
  have a1:=iS (nd l x) (nd l y)
  omega
end Go.Proofs.Ytifafejidnjckaa
namespace Go.Proofs.Ytifafejidnjckaa
open Go Go.R
open Go.IntKind (i64 u64 u8 u32)
end Go.Proofs.Ytifafejidnjckaa
namespace Go.Proofs.Ytifafejidnjckaa
open Go Go.R
open Go.IntKind (i64 u64 u8 u32)
end Go.Proofs.Ytifafejidnjckaa
namespace Go.Proofs.Ytifafejidnjckaa
open Go Go.R
open Go.IntKind (i64 u64 u8 u32)
end Go.Proofs.Ytifafejidnjckaa
namespace Go.Proofs.Ytifafejidnjckaa
open Go Go.R
open Go.IntKind (i64 u64 u8 u32)
end Go.Proofs.Ytifafejidnjckaa
namespace Go.Proofs.Ytifafejidnjckaa
open Go Go.R
open Go.IntKind (i64 u64 u8 u32)
end Go.Proofs.Ytifafejidnjckaa
namespace Go.Proofs.Ytifafejidnjckaa
open Go Go.R
open Go.IntKind (i64 u64 u8 u32)
end Go.Proofs.Ytifafejidnjckaa
namespace Go.Proofs.Ytifafejidnjckaa
open Go Go.R
open Go.IntKind (i64 u64 u8 u32)
theorem E5 {s:ByteArray}(h:(s.data.toList==[])=true):s=Vk #[]:=by
 have h:=beq_iff_eq.1 h
 cases s with
 | mk d=>
  cases d with
  | mk l=>simp only at h; subst h; rfl
theorem Mk {l:List Int}(h:l.isEmpty=true):l=[]:=by cases l with | nil=>rfl | cons=>cases h
structure LD (n:aq):Prop where
 kind:n.kind=0∧0≤n.int∧n.label=Vk #[]∧n.args=[]∨n.kind=1∧(-1099511627776≤n.int∧n.int≤1099511627776)∧n.label=Vk #[]∧n.args=[]∨n.kind=2∧n.int=0∧n.args=[]∨n.kind=3∧n.int=0∨n.kind=4∧n.args=[]
 label:n.kind=2∨n.kind=3→1≤n.label.size∧n.label.size≤16
 args:n.args.length≤8
theorem pF {n:aq}{size:Int}(h:oM n size=true):LD n∧∀a∈n.args,0≤a∧a<size:=by
 unfold oM at h
 split at h
 ·rename_i k
  simp only [Ux,decide_eq_true_eq] at h
  have ha:=Mk h.2
  exact⟨⟨.inl ⟨k,h.1.1,E5 h.1.2,ha⟩,fun z=>by omega,by rw [ha]; decide⟩,fun a h=>by rw [ha] at h; cases h⟩
 split at h
 ·rename_i k
  simp only [Ux,decide_eq_true_eq] at h
  have ha:=Mk h.2
  exact⟨⟨.inr (.inl ⟨k,h.1.1,E5 h.1.2,ha⟩),fun z=>by omega,by rw [ha]; decide⟩,fun a h=>by rw [ha] at h; cases h⟩
 split at h
 ·rename_i k
  simp only [Ux,beq_iff_eq] at h
  have ha:=Mk h.2
  exact⟨⟨.inr (.inr (.inl ⟨k,h.1.1,ha⟩)),fun z=>tW h.1.2,by rw [ha]; decide⟩,fun a h=>by rw [ha] at h; cases h⟩
 split at h
 ·rename_i k
  simp only [Ux,beq_iff_eq,decide_eq_true_eq,UN] at h
  exact⟨⟨.inr (.inr (.inr (.inl ⟨k,h.1.1.1.1⟩))),fun z=>tW h.1.1.1.2,h.1.2⟩,h.2⟩
 split at h
 ·rename_i k
  simp only [Ux,decide_eq_true_eq] at h
  have ha:=Mk h.2
  exact⟨⟨.inr (.inr (.inr (.inr ⟨k,ha⟩))),fun z=>by omega,by rw [ha]; decide⟩,fun a h=>by rw [ha] at h; cases h⟩
 ·cases h
theorem pG {t:br}(h:kh t=true):Bc t.nodes∧1≤t.nodes.length∧0≤t.root∧t.root<t.nodes.length∧∀n∈t.nodes,LD n:=by
 unfold kh at h
 simp only [Ux,decide_eq_true_eq,UN] at h
 obtain⟨⟨⟨⟨h1,h2⟩,h3⟩,h4⟩,h5⟩:=h
 exact⟨⟨h2,fun n hn=>⟨(pF (h5 n hn)).1.args,(pF (h5 n hn)).2⟩⟩,h1,h3,h4,fun n hn=>(pF (h5 n hn)).1⟩
end Go.Proofs.Ytifafejidnjckaa
namespace Go.Proofs.Ytifafejidnjckaa
open Go Go.R
open Go.IntKind (i64 u64 u8 u32)
structure QY (l:List aq)(R:Nat→Nat→Prop):Prop where
 Bb:∀i j,R i j→i<l.length∧j<l.length
 top:∀i j,R i j→Alike (nd l i) (nd l j)
 arg:∀i j,R i j→∀k,k<(nd l i).args.length→R (gt (nd l i).args k).toNat (gt (nd l j).args k).toNat
structure Min (l:List aq)(r:List Int):Prop where
 len:r.length=l.length
 top:∀i j,i<l.length→j<l.length→gt r i=gt r j→Alike (nd l i) (nd l j)
 arg:∀i j,i<l.length→j<l.length→gt r i=gt r j→∀k,k<(nd l i).args.length→gt r (gt (nd l i).args k).toNat=gt r (gt (nd l j).args k).toNat
 max:∀R,QY l R→∀i j,R i j→gt r i=gt r j
theorem q6 (a:aq):cT a a=0:=(Alike.refl a).cT
theorem th {a b c:aq}(h1:cT a b=0)(h2:cT b c=0):cT a c=0:=by
 have n1:=iS a b
 have n2:=iS b c
 have n3:=iS a c
 have t1:=xC a b c (by omega) (by omega)
 have t2:=xC c b a (by omega) (by omega)
 omega
theorem vB {l:List aq}{d:List Int}{k:Nat}:∀j,k≤j→rk l d k=rk l d j→cT (nd l (gt d k)) (nd l (gt d j))=0
 | 0,h,_=>by
   have:k=0:=by omega
   subst this; exact q6 _
 | j+1,h,e=>by
  by_cases hk:k=j+1
  ·subst hk; exact q6 _
  ·have m1:=vw l d k j (by omega)
   have e2:rk l d (j+1)=rk l d j+if cT (nd l (gt d j)) (nd l (gt d (j+1)))=0 then 0 else 1:=rfl
   by_cases hc:cT (nd l (gt d j)) (nd l (gt d (j+1)))=0
   ·rw [if_pos hc] at e2
    exact th (vB j (by omega) (by omega)) hc
   ·rw [if_neg hc] at e2; omega
theorem vC {l:List aq}{d:List Int}{n:Nat}(S:Sg (fun x y=>cT (nd l x) (nd l y)) d 0 n){k q:Nat}(hq:q<n)(h0:cT (nd l (gt d k)) (nd l (gt d q))=0):∀j,k≤j→j≤q→rk l d j=rk l d k
 | 0,h,_=>by
   have:k=0:=by omega
   subst this; rfl
 | j+1,h,hj=>by
  by_cases hk:k=j+1
  ·subst hk; rfl
  ·have ih:=vC S hq h0 j (by omega) (by omega)
   have Tf:cT (nd l (gt d k)) (nd l (gt d j))≤0:=by
    by_cases e:k=j
    ·subst e; rw [q6]; omega
    ·have:0≤cT (nd l (gt d j)) (nd l (gt d k)):=S k j (by omega) (by omega) (by omega)
     have n:=iS (nd l (gt d k)) (nd l (gt d j))
     omega
   have Tg:cT (nd l (gt d (j+1))) (nd l (gt d q))≤0:=by
    by_cases e:j+1=q
    ·subst e; rw [q6]; omega
    ·have:0≤cT (nd l (gt d q)) (nd l (gt d (j+1))):=S (j+1) q (by omega) (by omega) hq
     have n:=iS (nd l (gt d (j+1))) (nd l (gt d q))
     omega
   have Th:cT (nd l (gt d q)) (nd l (gt d k))≤0:=by have n:=iS (nd l (gt d k)) (nd l (gt d q)); omega
   have Ur:=xC _ _ _ (xC _ _ _ Tg Th) Tf
   have s1:=S j (j+1) (by omega) (by omega) (by omega)
   have n:=iS (nd l (gt d j)) (nd l (gt d (j+1)))
   have hz:cT (nd l (gt d j)) (nd l (gt d (j+1)))=0:=by
    have s1:0≤cT (nd l (gt d (j+1))) (nd l (gt d j)):=s1
    omega
   show rk l d j+(if cT (nd l (gt d j)) (nd l (gt d (j+1)))=0 then 0 else 1)=_
   rw [if_pos hz,ih]; rfl
def GQ (l:List aq)(out:List Int):Prop:=(∀i j,i<l.length→j<l.length→gt out i=gt out j→cT (nd l i) (nd l j)=0)∧∀R,QY l R→∀i j,R i j→gt out i=gt out j
theorem Co {l:List aq}{d out:List Int}(hp:d.Perm (ints l.length))(hs:Ord (fun x y=>cT (nd l x) (nd l y)) (ints l.length)→Sg (fun x y=>cT (nd l x) (nd l y)) d 0 l.length)(hg:∀k,k<l.length→gt out (gt d k).toNat=rk l d k):GQ l out:=by
 have S:=hs (Jr _ _)
 have Pb:d.length=l.length:=by rw [hp.length_eq,eY]
 have pos:∀i,i<l.length→∃k,k<l.length∧gt d k=i∧gt out i=rk l d k:=fun i hi=>by
  obtain⟨k,hk,e⟩:=tY (hp.mem_iff.2 (jJ.2 (show 0≤(i:Int)∧(i:Int)<l.length by omega)))
  have:=hg k (by omega)
  rw [e,UG] at this
  exact⟨k,by omega,e,this⟩
 refine⟨fun i j hi hj e=>?_,fun R B i j hR=>?_⟩
 ·obtain⟨k,hk,ek,Pn⟩:=pos i hi
  obtain⟨q,hq,eq,Po⟩:=pos j hj
  rw [Pn,Po] at e
  rw [←ek,←eq]
  rcases Nat.le_total k q with h | h
  ·exact vB q h (by omega)
  ·have:=vB (l:=l) (d:=d) k h (by omega)
   have n:=iS (nd l (gt d k)) (nd l (gt d q))
   omega
 ·obtain⟨hi,hj⟩:=B.Bb i j hR
  obtain⟨k,hk,ek,Pn⟩:=pos i hi
  obtain⟨q,hq,eq,Po⟩:=pos j hj
  have h0:=(B.top i j hR).cT
  rw [←ek,←eq] at h0
  rw [Pn,Po]
  rcases Nat.le_total k q with h | h
  ·rw [vC S hq h0 q h (Uy _)]
  ·have n:=iS (nd l (gt d k)) (nd l (gt d q))
   rw [vC S hk (by omega) k h (Uy _)]
theorem E6 {l:List aq}(ok:Bc l){out:List Int}{i j:Nat}(h1:(nd l i).args.length=(nd l j).args.length)(e:key out (nd l i) i=key out (nd l j) j):gt out i=gt out j∧∀k,k<(nd l i).args.length→gt out (gt (nd l i).args k).toNat=gt out (gt (nd l j).args k).toNat:=by
 unfold key at e
 have e1:=List.cons.inj e
 refine⟨by omega,fun k hk=>?_⟩
 have e2:=e1.2
 rw [h1] at e2
 have e3:=List.append_cancel_right e2
 have e4:=congrArg (fun z=>z[k]?) e3
 simp only [Vv] at e4
 rw [dY hk,dY (by omega)] at e4
 simp only [Uz,Uw] at e4
 omega
theorem E7 {l:List aq}(ok:Bc l)(out:List Int)(many:Nat)(ks:List (List Int))(next:List Int)(P:Part l.length out many)(I:GQ l out)(K:pD l out l.length ks)(hn:next.length=l.length)
  (hg:∀i,i<l.length→gt next i=(ks.idxOf (key out (nd l i) i):Int)):GQ l next:=by
 refine⟨fun i j hi hj e=>?_,fun R B i j hR=>?_⟩
 ·rw [hg i hi,hg j hj] at e
  have e:ks.idxOf (key out (nd l i) i)=ks.idxOf (key out (nd l j) j):=by omega
  have m1:=VO ((K.mem _).2 ⟨i,hi,rfl⟩)
  have m2:=VO ((K.mem _).2 ⟨j,hj,rfl⟩)
  have g1:=List.getElem_idxOf m1
  have g2:=List.getElem_idxOf m2
  have g3:key out (nd l i) i=key out (nd l j) j:=by rw [←g1,←g2]; congr 1
  exact I.1 i j hi hj (by have:=(List.cons.inj g3).1; omega)
 ·obtain⟨hi,hj⟩:=B.Bb i j hR
  rw [hg i hi,hg j hj]
  have hk:key out (nd l i) i=key out (nd l j) j:=by
   have hl:=(B.top i j hR).len
   unfold key
   rw [I.2 R B i j hR,hl]
   congr 2
   apply VV fun k=>?_
   simp only [Vv]
   by_cases h:k<(nd l i).args.length
   ·rw [dY h,dY (by omega)]
    simp only [Uz,Uw]
    rw [I.2 R B _ _ (B.arg i j hR k h)]
   ·rw [U3 (by omega),U3 (by omega)]
  rw [hk]
theorem Js {l:List aq}{r:List Int}{many:Nat}{ks:List (List Int)}(P:Part l.length r many)(K:pD l r l.length ks)(zz:ks.length=many+1){i j:Nat}(hi:i<l.length)(hj:j<l.length)(e:gt r i=gt r j):key r (nd l i) i=key r (nd l j) j:=by
 by_cases hne:key r (nd l i) i=key r (nd l j) j
 ·exact hne
 ·exfalso
  have Tk:=(K.mem _).2 ⟨i,hi,rfl⟩
  have Tl:=(K.mem _).2 ⟨j,hj,rfl⟩
  have hn:((VX (many+1)).map fun v:Nat=>((v:Int)+1)).Nodup:=by
   unfold List.Nodup
   rw [List.pairwise_map]
   exact List.Pairwise.imp (fun h=>by omega) List.nodup_range
  have:=hn.length_le_of_subset (l₂:=(ks.erase (key r (nd l j) j)).map fun k=>k.headD 0) (fun x hx=>by
   obtain⟨v,hv,rfl⟩:=U8.1 hx
   obtain⟨q,hq,h⟩:=P.QU v (by have:=VY.1 hv; omega)
   by_cases Fw:key r (nd l q) q=key r (nd l j) j
   ·refine U8.2 ⟨key r (nd l i) i,(List.mem_erase_of_ne hne).2 Tk,?_⟩
    have h1:=(List.cons.inj Fw).1
    simp [key,e]
    omega
   ·exact U8.2 ⟨_,(List.mem_erase_of_ne Fw).2 ((K.mem _).2 ⟨q,hq,rfl⟩),by simp [key,h]⟩)
  rw [UQ,UQ,List.length_range,List.length_erase_of_mem Tl] at this
  omega
theorem uc {l:List aq}(hT:∀n∈l,LD n){i j:Nat}(hi:i<l.length)(hj:j<l.length)(h:cT (nd l i) (nd l j)=0):Alike (nd l i) (nd l j):=by
 have Ti:=hT _ (ki (i:=(i:Int)) (by omega) (by omega))
 have Tj:=hT _ (ki (i:=(j:Int)) (by omega) (by omega))
 have a3:∀{n:aq},LD n→n.kind=3→n.int=0:=fun T h=>by rcases T.kind with z | z | z | z | z<;>(have:=z.1; first | omega | exact z.2)
 have a0:∀{n:aq},LD n→n.kind≠3→n.args=[]:=fun T h=>by
  rcases T.kind with z | z | z | z | z
  ·exact z.2.2.2
  ·exact z.2.2.2
  ·exact z.2.2
  ·exact absurd z.1 h
  ·exact z.2
 exact E4 h (a3 Ti) (a3 Tj) (a0 Ti) (a0 Tj)
theorem ze {m:Nat}(hm:2 ^ 41≤m){t:br}(h:kh t=true) :
  ∃cls ns,fc.f m t=some ⟨ns,0⟩∧Min t.nodes cls∧Ps cls t.nodes [] (tg cls t.nodes m t.root []) [] ns∧il cls t.root∈(tg cls t.nodes m t.root []).map (il cls):=by
 obtain⟨ok,h1,r0,r1,hT⟩:=pG h
 obtain⟨cls,many,ks,ns,e,P,I,K,zz,Q,hr⟩:=zd hm ok h1 r0 r1 (GQ t.nodes) (fun d out hp hs hg=>Co hp hs hg) (fun out many ks next P I K hn hg=>E7 ok out many ks next P I K hn hg)
 refine⟨cls,ns,e,⟨P.len,fun i j hi hj e=>uc hT hi hj (I.1 i j hi hj e),fun i j hi hj e k hk=>?_,I.2⟩,Q,hr⟩
 have hA:=uc hT hi hj (I.1 i j hi hj e)
 exact (E6 ok hA.len (Js P K zz hi hj e)).2 k hk
end Go.Proofs.Ytifafejidnjckaa
namespace Go.Proofs.Ytifafejidnjckaa
open Go Go.R
open Go.IntKind (i64 u64 u8 u32)
def gb (l:List Bool)(k:Nat):Bool:=l.getD k false
end Go.Proofs.Ytifafejidnjckaa
