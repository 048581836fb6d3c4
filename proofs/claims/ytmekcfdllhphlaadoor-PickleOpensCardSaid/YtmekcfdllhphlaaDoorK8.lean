/- Part of the proof: Q119, PS2, Q120, PS3, PS4, Q110, Q84, PS5, Q61, Q45, Q108. -/
import Derived.Test.YtmekcfdllhphlaaDoorK7
set_option linter.unusedVariables false
set_option linter.unusedSimpArgs false
set_option maxRecDepth 100000
open Int renaming toNat_natCast → Xy
open List renaming append_assoc → XF, cons_append → XU, nil_append → X2
open Nat renaming le_refl → Xv, zero_add → XS, mul_le_mul_right → Yj
open Option renaming bind_some → Xr
open Prod.mk renaming injEq → Xz
namespace Go.Proofs.YtmekcfdllhphlaaDoor
open Go Go.R
open Go.IntKind (i64 u64 u8 u32)
def qm:cg:=gK [0,1,2,3,8,9,14,34] [] [224,160,224,192,64,192,192] [] []
def aN.l1 (m:Nat)(a0:Int)(aM:Int→Int→Option (Int)):Nat→(List Int)→Int→Option ((List Int) × Int)
 | 0,_,_=>none
 | k+1,cR,j0=>if (decide (j0 > a0))=true then ((ix cR j0).bind fun v0=>(ix cR (i64.wrap (j0 - (1:Int)))).bind fun v1=>(aM v0 v1).bind fun r0=>if (decide (r0<(0:Int)))=true then ((ix cR (i64.wrap (j0 - (1:Int)))).bind fun v2=>(ix cR j0).bind fun v3=>(ix cR j0).bind fun v4=>(ix (cR.set j0.toNat v2) (i64.wrap (j0 - (1:Int)))).bind fun v5=>aN.l1 m a0 aM k ((cR.set j0.toNat v2).set (i64.wrap (j0 - (1:Int))).toNat v3) (i64.wrap (j0 - (1:Int)))) else (some ((cR,j0)))) else (some ((cR,j0)))
def aN.l0 (m:Nat)(a0:Int)(b0:Int)(aM:Int→Int→Option (Int)):Nat→(List Int)→Int→Option ((List Int) × Int)
 | 0,_,_=>none
 | k+1,bm,i0=>if (decide (i0<b0))=true then ((aN.l1 m a0 aM m bm i0).bind fun bj=>match bj with | (dj,j1)=>aN.l0 m a0 b0 aM k dj (i64.wrap (i0+(1:Int)))) else (some ((bm,i0)))
def aN.f (m:Nat)(ao:List Int)(a0:Int)(b0:Int)(aM:Int→Int→Option (Int)):Option ((List Int)):=(aN.l0 m a0 b0 aM m ao (i64.wrap (a0+(1:Int)))).bind fun bJ=>match bJ with | (jq,i1)=>some jq
def aN.fin (L:Mem)(aA:Nat)(ao:List Int)(a0:Int)(b0:Int)(aM:Int→Int→Option (Int))(r:(List Int))(s:St):Prop:=aH Tryd.prog (s.open qm) Tryd.f119.results.toList=some (.tup [])∧Has s.h ((aA,.sl ao.length 1 (aa.l r))::L)
def KS (cf:CallF)(m:Nat):Prop:=∀(ao:List Int) (a0:Int) (b0:Int) (aM:Int→Int→Option (Int)) (r:(List Int)),aN.f m ao a0 b0 aM=some r→∀h L (cu:Nat) (aA:Nat),Has h ((aA,.sl cu 1 (aa.l ao))::L)→∀(rf:FuncId) (fA:List AV),az (.fn rf fA) = .fn rf fA→(∀h K,Has h (K++L)→∀(a0:Int) (a1:Int) r,aM a0 a1=some r→cf rf ([.int .i64 a0,.int .i64 a1]++fA) h=some (.int .i64 r,h))→∀xs,xs.map az=[.rs aA 0 cu 1,.int .i64 a0,.int .i64 b0,.fn rf fA]→∃h',cf 119 xs h=some (.tup [],h')∧Has h' ((aA,.sl cu 1 (aa.l r))::L)
section
variable {cf:CallF}{m:Nat}
theorem aN.eQ (L:Mem)(aA:Nat)(rf:FuncId)(fA:List AV)(ao:List Int)(a0:Int)(b0:Int)(aM:Int→Int→Option (Int))(i0:Int)  (DN:az (.fn rf fA) = .fn rf fA)(AG:∀h K,Has h (K++L)→∀(a0:Int) (a1:Int) r,aM a0 a1=some r→cf rf ([.int .i64 a0,.int .i64 a1]++fA) h=some (.int .i64 r,h))  : bD Tryd.prog cf qm m (sub [1,0,0,1,0,0,1,0,0] (codeOf Tryd.f119)) (fun k (σ:(List Int) × Int)=>aN.l1 m a0 aM k σ.1 σ.2) (fun σ s=>match σ with | (cR,j0)=>∃h1,s=⟨[.rs aA 0 ao.length 1,.int .i64 a0,.int .i64 b0,.fn rf fA,.int .i64 i0,.int .i64 j0,.any,.any],[],h1⟩∧Has h1 ((aA,.sl ao.length 1 (aa.l cR))::L)) (fun out e s=>(e = .exit 2∧∃cR j0,(cR,j0)=out∧∃rG FK h1,s=⟨[.rs aA 0 ao.length 1,.int .i64 a0,.int .i64 b0,.fn rf fA,.int .i64 i0,rG,.any,FK],[],h1⟩∧Has h1 ((aA,.sl ao.length 1 (aa.l cR))::L))):=by
 refine gG (fun _=>rfl) ?_
 rintro k ⟨cR,j0⟩ s out ⟨h1,rfl,o1⟩ H
 have H:aN.l1 m a0 aM (k+1) cR j0=some out:=H
 refine qq <| qq ?_
 rcases dJ H with⟨c1,H⟩| ⟨c1,H⟩
 ·obtain⟨v0,e0,H⟩:=aI H
  obtain⟨v1,e1,H⟩:=aI H
  obtain⟨r0,e2,H⟩:=aI H
  refine qr [.b 3 c1,.v 7 (aE (k:=.i64) (E:=aa) (l:=cR) (q:=0) dz o1 rfl e0),.v 8 (be  (E:=aa) (l:=cR) (q:=0) o1 rfl A3 e0 rfl),.v 12 (aE (k:=.i64) (E:=aa) (l:=cR) (q:=0) dz o1 rfl e1),.v 13 (be  (E:=aa) (l:=cR) (q:=0) o1 rfl A3 e1 rfl),.a 14 (AG h1 [(aA,.sl ao.length 1 (aa.l cR))] o1 _ _ _ e2)] <| qc H (fun c2 H=>?_) (fun c2 H=>?_)
  ·refine qk <| qq <| qb 3 ?_
   obtain⟨v2,e3,H⟩:=aI H
   obtain⟨v3,e4,H⟩:=aI H
   obtain⟨v4,e5,H⟩:=aI H
   obtain⟨h2,e6,o2⟩:=dD (P:=Tryd.prog) (tf:=3) (E:=aa) (l:=cR) (q:=0) (v:=v2) (x:=.int .i64 v2) o1 rfl Z3 e5 rfl rfl
   obtain⟨v5,e7,H⟩:=aI H
   obtain⟨h3,e8,o3⟩:=dD (P:=Tryd.prog) (tf:=3) (E:=aa) (l:=(cR.set j0.toNat v2)) (q:=0) (v:=v3) (x:=.int .i64 v3) o2 rfl Z3 e7 rfl rfl
   exact qr [.v 8 (aE (k:=.i64) (E:=aa) (l:=cR) (q:=0) dz o1 rfl e3),.v 9 (be  (E:=aa) (l:=cR) (q:=0) o1 rfl A3 e3 rfl),.v 12 (aE (k:=.i64) (E:=aa) (l:=cR) (q:=0) dz o1 rfl e4),.v 13 (be  (E:=aa) (l:=cR) (q:=0) o1 rfl A3 e4 rfl),.v 14 (aE (k:=.i64) (E:=aa) (l:=cR) (q:=0) dz o1 rfl e5),.w 15 e6,.v 16 (aE (k:=.i64) (E:=aa) (l:=(cR.set j0.toNat v2)) (q:=0) dz o2 rfl e7),.w 17 e8] <| q0 <| ⟨((cR.set j0.toNat v2).set (i64.wrap (j0 - (1:Int))).toNat v3,i64.wrap (j0 - (1:Int))),⟨h3,by kernel_rfl,o3⟩,H⟩
  ·exact qx 2 <| ⟨rfl,cR,j0,oi H,.int .i64 j0,.bool (decide (r0<(0:Int))),h1,by kernel_rfl,o1⟩
 ·exact qr [.b 3 c1] <| DB <| qx 2 <| ⟨rfl,cR,j0,oi H,.int .i64 j0,.bool false,h1,by kernel_rfl,o1⟩
theorem aN.bI (L:Mem)(aA:Nat)(rf:FuncId)(fA:List AV)(ao:List Int)(a0:Int)(b0:Int)(aM:Int→Int→Option (Int))  (DN:az (.fn rf fA) = .fn rf fA)(AG:∀h K,Has h (K++L)→∀(a0:Int) (a1:Int) r,aM a0 a1=some r→cf rf ([.int .i64 a0,.int .i64 a1]++fA) h=some (.int .i64 r,h))  : bD Tryd.prog cf qm m (sub [1,0,0] (codeOf Tryd.f119)) (fun k (σ:(List Int) × Int)=>aN.l0 m a0 b0 aM k σ.1 σ.2) (fun σ s=>match σ with | (bm,i0)=>∃h0,s=⟨.rs aA 0 ao.length 1 :: .int .i64 a0 :: .int .i64 b0 :: .fn rf fA :: .int .i64 i0::jP [],[],h0⟩∧Has h0 ((aA,.sl ao.length 1 (aa.l bm))::L)) (fun out e s=>(e = .exit 0∧∃bm i0,(bm,i0)=out∧∃kG uM FB uN qh xi h0,s=⟨[kG,uM,FB,uN,qh,.any,xi,.any],[],h0⟩∧Has h0 ((aA,.sl ao.length 1 (aa.l bm))::L))):=by
 refine gG (fun _=>rfl) ?_
 rintro k ⟨bm,i0⟩ s out ⟨h0,rfl,o0⟩ H
 have H:aN.l0 m a0 b0 aM (k+1) bm i0=some out:=H
 refine qq <| qq <| q0 <| qc H (fun c0 H=>?_) (fun c0 H=>?_)
 ·refine qk <| qq <| qb 1 <| qq <| q0 <| qb 2 ?_
  obtain⟨bj,e9,H⟩:=aI H
  refine ql (aN.eQ L aA rf fA ao a0 b0 aM i0  DN AG  (bm,i0) _ _ ⟨h0,by kernel_rfl,o0⟩ e9) ?_
  rintro e s ⟨rfl,dj,j1,rfl,g0,g1,h4,rfl,o4⟩
  try dsimp only at H
  exact q0 <| ⟨(dj,i64.wrap (i0+(1:Int))),⟨h4,by kernel_rfl,o4⟩,H⟩
 ·exact qx 0 <| ⟨rfl,bm,i0,oi H,.rs aA 0 ao.length 1,.int .i64 a0,.int .i64 b0,.fn rf fA,.int .i64 i0,.bool (decide (i0<b0)),h0,by kernel_rfl,o0⟩
theorem mM {aU:FuncId→cg}(ha:aU 119=qm)  (ao:List Int)(a0:Int)(b0:Int)(aM:Int→Int→Option (Int))(h:AHeap)(L:Mem)(aA:Nat)(rf:FuncId)(fA:List AV)  (DN:az (.fn rf fA) = .fn rf fA)(AG:∀h K,Has h (K++L)→∀(a0:Int) (a1:Int) r,aM a0 a1=some r→cf rf ([.int .i64 a0,.int .i64 a1]++fA) h=some (.int .i64 r,h))(o:Has h ((aA,.sl ao.length 1 (aa.l ao))::L)){out:(List Int)}(H:aN.f m ao a0 b0 aM=some out) :
  ∃r h',bc Tryd.prog aU cf m 119 [.rs aA 0 ao.length 1,.int .i64 a0,.int .i64 b0,.fn rf fA] h=some (r,h')∧r = .tup []∧Has h' ((aA,.sl ao.length 1 (aa.l out))::L):=by
 refine aq (fn:=Tryd.f119) ha Tryd.func119 (by kernel_rfl) (by kernel_rfl) ?_
 refine aG (Q:=fun s=>aN.fin L aA ao a0 b0 aM out s) (fun _ _ ⟨h1,h2,h3⟩=>⟨h1,_,h2,rfl,h3⟩) ?_
 have H:_=some out:=H
 unfold aN.f at H
 show de _ cf qm m _ ⟨.rs aA 0 ao.length 1 :: .int .i64 a0 :: .int .i64 b0 :: .fn rf fA::q9 [],[],h⟩ _
 refine q1 <| qb 0 ?_
 obtain⟨bJ,nJ,H⟩:=aI H
 refine ql (aN.bI L aA rf fA ao a0 b0 aM  DN AG  (ao,i64.wrap (a0+(1:Int))) _ _ ⟨h,by kernel_rfl,o⟩ nJ) ?_
 rintro e s ⟨rfl,jq,i1,rfl,g2,g3,g4,g5,g6,g7,h5,rfl,o5⟩
 try dsimp only at H
 obtain rfl:=oi H
 exact⟨.inr rfl,⟨by kernel_rfl,he o5⟩⟩
end
end Go.Proofs.YtmekcfdllhphlaaDoor
namespace Go.Proofs.YtmekcfdllhphlaaDoor
open Go Go.R
open Go.IntKind (i64 u64 u8 u32)
structure Mv (lo hi:Nat)(l d:List Int):Prop where
 perm:d.Perm l
 out:∀k,k<lo∨hi≤k→gt d k=gt l k
 im:∀k,lo≤k→k<hi→∃k',lo≤k'∧k'<hi∧gt d k=gt l k'
theorem Mv.refl {lo hi:Nat}{l:List Int}:Mv lo hi l l:=⟨List.Perm.refl _,fun _ _=>rfl,fun k h1 h2=>⟨k,h1,h2,rfl⟩⟩
theorem Mv.trans {lo hi:Nat}{l d e:List Int}(a:Mv lo hi l d)(b:Mv lo hi d e):Mv lo hi l e:=
 ⟨b.perm.trans a.perm,fun k hk=>(b.out k hk).trans (a.out k hk),fun k h1 h2=>by
  obtain⟨k',g1,g2,g3⟩:=b.im k h1 h2
  obtain⟨Vy,g4,g5,g6⟩:=a.im k' g1 g2
  exact⟨Vy,g4,g5,g3.trans g6⟩⟩
theorem Mv.length {lo hi:Nat}{l d:List Int}(a:Mv lo hi l d):d.length=l.length:=a.perm.length_eq
theorem Mv.wide {lo hi Ht lu:Nat}{l d:List Int}(a:Mv lo hi l d)(h1:Ht≤lo)(h2:hi≤lu):Mv Ht lu l d:=
 ⟨a.perm,fun k hk=>a.out k (by omega),fun k h3 h4=>by
  by_cases h:lo≤k∧k<hi
  ·obtain⟨k',g1,g2,g3⟩:=a.im k h.1 h.2
   exact⟨k',by omega,by omega,g3⟩
  ·exact⟨k,h3,h4,a.out k (by omega)⟩⟩
theorem AH {lo hi i j:Nat}{l:List Int}(OQ:lo≤i)(Ac:i<hi)(O0:lo≤j)(EM:j<hi)(h:hi≤l.length):Mv lo hi l (swp l i j):=
 ⟨oS (by omega) (by omega),fun k hk=>by rw [lg (by omega) (by omega),if_neg (by omega),if_neg (by omega)],fun k h1 h2=>by
  rw [lg (by omega) (by omega)]
  split
  ·exact⟨i,OQ,Ac,rfl⟩
  split
  ·exact⟨j,O0,EM,rfl⟩
  ·exact⟨k,h1,h2,rfl⟩⟩
def Cm (cmp:Int→Int→Option Int)(c:Int→Int→Int)(l:List Int):Prop:=∀x∈l,∀y∈l,cmp x y=some (c x y)
theorem Cm.perm {cmp c l d}(h:Cm cmp c l)(p:List.Perm d l):Cm cmp c d:=fun x hx y hy=>h x (p.mem_iff.1 hx) y (p.mem_iff.1 hy)
theorem Cm.at {cmp c}{l:List Int}(h:Cm cmp c l){i j:Nat}(hi:i<l.length)(hj:j<l.length):cmp (gt l i) (gt l j)=some (c (gt l i) (gt l j)):=h _ (aJ hi) _ (aJ hj)
structure Ord (c:Int→Int→Int)(l:List Int):Prop where
 tr:∀x∈l,∀y∈l,∀z∈l,0≤c y x→0≤c z y→0≤c z x
 Md:∀x∈l,∀y∈l,c x y<0→0≤c y x
theorem Ord.perm {c l d}(h:Ord c l)(p:List.Perm d l):Ord c d:=⟨fun x hx y hy z hz=>h.tr x (p.mem_iff.1 hx) y (p.mem_iff.1 hy) z (p.mem_iff.1 hz),fun x hx y hy=>h.Md x (p.mem_iff.1 hx) y (p.mem_iff.1 hy)⟩
def Sg (c:Int→Int→Int)(l:List Int)(a b:Nat):Prop:=∀i j,a≤i→i<j→j<b→0≤c (gt l j) (gt l i)
theorem FL {m:Nat}{a i:Nat}{cmp:Int→Int→Option Int}{c:Int→Int→Int}:∀(f j:Nat) (d:List Int),j - a<f→a≤j→j≤i→i<d.length→d.length<2 ^ 40→Cm cmp c d→
  ∃d' x,aN.l1 m (a:Int) cmp f d (j:Int)=some (d',x)∧Mv a (i+1) d d'∧
   (Ord c d→(∀x y,a≤x→x<y→y≤i→x≠j→y≠j→0≤c (gt d y) (gt d x))→(∀y,j<y→y≤i→0≤c (gt d y) (gt d j))→Sg c d' a (i+1))
 | 0,j,d,hf,_,_,_,_,_=>absurd hf (by omega)
 | f+1,j,d,hf,h1,h2,h3,hs,C=>by
  have nT:(2:Nat) ^ 40=1099511627776:=by decide
  unfold aN.l1
  by_cases h:a<j
  ·have e1:i64.wrap ((j:Int) - 1)=((j - 1:Nat):Int):=by rw [aD (by omega) (by omega)]; omega
   rw [if_pos (by simp; omega),e1,cj (by omega),cj (by omega),Xr,Xr,C.at (by omega) (by omega),Xr]
   by_cases hc:c (gt d j) (gt d (j - 1))<0
   ·rw [if_pos (by simpa using hc),Xr,Xr,Xr,Xy,Xy,cj (by simp; omega),Xr]
    obtain⟨d',x,k1,k2,k3⟩:=FL (m:=m) (a:=a) (i:=i) (cmp:=cmp) (c:=c) f (j - 1) (swp d j (j - 1)) (by omega) (by omega) (by omega) (by rw [tw]; omega) (by rw [tw]; omega) (C.perm (oS (by omega) (by omega)))
    refine⟨d',x,k1,(AH (by omega) (by omega) (by omega) (by omega) (by omega)).trans k2,fun O g1 g2=>k3 (O.perm (oS (by omega) (by omega))) (fun x y x1 x2 x3 x4 x5=>?_) (fun y y1 y2=>?_)⟩
    ·rw [lg (by omega) (by omega),lg (by omega) (by omega),if_neg x5,if_neg x4]
     by_cases hy:y=j
     ·subst hy
      rw [if_pos rfl,if_neg (by omega)]
      exact g1 _ _ (by omega) (by omega) (by omega) (by omega) (by omega)
     ·rw [if_neg hy]
      by_cases hx:x=j
      ·subst hx
       rw [if_pos rfl]
       exact g1 _ _ (by omega) (by omega) (by omega) (by omega) (by omega)
      ·rw [if_neg hx]
       exact g1 _ _ (by omega) (by omega) (by omega) (by omega) (by omega)
    ·rw [lg (by omega) (by omega),lg (by omega) (by omega),if_neg (by omega),if_pos rfl]
     by_cases hy:y=j
     ·subst hy
      rw [if_pos rfl]
      exact O.Md _ (aJ (by omega)) _ (aJ (by omega)) hc
     ·rw [if_neg hy]
      exact g2 _ (by omega) (by omega)
   ·rw [if_neg (by simpa using hc)]
    refine⟨d,j,rfl,Mv.refl,fun O g1 g2 x y x1 x2 x3=>?_⟩
    have hc:0≤c (gt d j) (gt d (j - 1)):=by omega
    by_cases hx:x=j
    ·subst hx; exact g2 _ x2 (by omega)
    ·by_cases hy:y=j
     ·subst hy
      by_cases hx1:x=y - 1
      ·subst hx1; exact hc
      ·exact O.tr _ (aJ (by omega)) (gt d (y - 1)) (aJ (by omega)) _ (aJ (by omega)) (g1 _ _ x1 (by omega) (by omega) hx (by omega)) hc
     ·exact g1 _ _ x1 x2 (by omega) hx hy
  ·have:j=a:=by omega
   subst this
   rw [if_neg (by simp)]
   refine⟨d,j,rfl,Mv.refl,fun O g1 g2 x y x1 x2 x3=>?_⟩
   by_cases hx:x=j
   ·subst hx; exact g2 _ x2 (by omega)
   ·exact g1 _ _ x1 x2 (by omega) hx (by omega)
theorem FM {m:Nat}{a b:Nat}{cmp:Int→Int→Option Int}{c:Int→Int→Int}(hm:2 ^ 41≤m):∀(f i:Nat) (d:List Int),b - i<f→a<i→b≤d.length→d.length<2 ^ 40→Cm cmp c d→
  ∃d' x,aN.l0 m (a:Int) (b:Int) cmp f d (i:Int)=some (d',x)∧Mv a b d d'∧(Ord c d→Sg c d a i→Sg c d' a b)
 | 0,i,d,hf,_,_,_,_=>absurd hf (by omega)
 | f+1,i,d,hf,h1,h2,hs,C=>by
  have nT:(2:Nat) ^ 40=1099511627776:=by decide
  have rE:(2:Nat) ^ 41=2199023255552:=by decide
  unfold aN.l0
  by_cases h:i<b
  ·obtain⟨d1,x1,k1,k2,k3⟩:=FL (m:=m) (a:=a) (i:=i) (cmp:=cmp) (c:=c) m i d (by omega) (by omega) (by omega) (by omega) hs C
   have e3:i64.wrap ((i:Int)+1)=((i+1:Nat):Int):=by rw [aD (by omega) (by omega)]; omega
   rw [if_pos (by simp; omega),k1,Xr]
   dsimp only
   rw [e3]
   have hl:=k2.length
   obtain⟨d',x,g1,g2,g3⟩:=FM (a:=a) (b:=b) (cmp:=cmp) (c:=c) hm f (i+1) d1 (by omega) (by omega) (by omega) (by omega) (C.perm k2.perm)
   exact⟨d',x,g1,(k2.wide (Xv _) (by omega)).trans g2,fun O S=>g3 (O.perm k2.perm) (k3 O (fun x y q1 q2 q3 q4 q5=>S x y q1 q2 (by omega)) (fun y q1 q2=>absurd q1 (by omega)))⟩
  ·exact⟨d,i,by rw [if_neg (by simp; omega)],Mv.refl,fun O S x y q1 q2 q3=>S x y q1 q2 (by omega)⟩
theorem yW {m:Nat}{a b:Nat}{cmp:Int→Int→Option Int}{c:Int→Int→Int}(hm:2 ^ 41≤m){l:List Int}(ha:a≤l.length)(hb:b≤l.length)(hs:l.length<2 ^ 40)(C:Cm cmp c l) :
  ∃d,aN.f m l (a:Int) (b:Int) cmp=some d∧Mv a b l d∧(Ord c l→Sg c d a b):=by
 have nT:(2:Nat) ^ 40=1099511627776:=by decide
 have rE:(2:Nat) ^ 41=2199023255552:=by decide
 have e3:i64.wrap ((a:Int)+1)=((a+1:Nat):Int):=by rw [aD (by omega) (by omega)]; omega
 obtain⟨d',x,g1,g2,g3⟩:=FM (a:=a) (b:=b) (cmp:=cmp) (c:=c) hm m (a+1) l (by omega) (by omega) hb hs C
 exact⟨d',by unfold aN.f; rw [e3,g1]; rfl,g2,fun O=>g3 O fun x y q1 q2 q3=>absurd q3 (by omega)⟩
end Go.Proofs.YtmekcfdllhphlaaDoor
namespace Go.Proofs.YtmekcfdllhphlaaDoor
open Go Go.R
open Go.IntKind (i64 u64 u8 u32)
def lh:cg:=gK [0,1,2,3,4,10,11,12,13,14,15,16,17,18,19,20,21,22,23,24,28,33,50,58,80,85,103,110,140,151,171,185,199,213] [] [17178820576,17179869124,17179869068,17177771916,17179868940,17175674636,17179869068,17179869068,17179868894,17171480286,17179868894,17179868894,17163091936,17179868650,17179867626,17146313194,17179865578,17112756714,17179867626,17179867626,17179864574,17045646846,17179864574,17179864574,17179860960,17179844576,17179844576,16911409120,17179811808,17179746272,17179811808,17179746272,17179615200,16642744288,17179353056,16105611232,17179615200,17179615200,17179303904,15031820256,17179303908,12884336612,17179336678,8589402086,17179869183] [] []
def aB.l0 (m:Nat)(ao:List Int)(a0:Int)(aM:Int→Int→Option (Int)):Nat→Int→Int→Option (Int × Int)
 | 0,_,_=>none
 | k+1,i0,j0=>if (decide (i0<j0))=true then ((ix ao (i64.wrap (fZ .u64 (u64.wrap (i64.wrap (i0+j0))) 1))).bind fun v0=>(ix ao a0).bind fun v1=>(aM v0 v1).bind fun r0=>if (decide (r0<(0:Int)))=true then (aB.l0 m ao a0 aM k (i64.wrap (i64.wrap (fZ .u64 (u64.wrap (i64.wrap (i0+j0))) 1)+(1:Int))) j0) else (aB.l0 m ao a0 aM k i0 (i64.wrap (fZ .u64 (u64.wrap (i64.wrap (i0+j0))) 1)))) else (some ((i0,j0)))
def aB.l1 (m:Nat)(i1:Int):Nat→(List Int)→Int→Option ((List Int) × Int)
 | 0,_,_=>none
 | k+1,bm,k0=>if (decide (k0<(i64.wrap (i1 - (1:Int)))))=true then ((ix bm (i64.wrap (k0+(1:Int)))).bind fun v2=>(ix bm k0).bind fun v3=>(ix bm k0).bind fun v4=>(ix (bm.set k0.toNat v2) (i64.wrap (k0+(1:Int)))).bind fun v5=>aB.l1 m i1 k ((bm.set k0.toNat v2).set (i64.wrap (k0+(1:Int))).toNat v3) (i64.wrap (k0+(1:Int)))) else (some ((bm,k0)))
def aB.l2 (m:Nat)(ao:List Int)(m0:Int)(aM:Int→Int→Option (Int)):Nat→Int→Int→Option (Int × Int)
 | 0,_,_=>none
 | k+1,i2,j2=>if (decide (i2<j2))=true then ((ix ao m0).bind fun v6=>(ix ao (i64.wrap (fZ .u64 (u64.wrap (i64.wrap (i2+j2))) 1))).bind fun v7=>(aM v6 v7).bind fun r1=>if (!(decide (r1<(0:Int))))=true then (aB.l2 m ao m0 aM k (i64.wrap (i64.wrap (fZ .u64 (u64.wrap (i64.wrap (i2+j2))) 1)+(1:Int))) j2) else (aB.l2 m ao m0 aM k i2 (i64.wrap (fZ .u64 (u64.wrap (i64.wrap (i2+j2))) 1)))) else (some ((i2,j2)))
def aB.l3 (m:Nat)(i3:Int):Nat→(List Int)→Int→Option ((List Int) × Int)
 | 0,_,_=>none
 | k+1,dj,k2=>if (decide (k2 > i3))=true then ((ix dj (i64.wrap (k2 - (1:Int)))).bind fun v8=>(ix dj k2).bind fun v9=>(ix dj k2).bind fun v10=>(ix (dj.set k2.toNat v8) (i64.wrap (k2 - (1:Int)))).bind fun v11=>aB.l3 m i3 k ((dj.set k2.toNat v8).set (i64.wrap (k2 - (1:Int))).toNat v9) (i64.wrap (k2 - (1:Int)))) else (some ((dj,k2)))
def aB.l4 (m:Nat)(ao:List Int)(a0:Int)(m0:Int)(b0:Int)(aM:Int→Int→Option (Int)):Nat→Int→Int→Option (Int × Int)
 | 0,_,_=>none
 | k+1,fH,r3=>if (decide (fH<r3))=true then ((ix ao (i64.wrap (i64.wrap (i64.wrap (i64.wrap (fZ .u64 (u64.wrap (i64.wrap (a0+b0))) 1)+m0) - (1:Int)) - i64.wrap (fZ .u64 (u64.wrap (i64.wrap (fH+r3))) 1)))).bind fun v12=>(ix ao (i64.wrap (fZ .u64 (u64.wrap (i64.wrap (fH+r3))) 1))).bind fun Iq=>(aM v12 Iq).bind fun r4=>if (!(decide (r4<(0:Int))))=true then (aB.l4 m ao a0 m0 b0 aM k (i64.wrap (i64.wrap (fZ .u64 (u64.wrap (i64.wrap (fH+r3))) 1)+(1:Int))) r3) else (aB.l4 m ao a0 m0 b0 aM k fH (i64.wrap (fZ .u64 (u64.wrap (i64.wrap (fH+r3))) 1)))) else (some ((fH,r3)))
def aB.b (m:Nat)(rec:(List Int)→Int→Int→Int→(Int→Int→Option (Int))→Option ((List Int)))(ao:List Int)(a0:Int)(m0:Int)(b0:Int)(aM:Int→Int→Option (Int)):Option ((List Int)):=if ((i64.wrap (m0 - a0))==(1:Int))=true then ((aB.l0 m ao a0 aM m m0 b0).bind fun bj=>match bj with | (i1,j1)=>(aB.l1 m i1 m ao a0).bind fun bJ=>match bJ with | (cR,k1)=>some cR) else (if ((i64.wrap (b0 - m0))==(1:Int))=true then ((aB.l2 m ao m0 aM m a0 m0).bind fun gO=>match gO with | (i3,j3)=>(aB.l3 m i3 m ao m0).bind fun kH=>match kH with | (jq,k3)=>some jq) else (jn (fun (σ:Int × Int)=>match σ with | (tG,r2)=>(aB.l4 m ao a0 m0 b0 aM m tG r2).bind fun cd=>match cd with | (eJ,r5)=>jn (fun (σ:(List Int))=>match σ with | kI=>jn (fun (σ:(List Int))=>match σ with | oU=>if (decide ((i64.wrap (fZ .u64 (u64.wrap (i64.wrap (a0+b0))) 1))<(i64.wrap (i64.wrap (i64.wrap (fZ .u64 (u64.wrap (i64.wrap (a0+b0))) 1)+m0) - eJ))))=true then (if (decide ((i64.wrap (i64.wrap (i64.wrap (fZ .u64 (u64.wrap (i64.wrap (a0+b0))) 1)+m0) - eJ))<b0))=true then ((rec oU (i64.wrap (fZ .u64 (u64.wrap (i64.wrap (a0+b0))) 1)) (i64.wrap (i64.wrap (i64.wrap (fZ .u64 (u64.wrap (i64.wrap (a0+b0))) 1)+m0) - eJ)) b0 aM).bind fun x2=>some x2) else (some oU)) else (some oU)) fun ND=>(if (decide (a0<eJ))=true then (if (decide (eJ<(i64.wrap (fZ .u64 (u64.wrap (i64.wrap (a0+b0))) 1))))=true then ((rec kI a0 eJ (i64.wrap (fZ .u64 (u64.wrap (i64.wrap (a0+b0))) 1)) aM).bind fun x1=>ND x1) else (ND kI)) else (ND kI))) fun NF=>(if (decide (eJ<m0))=true then (if (decide (m0<(i64.wrap (i64.wrap (i64.wrap (fZ .u64 (u64.wrap (i64.wrap (a0+b0))) 1)+m0) - eJ))))=true then ((eu.f m ao eJ m0 (i64.wrap (i64.wrap (i64.wrap (fZ .u64 (u64.wrap (i64.wrap (a0+b0))) 1)+m0) - eJ)) aM).bind fun x0=>NF x0) else (NF ao)) else (NF ao))) fun O3=>(if (decide (m0 > (i64.wrap (fZ .u64 (u64.wrap (i64.wrap (a0+b0))) 1))))=true then (O3 (i64.wrap (i64.wrap (i64.wrap (fZ .u64 (u64.wrap (i64.wrap (a0+b0))) 1)+m0) - b0),i64.wrap (fZ .u64 (u64.wrap (i64.wrap (a0+b0))) 1))) else (O3 (a0,m0)))))
def aB.f (m:Nat):Nat→(List Int)→Int→Int→Int→(Int→Int→Option (Int))→Option ((List Int))
 | 0,_,_,_,_,_=>none
 | k+1,ao,a0,m0,b0,aM=>aB.b m (aB.f m k) ao a0 m0 b0 aM
def aB.fin (L:Mem)(aA:Nat)(ao:List Int)(a0:Int)(m0:Int)(b0:Int)(aM:Int→Int→Option (Int))(r:(List Int))(s:St):Prop:=aH Tryd.prog (s.open lh) Tryd.f120.results.toList=some (.tup [])∧Has s.h ((aA,.sl ao.length 1 (aa.l r))::L)
def uR (cf:CallF)(m:Nat)(kk:Nat):Prop:=∀(ao:List Int) (a0:Int) (m0:Int) (b0:Int) (aM:Int→Int→Option (Int)) (r:(List Int)),aB.f m kk ao a0 m0 b0 aM=some r→∀h L (cu:Nat) (aA:Nat),Has h ((aA,.sl cu 1 (aa.l ao))::L)→∀(dY:FuncId) (aW:List AV),az (.fn dY aW) = .fn dY aW→(∀h K,Has h (K++L)→∀(a0:Int) (a1:Int) r,aM a0 a1=some r→cf dY ([.int .i64 a0,.int .i64 a1]++aW) h=some (.int .i64 r,h))→∀xs,xs.map az=[.rs aA 0 cu 1,.int .i64 a0,.int .i64 m0,.int .i64 b0,.fn dY aW]→∃h',cf 120 xs h=some (.tup [],h')∧Has h' ((aA,.sl cu 1 (aa.l r))::L)
section
variable {cf:CallF}{m:Nat}
theorem aB.bI (L:Mem)(aA:Nat)(dY:FuncId)(aW:List AV)(ao:List Int)(a0:Int)(m0:Int)(b0:Int)(aM:Int→Int→Option (Int))  {kk:Nat}(iD:uR cf m kk)(gn:az (.fn dY aW) = .fn dY aW)(gV:∀h K,Has h (K++L)→∀(a0:Int) (a1:Int) r,aM a0 a1=some r→cf dY ([.int .i64 a0,.int .i64 a1]++aW) h=some (.int .i64 r,h))  : bD Tryd.prog cf lh m (sub [0,1,0,1,1,0,0,0] (codeOf Tryd.f120)) (fun k (σ:Int × Int)=>aB.l0 m ao a0 aM k σ.1 σ.2) (fun σ s=>match σ with | (i0,j0)=>∃h0,s=⟨.rs aA 0 ao.length 1 :: .int .i64 a0 :: .any :: .any :: .fn dY aW :: .int .i64 i0 :: .int .i64 j0::Nk [],[],h0⟩∧Has h0 ((aA,.sl ao.length 1 (aa.l ao))::L)) (fun out e s=>(e = .exit 0∧∃i0 j0,(i0,j0)=out∧∃DO FC KT h0,s=⟨.rs aA 0 ao.length 1 :: .int .i64 a0 :: .any :: .any::DO :: .int .i64 i0::FC::rC (KT::mK []),[],h0⟩∧Has h0 ((aA,.sl ao.length 1 (aa.l ao))::L))):=by
 refine gG (fun _=>rfl) ?_
 rintro k ⟨i0,j0⟩ s out ⟨h0,rfl,o0⟩ H
 have H:aB.l0 m ao a0 aM (k+1) i0 j0=some out:=H
 refine qq <| qq <| q0 <| qc H (fun c1 H=>?_) (fun c1 H=>?_)
 ·refine qk <| qb 1 <| qq <| q0 <| qq ?_
  obtain⟨v0,e0,H⟩:=aI H
  obtain⟨v1,e1,H⟩:=aI H
  obtain⟨r0,e2,H⟩:=aI H
  refine qr [.v 3 (aE (k:=.i64) (E:=aa) (l:=ao) (q:=0) dz o0 rfl e0),.v 4 (be  (E:=aa) (l:=ao) (q:=0) o0 rfl A3 e0 rfl),.v 7 (aE (k:=.i64) (E:=aa) (l:=ao) (q:=0) dz o0 rfl e1),.v 8 (be  (E:=aa) (l:=ao) (q:=0) o0 rfl A3 e1 rfl),.a 9 (gV h0 [(aA,.sl ao.length 1 (aa.l ao))] o0 _ _ _ e2)] <| qc H (fun c2 H=>?_) (fun c2 H=>?_)
  ·exact q0 <| ⟨(i64.wrap (i64.wrap (fZ .u64 (u64.wrap (i64.wrap (i0+j0))) 1)+(1:Int)),j0),⟨h0,by kernel_rfl,o0⟩,H⟩
  ·exact q0 <| ⟨(i0,i64.wrap (fZ .u64 (u64.wrap (i64.wrap (i0+j0))) 1)),⟨h0,by kernel_rfl,o0⟩,H⟩
 ·exact qx 0 <| ⟨rfl,i0,j0,oi H,.fn dY aW,.int .i64 j0,.bool (decide (i0<j0)),h0,by kernel_rfl,o0⟩
theorem aB.eQ (L:Mem)(aA:Nat)(dY:FuncId)(aW:List AV)(ao:List Int)(a0:Int)(m0:Int)(b0:Int)(aM:Int→Int→Option (Int))(i1:Int)  {kk:Nat}(iD:uR cf m kk)(gn:az (.fn dY aW) = .fn dY aW)(gV:∀h K,Has h (K++L)→∀(a0:Int) (a1:Int) r,aM a0 a1=some r→cf dY ([.int .i64 a0,.int .i64 a1]++aW) h=some (.int .i64 r,h))  : bD Tryd.prog cf lh m (sub [0,1,0,1,1,1,0,1,0,0] (codeOf Tryd.f120)) (fun k (σ:(List Int) × Int)=>aB.l1 m i1 k σ.1 σ.2) (fun σ s=>match σ with | (bm,k0)=>∃h2,s=⟨.rs aA 0 ao.length 1::q9 (.int .i64 i1 :: .any :: .any :: .int .i64 k0::Qi []),[],h2⟩∧Has h2 ((aA,.sl ao.length 1 (aa.l bm))::L)) (fun out e s=>(e = .exit 2∧∃bm k0,(bm,k0)=out∧∃kG qd qe Qx h2,s=⟨kG::q9 (qd :: .any :: .any::qe::rC (Qx::uK [])),[],h2⟩∧Has h2 ((aA,.sl ao.length 1 (aa.l bm))::L))):=by
 refine gG (fun _=>rfl) ?_
 rintro k ⟨bm,k0⟩ s out ⟨h2,rfl,o2⟩ H
 have H:aB.l1 m i1 (k+1) bm k0=some out:=H
 refine qq <| qq <| q0 <| qc H (fun c3 H=>?_) (fun c3 H=>?_)
 ·refine qk <| qq <| qb 3 ?_
  obtain⟨v2,e4,H⟩:=aI H
  obtain⟨v3,e5,H⟩:=aI H
  obtain⟨v4,e6,H⟩:=aI H
  obtain⟨h3,e7,o3⟩:=dD (P:=Tryd.prog) (tf:=3) (E:=aa) (l:=bm) (q:=0) (v:=v2) (x:=.int .i64 v2) o2 rfl Z3 e6 rfl rfl
  obtain⟨v5,e8,H⟩:=aI H
  obtain⟨h4,e9,o4⟩:=dD (P:=Tryd.prog) (tf:=3) (E:=aa) (l:=(bm.set k0.toNat v2)) (q:=0) (v:=v3) (x:=.int .i64 v3) o3 rfl Z3 e8 rfl rfl
  exact qr [.v 8 (aE (k:=.i64) (E:=aa) (l:=bm) (q:=0) dz o2 rfl e4),.v 9 (be  (E:=aa) (l:=bm) (q:=0) o2 rfl A3 e4 rfl),.v 12 (aE (k:=.i64) (E:=aa) (l:=bm) (q:=0) dz o2 rfl e5),.v 13 (be  (E:=aa) (l:=bm) (q:=0) o2 rfl A3 e5 rfl),.v 14 (aE (k:=.i64) (E:=aa) (l:=bm) (q:=0) dz o2 rfl e6),.w 15 e7,.v 16 (aE (k:=.i64) (E:=aa) (l:=(bm.set k0.toNat v2)) (q:=0) dz o3 rfl e8),.w 17 e9] <| q0 <| ⟨((bm.set k0.toNat v2).set (i64.wrap (k0+(1:Int))).toNat v3,i64.wrap (k0+(1:Int))),⟨h4,by kernel_rfl,o4⟩,H⟩
 ·exact qx 2 <| ⟨rfl,bm,k0,oi H,.rs aA 0 ao.length 1,.int .i64 i1,.int .i64 k0,.bool (decide (k0<(i64.wrap (i1 - (1:Int))))),h2,by kernel_rfl,o2⟩
theorem aB.mc (L:Mem)(aA:Nat)(dY:FuncId)(aW:List AV)(ao:List Int)(a0:Int)(m0:Int)(b0:Int)(aM:Int→Int→Option (Int))  {kk:Nat}(iD:uR cf m kk)(gn:az (.fn dY aW) = .fn dY aW)(gV:∀h K,Has h (K++L)→∀(a0:Int) (a1:Int) r,aM a0 a1=some r→cf dY ([.int .i64 a0,.int .i64 a1]++aW) h=some (.int .i64 r,h))  : bD Tryd.prog cf lh m (sub [1,0,1,0,1,1,0,0,0] (codeOf Tryd.f120)) (fun k (σ:Int × Int)=>aB.l2 m ao m0 aM k σ.1 σ.2) (fun σ s=>match σ with | (i2,j2)=>∃h6,s=⟨.rs aA 0 ao.length 1 :: .any :: .int .i64 m0 :: .any :: .fn dY aW::q9 (.int .i64 i2 :: .int .i64 j2::Qh []),[],h6⟩∧Has h6 ((aA,.sl ao.length 1 (aa.l ao))::L)) (fun out e s=>(e = .exit 4∧∃i2 j2,(i2,j2)=out∧∃DO tH Qy h6,s=⟨.rs aA 0 ao.length 1 :: .any :: .int .i64 m0 :: .any::DO::q9 (.int .i64 i2::tH::rC (Qy::pY [])),[],h6⟩∧Has h6 ((aA,.sl ao.length 1 (aa.l ao))::L))):=by
 refine gG (fun _=>rfl) ?_
 rintro k ⟨i2,j2⟩ s out ⟨h6,rfl,o6⟩ H
 have H:aB.l2 m ao m0 aM (k+1) i2 j2=some out:=H
 refine qq <| qq <| q0 <| qc H (fun c5 H=>?_) (fun c5 H=>?_)
 ·refine qk <| qb 5 <| qq <| q0 <| qq ?_
  obtain⟨v6,qn,H⟩:=aI H
  obtain⟨v7,rL,H⟩:=aI H
  obtain⟨r1,rM,H⟩:=aI H
  refine qr [.v 3 (aE (k:=.i64) (E:=aa) (l:=ao) (q:=0) dz o6 rfl qn),.v 4 (be  (E:=aa) (l:=ao) (q:=0) o6 rfl A3 qn rfl),.v 7 (aE (k:=.i64) (E:=aa) (l:=ao) (q:=0) dz o6 rfl rL),.v 8 (be  (E:=aa) (l:=ao) (q:=0) o6 rfl A3 rL rfl),.a 9 (gV h6 [(aA,.sl ao.length 1 (aa.l ao))] o6 _ _ _ rM)] <| qc H (fun c6 H=>?_) (fun c6 H=>?_)
  ·exact q0 <| ⟨(i64.wrap (i64.wrap (fZ .u64 (u64.wrap (i64.wrap (i2+j2))) 1)+(1:Int)),j2),⟨h6,by kernel_rfl,o6⟩,H⟩
  ·exact q0 <| ⟨(i2,i64.wrap (fZ .u64 (u64.wrap (i64.wrap (i2+j2))) 1)),⟨h6,by kernel_rfl,o6⟩,H⟩
 ·exact qx 4 <| ⟨rfl,i2,j2,oi H,.fn dY aW,.int .i64 j2,.bool (decide (i2<j2)),h6,by kernel_rfl,o6⟩
theorem aB.oV (L:Mem)(aA:Nat)(dY:FuncId)(aW:List AV)(ao:List Int)(a0:Int)(m0:Int)(b0:Int)(aM:Int→Int→Option (Int))(i3:Int)  {kk:Nat}(iD:uR cf m kk)(gn:az (.fn dY aW) = .fn dY aW)(gV:∀h K,Has h (K++L)→∀(a0:Int) (a1:Int) r,aM a0 a1=some r→cf dY ([.int .i64 a0,.int .i64 a1]++aW) h=some (.int .i64 r,h))  : bD Tryd.prog cf lh m (sub [1,0,1,0,1,1,1,0,1,0,0] (codeOf Tryd.f120)) (fun k (σ:(List Int) × Int)=>aB.l3 m i3 k σ.1 σ.2) (fun σ s=>match σ with | (dj,k2)=>∃h8,s=⟨.rs aA 0 ao.length 1::pY (.int .i64 i3 :: .any :: .any :: .int .i64 k2::Nh []),[],h8⟩∧Has h8 ((aA,.sl ao.length 1 (aa.l dj))::L)) (fun out e s=>(e = .exit 6∧∃dj k2,(dj,k2)=out∧∃kG xi AI NG h8,s=⟨kG::pY (xi :: .any :: .any::AI::rC (NG::BQ [])),[],h8⟩∧Has h8 ((aA,.sl ao.length 1 (aa.l dj))::L))):=by
 refine gG (fun _=>rfl) ?_
 rintro k ⟨dj,k2⟩ s out ⟨h8,rfl,o8⟩ H
 have H:aB.l3 m i3 (k+1) dj k2=some out:=H
 refine qq <| qq <| q0 <| qc H (fun c7 H=>?_) (fun c7 H=>?_)
 ·refine qk <| qq <| qb 7 ?_
  obtain⟨v8,rN,H⟩:=aI H
  obtain⟨v9,vJ,H⟩:=aI H
  obtain⟨v10,uS,H⟩:=aI H
  obtain⟨h9,zR,o9⟩:=dD (P:=Tryd.prog) (tf:=3) (E:=aa) (l:=dj) (q:=0) (v:=v8) (x:=.int .i64 v8) o8 rfl Z3 uS rfl rfl
  obtain⟨v11,ux,H⟩:=aI H
  obtain⟨h10,zS,tF⟩:=dD (P:=Tryd.prog) (tf:=3) (E:=aa) (l:=(dj.set k2.toNat v8)) (q:=0) (v:=v9) (x:=.int .i64 v9) o9 rfl Z3 ux rfl rfl
  exact qr [.v 8 (aE (k:=.i64) (E:=aa) (l:=dj) (q:=0) dz o8 rfl rN),.v 9 (be  (E:=aa) (l:=dj) (q:=0) o8 rfl A3 rN rfl),.v 12 (aE (k:=.i64) (E:=aa) (l:=dj) (q:=0) dz o8 rfl vJ),.v 13 (be  (E:=aa) (l:=dj) (q:=0) o8 rfl A3 vJ rfl),.v 14 (aE (k:=.i64) (E:=aa) (l:=dj) (q:=0) dz o8 rfl uS),.w 15 zR,.v 16 (aE (k:=.i64) (E:=aa) (l:=(dj.set k2.toNat v8)) (q:=0) dz o9 rfl ux),.w 17 zS] <| q0 <| ⟨((dj.set k2.toNat v8).set (i64.wrap (k2 - (1:Int))).toNat v9,i64.wrap (k2 - (1:Int))),⟨h10,by kernel_rfl,tF⟩,H⟩
 ·exact qx 6 <| ⟨rfl,dj,k2,oi H,.rs aA 0 ao.length 1,.int .i64 i3,.int .i64 k2,.bool (decide (k2 > i3)),h8,by kernel_rfl,o8⟩
theorem aB.oW (L:Mem)(aA:Nat)(dY:FuncId)(aW:List AV)(ao:List Int)(a0:Int)(m0:Int)(b0:Int)(aM:Int→Int→Option (Int))  {kk:Nat}(iD:uR cf m kk)(gn:az (.fn dY aW) = .fn dY aW)(gV:∀h K,Has h (K++L)→∀(a0:Int) (a1:Int) r,aM a0 a1=some r→cf dY ([.int .i64 a0,.int .i64 a1]++aW) h=some (.int .i64 r,h))  : bD Tryd.prog cf lh m (sub [1,1,1,1,1,1,1,0,0,0] (codeOf Tryd.f120)) (fun k (σ:Int × Int)=>aB.l4 m ao a0 m0 b0 aM k σ.1 σ.2) (fun σ s=>match σ with | (fH,r3)=>∃h13,s=⟨.rs aA 0 ao.length 1 :: .int .i64 a0 :: .int .i64 m0 :: .int .i64 b0 :: .fn dY aW::pY (.int .i64 (i64.wrap (fZ .u64 (u64.wrap (i64.wrap (a0+b0))) 1)) :: .int .i64 (i64.wrap (i64.wrap (fZ .u64 (u64.wrap (i64.wrap (a0+b0))) 1)+m0)) :: .int .i64 fH :: .int .i64 r3 :: .int .i64 (i64.wrap (i64.wrap (i64.wrap (fZ .u64 (u64.wrap (i64.wrap (a0+b0))) 1)+m0) - (1:Int)))::Fp []),[],h13⟩∧Has h13 ((aA,.sl ao.length 1 (aa.l ao))::L)) (fun out e s=>(e = .exit 8∧∃fH r3,(fH,r3)=out∧∃KU xj NH h13,s=⟨.rs aA 0 ao.length 1 :: .int .i64 a0 :: .int .i64 m0 :: .int .i64 b0 :: .fn dY aW::pY (.int .i64 (i64.wrap (fZ .u64 (u64.wrap (i64.wrap (a0+b0))) 1)) :: .int .i64 (i64.wrap (i64.wrap (fZ .u64 (u64.wrap (i64.wrap (a0+b0))) 1)+m0)) :: .int .i64 fH::KU::xj::oL (NH::q9 [])),[],h13⟩∧Has h13 ((aA,.sl ao.length 1 (aa.l ao))::L))):=by
 refine gG (fun _=>rfl) ?_
 rintro k ⟨fH,r3⟩ s out ⟨h13,rfl,lB⟩ H
 have H:aB.l4 m ao a0 m0 b0 aM (k+1) fH r3=some out:=H
 refine qq <| qq <| q0 <| qc H (fun c9 H=>?_) (fun c9 H=>?_)
 ·refine qk <| qb 9 <| qq <| q0 <| qq ?_
  obtain⟨v12,Eg,H⟩:=aI H
  obtain⟨Iq,FN,H⟩:=aI H
  obtain⟨r4,Eh,H⟩:=aI H
  refine qr [.v 5 (aE (k:=.i64) (E:=aa) (l:=ao) (q:=0) dz lB rfl Eg),.v 6 (be  (E:=aa) (l:=ao) (q:=0) lB rfl A3 Eg rfl),.v 9 (aE (k:=.i64) (E:=aa) (l:=ao) (q:=0) dz lB rfl FN),.v 10 (be  (E:=aa) (l:=ao) (q:=0) lB rfl A3 FN rfl),.a 11 (gV h13 [(aA,.sl ao.length 1 (aa.l ao))] lB _ _ _ Eh)] <| qc H (fun uO H=>?_) (fun uO H=>?_)
  ·exact q0 <| ⟨(i64.wrap (i64.wrap (fZ .u64 (u64.wrap (i64.wrap (fH+r3))) 1)+(1:Int)),r3),⟨h13,by kernel_rfl,lB⟩,H⟩
  ·exact q0 <| ⟨(fH,i64.wrap (fZ .u64 (u64.wrap (i64.wrap (fH+r3))) 1)),⟨h13,by kernel_rfl,lB⟩,H⟩
 ·exact qx 8 <| ⟨rfl,fH,r3,oi H,.int .i64 r3,.int .i64 (i64.wrap (i64.wrap (i64.wrap (fZ .u64 (u64.wrap (i64.wrap (a0+b0))) 1)+m0) - (1:Int))),.bool (decide (fH<r3)),h13,by kernel_rfl,lB⟩
theorem tI {aU:FuncId→cg}(ha:aU 120=lh)(NI:Nx cf m)(ao:List Int)(a0:Int)(m0:Int)(b0:Int)(aM:Int→Int→Option (Int))(h:AHeap)(L:Mem)(aA:Nat)(dY:FuncId)(aW:List AV)  {kk:Nat}(iD:uR cf m kk)(gn:az (.fn dY aW) = .fn dY aW)(gV:∀h K,Has h (K++L)→∀(a0:Int) (a1:Int) r,aM a0 a1=some r→cf dY ([.int .i64 a0,.int .i64 a1]++aW) h=some (.int .i64 r,h))(o:Has h ((aA,.sl ao.length 1 (aa.l ao))::L)){out:(List Int)}(H:aB.f m (kk+1) ao a0 m0 b0 aM=some out) :
  ∃r h',bc Tryd.prog aU cf m 120 [.rs aA 0 ao.length 1,.int .i64 a0,.int .i64 m0,.int .i64 b0,.fn dY aW] h=some (r,h')∧r = .tup []∧Has h' ((aA,.sl ao.length 1 (aa.l out))::L):=by
 refine aq (fn:=Tryd.f120) ha Tryd.func120 (by kernel_rfl) (by kernel_rfl) ?_
 refine aG (Q:=fun s=>aB.fin L aA ao a0 m0 b0 aM out s) (fun _ _ ⟨h1,h2,h3⟩=>⟨h1,_,h2,rfl,h3⟩) ?_
 have H:aB.b m (aB.f m kk) ao a0 m0 b0 aM=some out:=H
 unfold aB.b at H
 show de _ cf lh m _ ⟨.rs aA 0 ao.length 1 :: .int .i64 a0 :: .int .i64 m0 :: .int .i64 b0 :: .fn dY aW::Qj [],[],h⟩ _
 refine qq <| qq <| q0 <| qc H (fun c0 H=>?_) (fun c0 H=>?_)
 ·refine q1 <| qq <| q0 <| qq <| qb 0 ?_
  obtain⟨bj,e3,H⟩:=aI H
  refine ql (aB.bI L aA dY aW ao a0 m0 b0 aM  iD gn gV  (m0,b0) _ _ ⟨h,by kernel_rfl,o⟩ e3) ?_
  rintro e s ⟨rfl,i1,j1,rfl,g0,g1,g2,h1,rfl,o1⟩
  try dsimp only at H
  refine qq <| qq <| q0 <| qb 2 ?_
  obtain⟨bJ,nJ,H⟩:=aI H
  refine ql (aB.eQ L aA dY aW ao a0 m0 b0 aM i1  iD gn gV  (ao,a0) _ _ ⟨h1,by kernel_rfl,o1⟩ nJ) ?_
  rintro e s ⟨rfl,cR,k1,rfl,g3,g4,g5,g6,h5,rfl,o5⟩
  try dsimp only at H
  obtain rfl:=oi H
  exact qt <| ⟨.inl rfl,⟨by kernel_rfl,he o5⟩⟩
 ·refine qk <| qq <| qq <| q0 <| qc H (fun c4 H=>?_) (fun c4 H=>?_)
  ·refine q1 <| qq <| q0 <| qq <| qb 4 ?_
   obtain⟨gO,tJ,H⟩:=aI H
   refine ql (aB.mc L aA dY aW ao a0 m0 b0 aM  iD gn gV  (a0,m0) _ _ ⟨h,by kernel_rfl,o⟩ tJ) ?_
   rintro e s ⟨rfl,i3,j3,rfl,g7,g8,g9,h7,rfl,o7⟩
   try dsimp only at H
   refine qq <| qq <| q0 <| qb 6 ?_
   obtain⟨kH,B8,H⟩:=aI H
   refine ql (aB.oV L aA dY aW ao a0 m0 b0 aM i3  iD gn gV  (ao,m0) _ _ ⟨h7,by kernel_rfl,o7⟩ B8) ?_
   rintro e s ⟨rfl,jq,k3,rfl,g10,g11,g12,g13,h11,rfl,uw⟩
   try dsimp only at H
   obtain rfl:=oi H
   exact qt <| ⟨.inl rfl,⟨by kernel_rfl,he uw⟩⟩
  ·refine qk <| qq <| q0 <| qq <| q0 <| qq <| q0 ?_
   obtain⟨O3,Tq,H⟩:=w9 H
   refine qj (S:=fun (σ:Int × Int) s=>match σ with | (tG,r2)=>∃(h12:AHeap),s=⟨.rs aA 0 ao.length 1 :: .int .i64 a0 :: .int .i64 m0 :: .int .i64 b0 :: .fn dY aW::pY (.int .i64 (i64.wrap (fZ .u64 (u64.wrap (i64.wrap (a0+b0))) 1)) :: .int .i64 (i64.wrap (i64.wrap (fZ .u64 (u64.wrap (i64.wrap (a0+b0))) 1)+m0)) :: .int .i64 tG :: .int .i64 r2::Dx []),[],h12⟩∧Has h12 ((aA,.sl ao.length 1 (aa.l ao))::L)) O3 H ?_ ?_
   ·rintro⟨tG,r2⟩ s ⟨h12,rfl,oT⟩ H
    have H:=(Tq _).symm.trans H
    try dsimp only at H
    refine q1 <| qq <| qb 8 ?_
    obtain⟨cd,FO,H⟩:=aI H
    refine ql (aB.oW L aA dY aW ao a0 m0 b0 aM  iD gn gV  (tG,r2) _ _ ⟨h12,by kernel_rfl,oT⟩ FO) ?_
    rintro e s ⟨rfl,eJ,r5,rfl,g14,g15,g16,h14,rfl,uQ⟩
    try dsimp only at H
    refine q1 ?_
    obtain⟨NF,O0,H⟩:=w9 H
    refine qj (S:=fun (σ:(List Int)) s=>match σ with | kI=>∃(g17:AV) (g18:AV) (h16:AHeap),s=⟨.rs aA 0 ao.length 1 :: .int .i64 a0::g17 :: .int .i64 b0 :: .fn dY aW::pY (.int .i64 (i64.wrap (fZ .u64 (u64.wrap (i64.wrap (a0+b0))) 1)) :: .any :: .int .i64 eJ::jP (.int .i64 (i64.wrap (i64.wrap (i64.wrap (fZ .u64 (u64.wrap (i64.wrap (a0+b0))) 1)+m0) - eJ))::oL [g18,.any,.any])),[],h16⟩∧Has h16 ((aA,.sl ao.length 1 (aa.l kI))::L)) NF H ?_ ?_
    ·rintro kI s ⟨g17,g18,h16,rfl,lG⟩ H
     have H:=(O0 _).symm.trans H
     try dsimp only at H
     obtain⟨ND,EM,H⟩:=w9 H
     refine qj (S:=fun (σ:(List Int)) s=>match σ with | oU=>∃(g19:AV) (g20:AV) (g21:AV) (h18:AHeap),s=⟨.rs aA 0 ao.length 1::g19 :: .any :: .int .i64 b0 :: .fn dY aW::pY (.int .i64 (i64.wrap (fZ .u64 (u64.wrap (i64.wrap (a0+b0))) 1)) :: .any::g20::jP (.int .i64 (i64.wrap (i64.wrap (i64.wrap (fZ .u64 (u64.wrap (i64.wrap (a0+b0))) 1)+m0) - eJ))::mK [g21,.any])),[],h18⟩∧Has h18 ((aA,.sl ao.length 1 (aa.l oU))::L)) ND H ?_ ?_
     ·rintro oU s ⟨g19,g20,g21,h18,rfl,DP⟩ H
      have H:=(EM _).symm.trans H
      try dsimp only at H
      refine qq ?_
      rcases dJ H with⟨DH,H⟩| ⟨DH,H⟩
      ·refine qr [.b 3 DH] <| qc H (fun KV H=>?_) (fun KV H=>?_)
       ·obtain⟨x2,FP,H⟩:=aI H
        obtain⟨h19,Ir,DQ⟩:=iD _ _ _ _ _ _ FP h18 _ _ _ (DP) dY aW gn (fun h' K' o'=>gV h' (K'++[]) (by simpa only [XF,XU,X2] using o')) [.rs aA 0 ao.length 1,.int .i64 (i64.wrap (fZ .u64 (u64.wrap (i64.wrap (a0+b0))) 1)),.int .i64 (i64.wrap (i64.wrap (i64.wrap (fZ .u64 (u64.wrap (i64.wrap (a0+b0))) 1)+m0) - eJ)),.int .i64 b0,.fn dY aW] (an (rfl) (an (aP (bE)) (an (aP (bE)) (an (aP (bE)) (an (gn) (bo))))))
        obtain rfl:=oi H
        exact qr [.a 5 Ir] <| ⟨.inr rfl,⟨by kernel_rfl,he DQ⟩⟩
       ·obtain rfl:=oi H
        exact qk <| ⟨.inr rfl,⟨by kernel_rfl,he DP⟩⟩
      ·obtain rfl:=oi H
       exact qr [.b 3 DH] <| DB <| qk <| ⟨.inr rfl,⟨by kernel_rfl,he DP⟩⟩
     clear EM
     intro KW
     refine qq ?_
     rcases dJ H with⟨rF,H⟩| ⟨rF,H⟩
     ·refine qr [.b 3 rF] <| qc H (fun B4 H=>?_) (fun B4 H=>?_)
      ·obtain⟨x1,FQ,H⟩:=aI H
       obtain⟨h17,FR,zT⟩:=iD _ _ _ _ _ _ FQ h16 _ _ _ (lG) dY aW gn (fun h' K' o'=>gV h' (K'++[]) (by simpa only [XF,XU,X2] using o')) [.rs aA 0 ao.length 1,.int .i64 a0,.int .i64 eJ,.int .i64 (i64.wrap (fZ .u64 (u64.wrap (i64.wrap (a0+b0))) 1)),.fn dY aW] (an (rfl) (an (aP (bE)) (an (aP (bE)) (an (aP (bE)) (an (gn) (bo))))))
       exact qr [.a 5 FR] <| KW x1 _ ⟨.any,.any,.any,h17,by kernel_rfl,zT⟩ H
      ·exact qk <| KW kI _ ⟨.int .i64 a0,.int .i64 eJ,.bool (decide (eJ<(i64.wrap (fZ .u64 (u64.wrap (i64.wrap (a0+b0))) 1)))),h16,by kernel_rfl,lG⟩ H
     ·exact qr [.b 3 rF] <| DB <| qk <| KW kI _ ⟨.int .i64 a0,.int .i64 eJ,.bool false,h16,by kernel_rfl,lG⟩ H
    clear O0
    intro KX
    refine qq ?_
    rcases dJ H with⟨nH,H⟩| ⟨nH,H⟩
    ·refine qr [.b 3 nH] <| qc H (fun nU H=>?_) (fun nU H=>?_)
     ·obtain⟨x0,FT,H⟩:=aI H
      obtain⟨h15,Hx,yP⟩:=NI _ _ _ _ _ _ FT h14 _ _ _ (uQ) dY aW gn (fun h' K' o'=>gV h' (K'++[]) (by simpa only [XF,XU,X2] using o')) [.rs aA 0 ao.length 1,.int .i64 eJ,.int .i64 m0,.int .i64 (i64.wrap (i64.wrap (i64.wrap (fZ .u64 (u64.wrap (i64.wrap (a0+b0))) 1)+m0) - eJ)),.fn dY aW] (an (rfl) (an (aP (bE)) (an (aP (bE)) (an (aP (bE)) (an (gn) (bo))))))
      exact qr [.a 5 Hx] <| KX x0 _ ⟨.any,.any,h15,by kernel_rfl,yP⟩ H
     ·exact qk <| KX ao _ ⟨.int .i64 m0,.bool (decide (m0<(i64.wrap (i64.wrap (i64.wrap (fZ .u64 (u64.wrap (i64.wrap (a0+b0))) 1)+m0) - eJ)))),h14,by kernel_rfl,uQ⟩ H
    ·exact qr [.b 3 nH] <| DB <| qk <| KX ao _ ⟨.int .i64 m0,.bool false,h14,by kernel_rfl,uQ⟩ H
   clear Tq
   intro NJ
   refine q1 <| qc H (fun c8 H=>?_) (fun c8 H=>?_)
   ·exact q1 <| q0 <| NJ (i64.wrap (i64.wrap (i64.wrap (fZ .u64 (u64.wrap (i64.wrap (a0+b0))) 1)+m0) - b0),i64.wrap (fZ .u64 (u64.wrap (i64.wrap (a0+b0))) 1)) _ ⟨h,by kernel_rfl,o⟩ H
   ·exact q1 <| q0 <| NJ (a0,m0) _ ⟨h,by kernel_rfl,o⟩ H
end
end Go.Proofs.YtmekcfdllhphlaaDoor
namespace Go.Proofs.YtmekcfdllhphlaaDoor
open Go Go.R
open Go.IntKind (i64 u64 u8 u32)
theorem FU {α β:Type}{B:α→Option β}{c1 c2:Bool}{X:Option α}{d0:α}{G:β→Prop}(D:α→Prop)(h1:c1=true→c2=true→∃x,X=some x∧D x)(h0:¬(c1=true∧c2=true)→D d0)
  (h:∀x,D x→∃d,B x=some d∧G d):∃d,jn B (fun j=>if c1=true then (if c2=true then (X.bind fun x0=>j x0) else j d0) else j d0)=some d∧G d:=by
 unfold jn
 dsimp only
 by_cases a1:c1=true
 ·by_cases a2:c2=true
  ·obtain⟨x,e,hx⟩:=h1 a1 a2
   rw [if_pos a1,if_pos a2,e]; exact h x hx
  ·rw [if_pos a1,if_neg a2]; exact h _ (h0 fun z=>a2 z.2)
 ·rw [if_neg a1]; exact h _ (h0 fun z=>a1 z.1)
theorem Qz {α:Type}{c1 c2:Bool}{X:Option α}{d0:α}{G:α→Prop}(h1:c1=true→c2=true→∃x,X=some x∧G x)(h0:¬(c1=true∧c2=true)→G d0) :
  ∃d,(if c1=true then (if c2=true then (X.bind fun x0=>some x0) else some d0) else some d0)=some d∧G d:=by
 by_cases a1:c1=true
 ·by_cases a2:c2=true
  ·obtain⟨x,e,hx⟩:=h1 a1 a2
   rw [if_pos a1,if_pos a2,e]; exact⟨x,rfl,hx⟩
  ·rw [if_pos a1,if_neg a2]; exact⟨_,rfl,h0 fun z=>a2 z.2⟩
 ·rw [if_neg a1]; exact⟨_,rfl,h0 fun z=>a1 z.1⟩
theorem KY {α β:Type}{B:α→Option β}{c:Bool}{x y:α}{G:β→Prop}(h:∀z,(c=true∧z=x)∨(c=false∧z=y)→∃d,B z=some d∧G d):∃d,jn B (fun j=>if c=true then j x else j y)=some d∧G d:=by
 unfold jn
 dsimp only
 cases c with
 | true=>exact h _ (.inl ⟨rfl,rfl⟩)
 | false=>exact h _ (.inr ⟨rfl,rfl⟩)
theorem Ord.refl {c:Int→Int→Int}{l:List Int}(O:Ord c l){x:Int}(hx:x∈l):0≤c x x:=by
 by_cases h:c x x<0
 ·exact O.Md x hx x hx h
 ·omega
theorem Sg.le {c:Int→Int→Int}{l:List Int}{a b:Nat}(S:Sg c l a b)(O:Ord c l){i j:Nat}(h1:a≤i)(h2:i≤j)(h3:j<b)(h4:b≤l.length):0≤c (gt l j) (gt l i):=by
 by_cases h:i=j
 ·subst h; exact O.refl (aJ (by omega))
 ·exact S i j h1 (by omega) h3
section
variable {m:Nat}{cmp:Int→Int→Option Int}{c:Int→Int→Int}
theorem AJ {l:List Int}{a:Nat}(ha:a<l.length)(hs:l.length<2 ^ 40)(C:Cm cmp c l):∀(f i j:Nat),j - i<f→i≤j→j≤l.length→
  ∃x:Nat,aB.l0 m l (a:Int) cmp f (i:Int) (j:Int)=some ((x:Int),(x:Int))∧i≤x∧x≤j∧(i<x→c (gt l (x - 1)) (gt l a)<0)∧(x<j→0≤c (gt l x) (gt l a))
 | 0,i,j,hf,_,_=>absurd hf (by omega)
 | f+1,i,j,hf,h1,h2=>by
  have nT:(2:Nat) ^ 40=1099511627776:=by decide
  unfold aB.l0
  by_cases h:i<j
  ·have hh:=yO (a:=i) (b:=j) (by omega)
   rw [if_pos (by simp; omega),hh,cj (by omega),cj ha,Xr,Xr,C.at (by omega) ha,Xr]
   by_cases g:c (gt l ((i+j) / 2)) (gt l a)<0
   ·obtain⟨x,e,x1,x2,x3,x4⟩:=AJ ha hs C f ((i+j) / 2+1) j (by omega) (by omega) h2
    rw [if_pos (by simpa using g),aD (by omega) (by omega),show (((i+j) / 2:Nat):Int)+1=(((i+j) / 2+1:Nat):Int) by omega,e]
    refine⟨x,rfl,by omega,x2,fun _=>?_,x4⟩
    by_cases hx:x=(i+j) / 2+1
    ·rw [hx]; simpa using g
    ·exact x3 (by omega)
   ·obtain⟨x,e,x1,x2,x3,x4⟩:=AJ ha hs C f i ((i+j) / 2) (by omega) (by omega) (by omega)
    rw [if_neg (by simpa using g),e]
    refine⟨x,rfl,x1,by omega,x3,fun _=>?_⟩
    by_cases hx:x=(i+j) / 2
    ·rw [hx]; omega
    ·exact x4 (by omega)
  ·have:i=j:=by omega
   subst this
   exact⟨i,by rw [if_neg (by simp)],Xv _,Xv _,fun h=>absurd h (by omega),fun h=>absurd h (by omega)⟩
theorem AK {l:List Int}{q:Nat}(hq:q<l.length)(hs:l.length<2 ^ 40)(C:Cm cmp c l):∀(f i j:Nat),j - i<f→i≤j→j≤l.length→
  ∃x:Nat,aB.l2 m l (q:Int) cmp f (i:Int) (j:Int)=some ((x:Int),(x:Int))∧i≤x∧x≤j∧(i<x→0≤c (gt l q) (gt l (x - 1)))∧(x<j→c (gt l q) (gt l x)<0)
 | 0,i,j,hf,_,_=>absurd hf (by omega)
 | f+1,i,j,hf,h1,h2=>by
  have nT:(2:Nat) ^ 40=1099511627776:=by decide
  unfold aB.l2
  by_cases h:i<j
  ·have hh:=yO (a:=i) (b:=j) (by omega)
   rw [if_pos (by simp; omega),hh,cj hq,cj (by omega),Xr,Xr,C.at hq (by omega),Xr]
   by_cases g:c (gt l q) (gt l ((i+j) / 2))<0
   ·obtain⟨x,e,x1,x2,x3,x4⟩:=AK hq hs C f i ((i+j) / 2) (by omega) (by omega) (by omega)
    rw [if_neg (by simpa using g),e]
    refine⟨x,rfl,x1,by omega,x3,fun _=>?_⟩
    by_cases hx:x=(i+j) / 2
    ·rw [hx]; omega
    ·exact x4 (by omega)
   ·obtain⟨x,e,x1,x2,x3,x4⟩:=AK hq hs C f ((i+j) / 2+1) j (by omega) (by omega) h2
    rw [if_pos (by simpa using g),aD (by omega) (by omega),show (((i+j) / 2:Nat):Int)+1=(((i+j) / 2+1:Nat):Int) by omega,e]
    refine⟨x,rfl,by omega,x2,fun _=>?_,x4⟩
    by_cases hx:x=(i+j) / 2+1
    ·rw [hx]; simp; omega
    ·exact x3 (by omega)
  ·have:i=j:=by omega
   subst this
   exact⟨i,by rw [if_neg (by simp)],Xv _,Xv _,fun h=>absurd h (by omega),fun h=>absurd h (by omega)⟩
theorem FV {l:List Int}{a x:Nat}(hx:x≤l.length)(QA:a<x)(hs:l.length<2 ^ 40):∀(f k:Nat) (d:List Int),x - k<f→a≤k→k<x→Mv a x l d→
  (∀t,gt d t=if a≤t∧t<k then gt l (t+1) else if t=k then gt l a else gt l t)→
  ∃d' y,aB.l1 m (x:Int) f d (k:Int)=some (d',y)∧Mv a x l d'∧∀t,gt d' t=if a≤t∧t+1<x then gt l (t+1) else if t+1=x then gt l a else gt l t
 | 0,k,d,hf,_,_,_,_=>absurd hf (by omega)
 | f+1,k,d,hf,h1,h2,M,hg=>by
  have nT:(2:Nat) ^ 40=1099511627776:=by decide
  have hl:=M.length
  unfold aB.l1
  have e0:i64.wrap ((x:Int) - 1)=((x - 1:Nat):Int):=by rw [aD (by omega) (by omega)]; omega
  rw [e0]
  by_cases h:k<x - 1
  ·have e1:i64.wrap ((k:Int)+1)=((k+1:Nat):Int):=by rw [aD (by omega) (by omega)]; omega
   rw [if_pos (by simp; omega),e1,cj (by omega),cj (by omega),Xr,Xr,Xr,Xy,Xy,cj (by simp; omega),Xr]
   refine FV hx QA hs f (k+1) (swp d k (k+1)) (by omega) (by omega) (by omega) (M.trans (AH (by omega) (by omega) (by omega) (by omega) (by omega))) fun t=>?_
   rw [lg (by omega) (by omega),hg k,hg (k+1),hg t]
   by_cases t1:t=k+1
   ·subst t1; rw [if_pos rfl,if_neg (by omega),if_pos rfl,if_neg (by omega),if_pos rfl]
   ·rw [if_neg t1]
    by_cases t2:t=k
    ·subst t2; rw [if_pos rfl,if_neg (by omega),if_neg (by omega),if_pos (by omega)]
    ·rw [if_neg t2,if_neg t2,if_neg t1]
     by_cases t3:a≤t∧t<k
     ·rw [if_pos t3,if_pos (by omega)]
     ·rw [if_neg t3,if_neg (by omega)]
  ·refine⟨d,k,by rw [if_neg (by simp; omega)],M,fun t=>?_⟩
   rw [hg]
   by_cases t3:a≤t∧t<k
   ·rw [if_pos t3,if_pos (by omega)]
   ·rw [if_neg t3,if_neg (show ¬(a≤t∧t+1<x) by omega)]
    by_cases t4:t=k
    ·rw [if_pos t4,if_pos (by omega)]
    ·rw [if_neg t4,if_neg (by omega)]
theorem FW {l:List Int}{q x:Nat}(hx:q<l.length)(QA:x≤q)(hs:l.length<2 ^ 40):∀(f k:Nat) (d:List Int),k - x<f→x≤k→k≤q→Mv x (q+1) l d→
  (∀t,gt d t=if k<t∧t≤q then gt l (t - 1) else if t=k then gt l q else gt l t)→
  ∃d' y,aB.l3 m (x:Int) f d (k:Int)=some (d',y)∧Mv x (q+1) l d'∧∀t,gt d' t=if x<t∧t≤q then gt l (t - 1) else if t=x then gt l q else gt l t
 | 0,k,d,hf,_,_,_,_=>absurd hf (by omega)
 | f+1,k,d,hf,h1,h2,M,hg=>by
  have nT:(2:Nat) ^ 40=1099511627776:=by decide
  have hl:=M.length
  unfold aB.l3
  by_cases h:x<k
  ·have e1:i64.wrap ((k:Int) - 1)=((k - 1:Nat):Int):=by rw [aD (by omega) (by omega)]; omega
   rw [if_pos (by simp; omega),e1,cj (by omega),cj (by omega),Xr,Xr,Xr,Xy,Xy,cj (by simp; omega),Xr]
   refine FW hx QA hs f (k - 1) (swp d k (k - 1)) (by omega) (by omega) (by omega) (M.trans (AH (by omega) (by omega) (by omega) (by omega) (by omega))) fun t=>?_
   rw [lg (by omega) (by omega),hg k,hg (k - 1),hg t]
   by_cases t1:t=k - 1
   ·subst t1; rw [if_pos rfl,if_neg (by omega),if_pos rfl,if_neg (by omega),if_pos rfl]
   ·rw [if_neg t1]
    by_cases t2:t=k
    ·subst t2; rw [if_pos rfl,if_neg (by omega),if_neg (by omega),if_pos (by omega)]
    ·rw [if_neg t2,if_neg t2,if_neg t1]
     by_cases t3:k<t∧t≤q
     ·rw [if_pos t3,if_pos (by omega)]
     ·rw [if_neg t3,if_neg (by omega)]
  ·have:k=x:=by omega
   subst this
   exact⟨d,k,by rw [if_neg (by simp)],M,hg⟩
theorem AL {l:List Int}{a b q:Nat}(PT:a+b<2 ^ 42)(hs:l.length<2 ^ 40)(C:Cm cmp c l):∀(f s r:Nat),r - s<f→s≤r→r≤l.length→r≤(a+b) / 2+q→(a+b) / 2+q≤l.length+s→
  ∃x:Nat,aB.l4 m l (a:Int) (q:Int) (b:Int) cmp f (s:Int) (r:Int)=some ((x:Int),(x:Int))∧s≤x∧x≤r∧(s<x→0≤c (gt l ((a+b) / 2+q - x)) (gt l (x - 1)))∧(x<r→c (gt l ((a+b) / 2+q - x - 1)) (gt l x)<0)
 | 0,i,j,hf,_,_,_,_=>absurd hf (by omega)
 | f+1,s,r,hf,h1,h2,h3,h4=>by
  have nT:(2:Nat) ^ 40=1099511627776:=by decide
  have NK:(2:Nat) ^ 42=4398046511104:=by decide
  unfold aB.l4
  by_cases h:s<r
  ·have hh:=yO (a:=s) (b:=r) (by omega)
   have PT:=yO (a:=a) (b:=b) (by omega)
   have e1:i64.wrap (i64.wrap (i64.wrap ((((a+b) / 2:Nat):Int)+(q:Int)) - 1) - (((s+r) / 2:Nat):Int))=(((a+b) / 2+q - (s+r) / 2 - 1:Nat):Int):=by
    rw [aD (x:=(((a+b) / 2:Nat):Int)+(q:Int)) (by omega) (by omega),aD (x:=(((a+b) / 2:Nat):Int)+(q:Int) - 1) (by omega) (by omega),aD (by omega) (by omega)]
    omega
   rw [if_pos (by simp; omega),hh,PT,e1,cj (by omega),cj (by omega),Xr,Xr,C.at (by omega) (by omega),Xr]
   by_cases g:c (gt l ((a+b) / 2+q - (s+r) / 2 - 1)) (gt l ((s+r) / 2))<0
   ·obtain⟨x,e,x1,x2,x3,x4⟩:=AL (a:=a) (b:=b) (q:=q) (by omega) hs C f s ((s+r) / 2) (by omega) (by omega) (by omega) (by omega) (by omega)
    rw [if_neg (by simpa using g),e]
    refine⟨x,rfl,x1,by omega,x3,fun _=>?_⟩
    by_cases hx:x=(s+r) / 2
    ·rw [hx]; exact g
    ·exact x4 (by omega)
   ·obtain⟨x,e,x1,x2,x3,x4⟩:=AL (a:=a) (b:=b) (q:=q) (by omega) hs C f ((s+r) / 2+1) r (by omega) (by omega) h2 h3 (by omega)
    rw [if_pos (by simpa using g),aD (by omega) (by omega),show (((s+r) / 2:Nat):Int)+1=(((s+r) / 2+1:Nat):Int) by omega,e]
    refine⟨x,rfl,by omega,x2,fun _=>?_,x4⟩
    by_cases hx:x=(s+r) / 2+1
    ·rw [hx,show (a+b) / 2+q - ((s+r) / 2+1)=(a+b) / 2+q - (s+r) / 2 - 1 by omega,Nat.add_sub_cancel]; omega
    ·exact x3 (by omega)
  ·have:s=r:=by omega
   subst this
   exact⟨s,by rw [if_neg (by simp)],Xv _,Xv _,fun h=>absurd h (by omega),fun h=>absurd h (by omega)⟩
end
end Go.Proofs.YtmekcfdllhphlaaDoor
namespace Go.Proofs.YtmekcfdllhphlaaDoor
open Go Go.R
open Go.IntKind (i64 u64 u8 u32)
section
variable {m:Nat}{cmp:Int→Int→Option Int}{c:Int→Int→Int}
theorem tK {l d:List Int}{a q b M E x:Nat}(h1:a≤x)(h2:x≤M)(h3:x≤q)(h4:q≤E)(h5:E≤b)(h6:E+x=M+q)(hb:b≤l.length)
  (R:Mb l d x (q - x) (E - q)) (O:Ord c l) (F1:a<x→E<b→0≤c (gt l E) (gt l (x - 1))) (F2:x<q→q<E→c (gt l (E - 1)) (gt l x)<0)
  (S1:Sg c l a q) (S2:Sg c l q b) :
  Sg c d a x∧Sg c d x M∧Sg c d M E∧Sg c d E b∧(∀i j,a≤i→i<M→M≤j→j<b→0≤c (gt d j) (gt d i)):=by
 obtain⟨R1,R2,R3,R4⟩:=R
 have g1:∀k,k<x→gt d k=gt l k:=fun k hk=>R4 k (.inl hk)
 have g2:∀k,x≤k→k<M→gt d k=gt l (q+(k - x)):=fun k hk pP=>by
  have:=R2 (k - x) (by omega)
  rw [show x+(k - x)=k by omega,show x+(q - x)+(k - x)=q+(k - x) by omega] at this
  exact this
 have g3:∀k,M≤k→k<E→gt d k=gt l (x+(k - M)):=fun k hk pP=>by
  have:=R3 (k - M) (by omega)
  rw [show x+(E - q)+(k - M)=k by omega] at this
  exact this
 have g4:∀k,E≤k→gt d k=gt l k:=fun k hk=>R4 k (.inr (by omega))
 refine⟨fun i j k1 k2 k3=>?_,fun i j k1 k2 k3=>?_,fun i j k1 k2 k3=>?_,fun i j k1 k2 k3=>?_,fun i j k1 k2 k3 k4=>?_⟩
 ·rw [g1 i (by omega),g1 j (by omega)]; exact S1 _ _ k1 k2 (by omega)
 ·rw [g2 i (by omega) (by omega),g2 j (by omega) (by omega)]; exact S2 _ _ (by omega) (by omega) (by omega)
 ·rw [g3 i (by omega) (by omega),g3 j (by omega) (by omega)]; exact S1 _ _ (by omega) (by omega) (by omega)
 ·rw [g4 i (by omega),g4 j (by omega)]; exact S2 _ _ (by omega) (by omega) (by omega)
 ·by_cases hi:i<x
  ·rw [g1 i hi]
   by_cases hj:j<E
   ·rw [g3 j k3 hj]; exact S1 _ _ k1 (by omega) (by omega)
   ·rw [g4 j (by omega)]
    have f1:=F1 (by omega) (by omega)
    have f2:=S1.le O k1 (show i≤x - 1 by omega) (by omega) (by omega)
    have f3:=S2.le O (show q≤E from h4) (show E≤j by omega) k4 hb
    exact O.tr _ (aJ (by omega)) _ (aJ (show E<l.length by omega)) _ (aJ (by omega)) (O.tr _ (aJ (by omega)) _ (aJ (show x - 1<l.length by omega)) _ (aJ (by omega)) f2 f1) f3
  ·rw [g2 i (by omega) k2]
   by_cases hj:j<E
   ·rw [g3 j k3 hj]
    have f1:=O.Md _ (aJ (show E - 1<l.length by omega)) _ (aJ (show x<l.length by omega)) (F2 (by omega) (by omega))
    have f2:=S2.le O (show q≤q+(i - x) by omega) (show q+(i - x)≤E - 1 by omega) (by omega) hb
    have f3:=S1.le O h1 (show x≤x+(j - M) by omega) (by omega) (by omega)
    exact O.tr _ (aJ (by omega)) _ (aJ (show x<l.length by omega)) _ (aJ (by omega)) (O.tr _ (aJ (by omega)) _ (aJ (show E - 1<l.length by omega)) _ (aJ (by omega)) f2 f1) f3
   ·rw [g4 j (by omega)]; exact S2 _ _ (by omega) (by omega) k4
theorem FX {l:List Int}{x i j:Nat}(h:i=0∨j=0):Mb l l x i j:=
 ⟨List.Perm.refl _,fun k hk=>by rw [show i=0 by omega,Nat.add_zero],fun k hk=>by rw [show j=0 by omega,Nat.add_zero],fun _ _=>rfl⟩
theorem KZ {l d:List Int}{x i j a b:Nat}(R:Mb l d x i j)(h1:a≤x)(h2:x+i+j≤b):Mv a b l d:=by
 obtain⟨R1,R2,R3,R4⟩:=R
 refine⟨R1,fun k hk=>R4 k (by omega),fun k k1 k2=>?_⟩
 by_cases g1:k<x∨x+i+j≤k
 ·exact⟨k,k1,k2,R4 k g1⟩
 ·by_cases g2:k<x+j
  ·have:=R2 (k - x) (by omega)
   rw [show x+(k - x)=k by omega] at this
   exact⟨_,by omega,by omega,this⟩
  ·have:=R3 (k - x - j) (by omega)
   rw [show x+j+(k - x - j)=k by omega] at this
   exact⟨_,by omega,by omega,this⟩
theorem oX (hm:2 ^ 41≤m):∀(f:Nat) (l:List Int) (a q b:Nat),b - a<f→a<q→q<b→b≤l.length→l.length<2 ^ 40→Cm cmp c l→
  ∃d,aB.f m f l (a:Int) (q:Int) (b:Int) cmp=some d∧Mv a b l d∧(Ord c l→Sg c l a q→Sg c l q b→Sg c d a b)
 | 0,l,a,q,b,hf,_,_,_,_,_=>absurd hf (by omega)
 | f+1,l,a,q,b,hf,h1,h2,h3,hs,C=>by
  have nT:(2:Nat) ^ 40=1099511627776:=by decide
  have rE:(2:Nat) ^ 41=2199023255552:=by decide
  have NK:(2:Nat) ^ 42=4398046511104:=by decide
  unfold aB.f
  unfold aB.b
  have e1:i64.wrap ((q:Int) - (a:Int))=((q - a:Nat):Int):=by rw [aD (by omega) (by omega)]; omega
  have e2:i64.wrap ((b:Int) - (q:Int))=((b - q:Nat):Int):=by rw [aD (by omega) (by omega)]; omega
  have hM:=yO (a:=a) (b:=b) (by omega)
  rw [e1,e2,hM]
  by_cases W9:q - a=1
  ·obtain⟨x,k1,k2,k3,k4,k5⟩:=AJ (m:=m) (a:=a) (by omega) hs C m q b (by omega) (by omega) h3
   obtain⟨d,y,g1,g2,g3⟩:=FV (m:=m) (l:=l) (a:=a) (x:=x) (by omega) (by omega) hs m a l (by omega) (Xv _) (by omega) Mv.refl (fun t=>by rw [if_neg (by omega)]; split<;>simp_all)
   rw [if_pos (by simp; omega),k1,Xr]
   dsimp only
   rw [g1]
   refine⟨d,rfl,g2.wide (Xv _) k3,fun O S1 S2 i j r1 r2 r3=>?_⟩
   have A1:∀t,a≤t→t+1<x→gt d t=gt l (t+1):=fun t w1 w2=>by rw [g3 t,if_pos ⟨w1,w2⟩]
   have A2:∀t,t+1=x→gt d t=gt l a:=fun t w1=>by rw [g3 t,if_neg (by omega),if_pos w1]
   have A3:∀t,x≤t→gt d t=gt l t:=fun t w1=>by rw [g3 t,if_neg (by omega),if_neg (by omega)]
   by_cases i1:i+1<x
   ·rw [A1 i r1 i1]
    by_cases j1:j+1<x
    ·rw [A1 j (by omega) j1]; exact S2 _ _ (by omega) (by omega) (by omega)
    ·have f1:=O.Md _ (aJ (show x - 1<l.length by omega)) _ (aJ (show a<l.length by omega)) (k4 (by omega))
     have f2:=S2.le O (show q≤i+1 by omega) (show i+1≤x - 1 by omega) (by omega) h3
     by_cases j2:j+1=x
     ·rw [A2 j j2]
      exact O.tr _ (aJ (by omega)) _ (aJ (show x - 1<l.length by omega)) _ (aJ (by omega)) f2 f1
     ·rw [A3 j (by omega)]; exact S2 _ _ (by omega) (by omega) (by omega)
   ·rw [A3 j (by omega)]
    by_cases i2:i+1=x
    ·rw [A2 i i2]
     have f1:=k5 (by omega)
     have f2:=S2.le O (show q≤x by omega) (show x≤j by omega) r3 h3
     exact O.tr _ (aJ (by omega)) _ (aJ (show x<l.length by omega)) _ (aJ (by omega)) f1 f2
    ·rw [A3 i (by omega)]; exact S2 _ _ (by omega) r2 r3
  rw [if_neg (by simp; omega)]
  by_cases hb1:b - q=1
  ·obtain⟨x,k1,k2,k3,k4,k5⟩:=AK (m:=m) (q:=q) (by omega) hs C m a q (by omega) (by omega) (by omega)
   obtain⟨d,y,g1,g2,g3⟩:=FW (m:=m) (l:=l) (q:=q) (x:=x) (by omega) (by omega) hs m q l (by omega) (by omega) (Xv _) Mv.refl (fun t=>by rw [if_neg (by omega)]; split<;>simp_all)
   rw [if_pos (by simp; omega),k1,Xr]
   dsimp only
   rw [g1]
   refine⟨d,rfl,g2.wide k2 (by omega),fun O S1 S2 i j r1 r2 r3=>?_⟩
   have A1:∀t,x<t→t≤q→gt d t=gt l (t - 1):=fun t w1 w2=>by rw [g3 t,if_pos ⟨w1,w2⟩]
   have A2:gt d x=gt l q:=by rw [g3 x,if_neg (by omega),if_pos rfl]
   have A3:∀t,t<x→gt d t=gt l t:=fun t w1=>by rw [g3 t,if_neg (by omega),if_neg (by omega)]
   by_cases i1:x<i
   ·rw [A1 i i1 (by omega),A1 j (by omega) (by omega)]
    exact S1 _ _ (by omega) (by omega) (by omega)
   ·by_cases i2:i=x
    ·subst i2
     rw [A2,A1 j (by omega) (by omega)]
     have f1:=O.Md _ (aJ (show q<l.length by omega)) _ (aJ (show i<l.length by omega)) (k5 (by omega))
     have f2:=S1.le O r1 (show i≤j - 1 by omega) (by omega) (by omega)
     exact O.tr _ (aJ (by omega)) _ (aJ (show i<l.length by omega)) _ (aJ (by omega)) f1 f2
    ·rw [A3 i (by omega)]
     by_cases j1:x<j
     ·rw [A1 j j1 (by omega)]
      exact S1.le O r1 (by omega) (by omega) (by omega)
     ·have f1:=k4 (by omega)
      have f2:=S1.le O r1 (show i≤x - 1 by omega) (by omega) (by omega)
      by_cases j2:j=x
      ·subst j2
       rw [A2]
       exact O.tr _ (aJ (by omega)) _ (aJ (show j - 1<l.length by omega)) _ (aJ (by omega)) f2 f1
      ·rw [A3 j (by omega)]; exact S1 _ _ r1 r2 (by omega)
  rw [if_neg (by simp; omega)]
  refine KY ?_
  intro z hz
  have La:∃s r:Nat,z=((s:Int),(r:Int))∧((q > (a+b) / 2∧s=(a+b) / 2+q - b∧r=(a+b) / 2)∨(q≤(a+b) / 2∧s=a∧r=q)):=by
   rcases hz with⟨hc,rfl⟩| ⟨hc,rfl⟩
   ·refine⟨(a+b) / 2+q - b,(a+b) / 2,?_,.inl ⟨by simp only [decide_eq_true_eq] at hc; omega,rfl,rfl⟩⟩
    simp only [Xz,and_true]
    simp only [decide_eq_true_eq] at hc
    rw [aD (x:=(((a+b) / 2:Nat):Int)+(q:Int)) (by omega) (by omega),aD (by omega) (by omega)]
    omega
   ·refine⟨a,q,rfl,.inr ⟨?_,rfl,rfl⟩⟩
    simp only [decide_eq_false_iff_not] at hc
    omega
  obtain⟨s,r,rfl,La⟩:=La
  clear hz
  dsimp only
  obtain⟨x,k1,k2,k3,k4,k5⟩:=AL (m:=m) (a:=a) (b:=b) (q:=q) (by omega) hs C m s r (by omega) (by omega) (by omega) (by omega) (by omega)
  rw [k1,Xr]
  dsimp only
  generalize Xa:(a+b) / 2=M at *
  obtain⟨E,hE⟩:∃E,E=M+q - x:=⟨_,rfl⟩
  have eE:i64.wrap (i64.wrap ((M:Int)+(q:Int)) - (x:Int))=(E:Int):=by
   rw [aD (x:=(M:Int)+(q:Int)) (by omega) (by omega),aD (by omega) (by omega)]
   omega
  rw [eE]
  rw [←hE] at k4 k5
  have c1:a≤x:=by omega
  have c2:x≤M:=by omega
  have c3:x≤q:=by omega
  have c4:q≤E:=by omega
  have c5:E≤b:=by omega
  have c6:E+x=M+q:=by omega
  have c7:M≤E:=by omega
  have F1:a<x→E<b→0≤c (gt l E) (gt l (x - 1)):=fun _ _=>k4 (by omega)
  have F2:x<q→q<E→c (gt l (E - 1)) (gt l x)<0:=fun _ _=>k5 (by omega)
  refine FU (fun d=>Mb l d x (q - x) (E - q)) (fun u1 u2=>?_) (fun u=>?_) ?_
  ·simp only [decide_eq_true_eq] at u1 u2
   exact FF hm (by omega) (by omega) (by omega) hs
  ·simp only [decide_eq_true_eq] at u
   exact FX (by omega)
  intro d5 R
  try dsimp only
  have M5:Mv a b l d5:=KZ R c1 (by omega)
  have l5:=M5.length
  refine FU (fun d=>Mv a M d5 d∧(Ord c l→Sg c l a q→Sg c l q b→Sg c d a M)) (fun u1 u2=>?_) (fun u=>?_) ?_
  ·simp only [decide_eq_true_eq] at u1 u2
   obtain⟨d,g1,g2,g3⟩:=oX hm f d5 a x M (by omega) (by omega) (by omega) (by omega) (by omega) (C.perm M5.perm)
   refine⟨d,g1,g2,fun O S1 S2=>?_⟩
   obtain⟨v1,v2,v3,v4,v5⟩:=tK c1 c2 c3 c4 c5 c6 h3 R O F1 F2 S1 S2
   exact g3 (O.perm M5.perm) v1 v2
  ·simp only [decide_eq_true_eq] at u
   refine⟨Mv.refl,fun O S1 S2=>?_⟩
   obtain⟨v1,v2,v3,v4,v5⟩:=tK c1 c2 c3 c4 c5 c6 h3 R O F1 F2 S1 S2
   by_cases ua:a=x
   ·rw [ua]; exact v2
   ·rw [show M=x by omega]; exact v1
  rintro d6 ⟨M6,S6⟩
  try dsimp only
  have l6:=M6.length
  have QB:=M5.trans (M6.wide (Xv _) (by omega))
  have fin:∀d,Mv M b d6 d→(Ord c l→Sg c l a q→Sg c l q b→Sg c d M b)→Mv a b l d∧(Ord c l→Sg c l a q→Sg c l q b→Sg c d a b):=by
   intro d M7 S7
   refine⟨QB.trans (M7.wide (by omega) (Xv _)),fun O S1 S2 i j r1 r2 r3=>?_⟩
   obtain⟨v1,v2,v3,v4,v5⟩:=tK c1 c2 c3 c4 c5 c6 h3 R O F1 F2 S1 S2
   by_cases hj:j<M
   ·rw [M7.out i (by omega),M7.out j (by omega)]
    exact S6 O S1 S2 _ _ r1 r2 hj
   ·by_cases hi:M≤i
    ·exact S7 O S1 S2 _ _ hi r2 r3
    ·obtain⟨j',y1,y2,y3⟩:=M7.im j (by omega) r3
     obtain⟨i',w1,w2,w3⟩:=M6.im i r1 (by omega)
     rw [M7.out i (by omega),y3,M6.out j' (by omega),w3]
     exact v5 _ _ w1 w2 y1 y2
  refine Qz (fun u1 u2=>?_) (fun u=>?_)
  ·simp only [decide_eq_true_eq] at u1 u2
   obtain⟨d,g1,g2,g3⟩:=oX hm f d6 M E b (by omega) (by omega) (by omega) (by omega) (by omega) (C.perm QB.perm)
   refine⟨d,g1,fin d g2 fun O S1 S2=>?_⟩
   obtain⟨v1,v2,v3,v4,v5⟩:=tK c1 c2 c3 c4 c5 c6 h3 R O F1 F2 S1 S2
   refine g3 (O.perm QB.perm) (fun i j y1 y2 y3=>?_) (fun i j y1 y2 y3=>?_)
   ·rw [M6.out i (by omega),M6.out j (by omega)]; exact v3 _ _ y1 y2 y3
   ·rw [M6.out i (by omega),M6.out j (by omega)]; exact v4 _ _ y1 y2 y3
  ·simp only [decide_eq_true_eq] at u
   refine fin d6 Mv.refl fun O S1 S2 i j y1 y2 y3=>?_
   obtain⟨v1,v2,v3,v4,v5⟩:=tK c1 c2 c3 c4 c5 c6 h3 R O F1 F2 S1 S2
   rw [M6.out i (by omega),M6.out j (by omega)]
   by_cases ue:M=E
   ·exact v4 _ _ (by omega) y2 y3
   ·exact v3 _ _ y1 y2 (by omega)
end
end Go.Proofs.YtmekcfdllhphlaaDoor
namespace Go.Proofs.YtmekcfdllhphlaaDoor
open Go Go.R
open Go.IntKind (i64 u64 u8 u32)
def nK:cg:=gK [0,1,2,6,7,8,9,13,30,35,54] [] [2032,1984,1856,2000,1984,1984,2032,1776,1984,1472,2000,1984,1984,1952,928,2032,2032] [] []
def bM.l0 (m:Nat)(n0:Int)(aM:Int→Int→Option (Int)):Nat→(List Int)→Int→Int→Option ((List Int) × Int × Int)
 | 0,_,_,_=>none
 | k+1,bm,a0,b0=>if (decide (b0≤n0))=true then ((aN.f m bm a0 b0 aM).bind fun x0=>bM.l0 m n0 aM k x0 b0 (i64.wrap (b0+(20:Int)))) else (some ((bm,a0,b0)))
def bM.l2 (m:Nat)(n0:Int)(aM:Int→Int→Option (Int))(a7:Int):Nat→(List Int)→Int→Int→Option ((List Int) × Int × Int)
 | 0,_,_,_=>none
 | k+1,jq,a2,b2=>if (decide (b2≤n0))=true then ((aB.f m m jq a2 (i64.wrap (a2+a7)) b2 aM).bind fun x2=>bM.l2 m n0 aM a7 k x2 b2 (i64.wrap (b2+i64.wrap ((2:Int)*a7)))) else (some ((jq,a2,b2)))
def bM.l1 (m:Nat)(n0:Int)(aM:Int→Int→Option (Int)):Nat→(List Int)→Int→Option ((List Int) × Int)
 | 0,_,_=>none
 | k+1,dj,a7=>if (decide (a7<n0))=true then ((bM.l2 m n0 aM a7 m dj (0:Int) (i64.wrap ((2:Int)*a7))).bind fun bJ=>match bJ with | (kI,a3,b3)=>if (decide ((i64.wrap (a3+a7))<n0))=true then ((aB.f m m kI a3 (i64.wrap (a3+a7)) n0 aM).bind fun x3=>bM.l1 m n0 aM k x3 (i64.wrap (a7*(2:Int)))) else (bM.l1 m n0 aM k kI (i64.wrap (a7*(2:Int))))) else (some ((dj,a7)))
def bM.f (m:Nat)(ao:List Int)(n0:Int)(aM:Int→Int→Option (Int)):Option ((List Int)):=(bM.l0 m n0 aM m ao (0:Int) (20:Int)).bind fun bj=>match bj with | (cR,a1,b1)=>(aN.f m cR a1 n0 aM).bind fun x1=>(bM.l1 m n0 aM m x1 (20:Int)).bind fun gO=>match gO with | (oU,AM)=>some oU
def bM.fin (L:Mem)(aA:Nat)(ao:List Int)(n0:Int)(aM:Int→Int→Option (Int))(r:(List Int))(s:St):Prop:=aH Tryd.prog (s.open nK) Tryd.f110.results.toList=some (.tup [])∧Has s.h ((aA,.sl ao.length 1 (aa.l r))::L)
def NL (cf:CallF)(m:Nat):Prop:=∀(ao:List Int) (n0:Int) (aM:Int→Int→Option (Int)) (r:(List Int)),bM.f m ao n0 aM=some r→∀h L (cu:Nat) (aA:Nat),Has h ((aA,.sl cu 1 (aa.l ao))::L)→∀(kJ:FuncId) (dc:List AV),az (.fn kJ dc) = .fn kJ dc→(∀h K,Has h (K++L)→∀(a0:Int) (a1:Int) r,aM a0 a1=some r→cf kJ ([.int .i64 a0,.int .i64 a1]++dc) h=some (.int .i64 r,h))→∀xs,xs.map az=[.rs aA 0 cu 1,.int .i64 n0,.fn kJ dc]→∃h',cf 110 xs h=some (.tup [],h')∧Has h' ((aA,.sl cu 1 (aa.l r))::L)
section
variable {cf:CallF}{m:Nat}
theorem bM.bI (L:Mem)(aA:Nat)(kJ:FuncId)(dc:List AV)(ao:List Int)(n0:Int)(aM:Int→Int→Option (Int))  (mN:az (.fn kJ dc) = .fn kJ dc)(rO:∀h K,Has h (K++L)→∀(a0:Int) (a1:Int) r,aM a0 a1=some r→cf kJ ([.int .i64 a0,.int .i64 a1]++dc) h=some (.int .i64 r,h))(B9:KS cf m):bD Tryd.prog cf nK m (sub [1,1,0,0,0] (codeOf Tryd.f110)) (fun k (σ:(List Int) × Int × Int)=>bM.l0 m n0 aM k σ.1 σ.2.1 σ.2.2) (fun σ s=>match σ with | (bm,a0,b0)=>∃h0,s=⟨.rs aA 0 ao.length 1 :: .int .i64 n0 :: .fn kJ dc :: .int .i64 (20:Int) :: .int .i64 a0 :: .int .i64 b0::rB [],[],h0⟩∧Has h0 ((aA,.sl ao.length 1 (aa.l bm))::L)) (fun out e s=>(e = .exit 0∧∃bm a0 b0,(bm,a0,b0)=out∧∃qh qe h0,s=⟨.rs aA 0 ao.length 1 :: .int .i64 n0 :: .fn kJ dc :: .int .i64 (20:Int) :: .int .i64 a0::qh :: .any::qe::jP [],[],h0⟩∧Has h0 ((aA,.sl ao.length 1 (aa.l bm))::L))):=by
 refine gG (fun _=>rfl) ?_
 rintro k ⟨bm,a0,b0⟩ s out ⟨h0,rfl,o0⟩ H
 have H:bM.l0 m n0 aM (k+1) bm a0 b0=some out:=H
 refine qq <| qq <| q0 <| qc H (fun c0 H=>?_) (fun c0 H=>?_)
 ·refine qk <| qb 1 <| qq ?_
  obtain⟨x0,e0,H⟩:=aI H
  obtain⟨h1,e1,o1⟩:=B9 _ _ _ _ _ e0 h0 _ _ _ (o0) kJ dc mN (fun h' K' o'=>rO h' (K'++[]) (by simpa only [XF,XU,X2] using o')) [.rs aA 0 ao.length 1,.int .i64 a0,.int .i64 b0,.fn kJ dc] (an (rfl) (an (aP (bE)) (an (aP (bE)) (an (mN) (bo)))))
  exact qr [.a 4 e1] <| qq <| q0 <| q0 <| ⟨(x0,b0,i64.wrap (b0+(20:Int))),⟨h1,by kernel_rfl,o1⟩,H⟩
 ·exact qx 0 <| ⟨rfl,bm,a0,b0,oi H,.int .i64 b0,.bool (decide (b0≤n0)),h0,by kernel_rfl,o0⟩
theorem bM.mc (L:Mem)(aA:Nat)(kJ:FuncId)(dc:List AV)(ao:List Int)(n0:Int)(aM:Int→Int→Option (Int))(a7:Int)  (mN:az (.fn kJ dc) = .fn kJ dc)(rO:∀h K,Has h (K++L)→∀(a0:Int) (a1:Int) r,aM a0 a1=some r→cf kJ ([.int .i64 a0,.int .i64 a1]++dc) h=some (.int .i64 r,h))(iD:uR cf m m):bD Tryd.prog cf nK m (sub [1,1,1,1,0,0,1,0,1,0,0,0] (codeOf Tryd.f110)) (fun k (σ:(List Int) × Int × Int)=>bM.l2 m n0 aM a7 k σ.1 σ.2.1 σ.2.2) (fun σ s=>match σ with | (jq,a2,b2)=>∃h5,s=⟨.rs aA 0 ao.length 1 :: .int .i64 n0 :: .fn kJ dc :: .int .i64 a7 :: .int .i64 a2 :: .int .i64 b2::rB [],[],h5⟩∧Has h5 ((aA,.sl ao.length 1 (aa.l jq))::L)) (fun out e s=>(e = .exit 4∧∃jq a2 b2,(jq,a2,b2)=out∧∃qh QC h5,s=⟨.rs aA 0 ao.length 1 :: .int .i64 n0 :: .fn kJ dc :: .int .i64 a7 :: .int .i64 a2::qh::jP [QC,.any],[],h5⟩∧Has h5 ((aA,.sl ao.length 1 (aa.l jq))::L))):=by
 refine gG (fun _=>rfl) ?_
 rintro k ⟨jq,a2,b2⟩ s out ⟨h5,rfl,o5⟩ H
 have H:bM.l2 m n0 aM a7 (k+1) jq a2 b2=some out:=H
 refine qq <| qq <| q0 <| qc H (fun c2 H=>?_) (fun c2 H=>?_)
 ·refine qk <| qb 5 <| qq ?_
  obtain⟨x2,e5,H⟩:=aI H
  obtain⟨h6,e6,o6⟩:=iD _ _ _ _ _ _ e5 h5 _ _ _ (o5) kJ dc mN (fun h' K' o'=>rO h' (K'++[]) (by simpa only [XF,XU,X2] using o')) [.rs aA 0 ao.length 1,.int .i64 a2,.int .i64 (i64.wrap (a2+a7)),.int .i64 b2,.fn kJ dc] (an (rfl) (an (aP (bE)) (an (aP (bE)) (an (aP (bE)) (an (mN) (bo))))))
  exact qr [.a 7 e6] <| qq <| q0 <| q0 <| ⟨(x2,b2,i64.wrap (b2+i64.wrap ((2:Int)*a7))),⟨h6,by kernel_rfl,o6⟩,H⟩
 ·exact qx 4 <| ⟨rfl,jq,a2,b2,oi H,.int .i64 b2,.bool (decide (b2≤n0)),h5,by kernel_rfl,o5⟩
theorem bM.eQ (L:Mem)(aA:Nat)(kJ:FuncId)(dc:List AV)(ao:List Int)(n0:Int)(aM:Int→Int→Option (Int))  (mN:az (.fn kJ dc) = .fn kJ dc)(rO:∀h K,Has h (K++L)→∀(a0:Int) (a1:Int) r,aM a0 a1=some r→cf kJ ([.int .i64 a0,.int .i64 a1]++dc) h=some (.int .i64 r,h))(iD:uR cf m m):bD Tryd.prog cf nK m (sub [1,1,1,1,0,0] (codeOf Tryd.f110)) (fun k (σ:(List Int) × Int)=>bM.l1 m n0 aM k σ.1 σ.2) (fun σ s=>match σ with | (dj,a7)=>∃h4,s=⟨.rs aA 0 ao.length 1 :: .int .i64 n0 :: .fn kJ dc :: .int .i64 a7::Ee [],[],h4⟩∧Has h4 ((aA,.sl ao.length 1 (aa.l dj))::L)) (fun out e s=>(e = .exit 2∧∃dj a7,(dj,a7)=out∧∃kG uM FB DR KQ h4,s=⟨kG::uM::FB::DR::q9 [KQ,.any,.any],[],h4⟩∧Has h4 ((aA,.sl ao.length 1 (aa.l dj))::L))):=by
 refine gG (fun _=>rfl) ?_
 rintro k ⟨dj,a7⟩ s out ⟨h4,rfl,o4⟩ H
 have H:bM.l1 m n0 aM (k+1) dj a7=some out:=H
 refine qq <| qq <| q0 <| qc H (fun c1 H=>?_) (fun c1 H=>?_)
 ·refine qk <| qb 3 <| qq <| q0 <| qq <| qb 4 ?_
  obtain⟨bJ,e7,H⟩:=aI H
  refine ql (bM.mc L aA kJ dc ao n0 aM a7  mN rO iD (dj,(0:Int),i64.wrap ((2:Int)*a7)) _ _ ⟨h4,by kernel_rfl,o4⟩ e7) ?_
  rintro e s ⟨rfl,kI,a3,b3,rfl,g2,g3,h7,rfl,o7⟩
  try dsimp only at H
  refine qq <| qq <| q0 <| qq <| q0 <| qc H (fun c3 H=>?_) (fun c3 H=>?_)
  ·obtain⟨x3,e8,H⟩:=aI H
   obtain⟨h8,e9,o8⟩:=iD _ _ _ _ _ _ e8 h7 _ _ _ (o7) kJ dc mN (fun h' K' o'=>rO h' (K'++[]) (by simpa only [XF,XU,X2] using o')) [.rs aA 0 ao.length 1,.int .i64 a3,.int .i64 (i64.wrap (a3+a7)),.int .i64 n0,.fn kJ dc] (an (rfl) (an (aP (bE)) (an (aP (bE)) (an (aP (bE)) (an (mN) (bo))))))
   exact qr [.a 5 e9] <| q0 <| ⟨(x3,i64.wrap (a7*(2:Int))),⟨h8,by kernel_rfl,o8⟩,H⟩
  ·exact qk <| q0 <| ⟨(kI,i64.wrap (a7*(2:Int))),⟨h7,by kernel_rfl,o7⟩,H⟩
 ·exact qx 2 <| ⟨rfl,dj,a7,oi H,.rs aA 0 ao.length 1,.int .i64 n0,.fn kJ dc,.int .i64 a7,.bool (decide (a7<n0)),h4,by kernel_rfl,o4⟩
theorem xk {aU:FuncId→cg}(ha:aU 110=nK)(B9:KS cf m)(iD:uR cf m m)(ao:List Int)(n0:Int)(aM:Int→Int→Option (Int))(h:AHeap)(L:Mem)(aA:Nat)(kJ:FuncId)(dc:List AV)  (mN:az (.fn kJ dc) = .fn kJ dc)(rO:∀h K,Has h (K++L)→∀(a0:Int) (a1:Int) r,aM a0 a1=some r→cf kJ ([.int .i64 a0,.int .i64 a1]++dc) h=some (.int .i64 r,h))(o:Has h ((aA,.sl ao.length 1 (aa.l ao))::L)){out:(List Int)}(H:bM.f m ao n0 aM=some out) :
  ∃r h',bc Tryd.prog aU cf m 110 [.rs aA 0 ao.length 1,.int .i64 n0,.fn kJ dc] h=some (r,h')∧r = .tup []∧Has h' ((aA,.sl ao.length 1 (aa.l out))::L):=by
 refine aq (fn:=Tryd.f110) ha Tryd.func110 (by kernel_rfl) (by kernel_rfl) ?_
 refine aG (Q:=fun s=>bM.fin L aA ao n0 aM out s) (fun _ _ ⟨h1,h2,h3⟩=>⟨h1,_,h2,rfl,h3⟩) ?_
 have H:_=some out:=H
 unfold bM.f at H
 show de _ cf nK m _ ⟨.rs aA 0 ao.length 1 :: .int .i64 n0 :: .fn kJ dc::pY [],[],h⟩ _
 refine q1 <| qq <| q0 <| qq <| qb 0 ?_
 obtain⟨bj,e2,H⟩:=aI H
 refine ql (bM.bI L aA kJ dc ao n0 aM  mN rO B9 (ao,(0:Int),(20:Int)) _ _ ⟨h,by kernel_rfl,o⟩ e2) ?_
 rintro e s ⟨rfl,cR,a1,b1,rfl,g0,g1,h2,rfl,o2⟩
 try dsimp only at H
 refine qq ?_
 obtain⟨x1,e3,H⟩:=aI H
 obtain⟨h3,e4,o3⟩:=B9 _ _ _ _ _ e3 h2 _ _ _ (o2) kJ dc mN (fun h' K' o'=>rO h' (K'++[]) (by simpa only [XF,XU,X2] using o')) [.rs aA 0 ao.length 1,.int .i64 a1,.int .i64 n0,.fn kJ dc] (an (rfl) (an (aP (bE)) (an (aP (bE)) (an (mN) (bo)))))
 refine qr [.a 4 e4] <| qb 2 ?_
 obtain⟨gO,nJ,H⟩:=aI H
 refine ql (bM.eQ L aA kJ dc ao n0 aM  mN rO iD (x1,(20:Int)) _ _ ⟨h3,by kernel_rfl,o3⟩ nJ) ?_
 rintro e s ⟨rfl,oU,AM,rfl,g4,g5,g6,g7,g8,h9,rfl,o9⟩
 try dsimp only at H
 obtain rfl:=oi H
 exact⟨.inr rfl,⟨by kernel_rfl,he o9⟩⟩
end
end Go.Proofs.YtmekcfdllhphlaaDoor
namespace Go.Proofs.YtmekcfdllhphlaaDoor
open Go Go.R
open Go.IntKind (i64 u64 u8 u32)
def Ca:cg:=gK [0,1] [] [3] [] []
def eR.f (m:Nat)(x0:List Int)(aM:Int→Int→Option (Int)):Option ((List Int)):=(bM.f m x0 (x0.length:Int) aM).bind fun x1=>some x1
def eR.fin (L:Mem)(aA:Nat)(x0:List Int)(aM:Int→Int→Option (Int))(r:(List Int))(s:St):Prop:=aH Tryd.prog (s.open Ca) Tryd.f84.results.toList=some (.tup [])∧Has s.h ((aA,.sl x0.length 1 (aa.l r))::L)
def Ts (cf:CallF)(m:Nat):Prop:=∀(x0:List Int) (aM:Int→Int→Option (Int)) (r:(List Int)),eR.f m x0 aM=some r→∀h L (FY:Nat) (aA:Nat),Has h ((aA,.sl FY 1 (aa.l x0))::L)→∀(dr:FuncId) (aL:List AV),az (.fn dr aL) = .fn dr aL→(∀h K,Has h (K++L)→∀(a0:Int) (a1:Int) r,aM a0 a1=some r→cf dr ([.int .i64 a0,.int .i64 a1]++aL) h=some (.int .i64 r,h))→∀xs,xs.map az=[.rs aA 0 FY 1,.fn dr aL]→∃h',cf 84 xs h=some (.tup [],h')∧Has h' ((aA,.sl FY 1 (aa.l r))::L)
section
variable {cf:CallF}{m:Nat}
theorem oY {aU:FuncId→cg}(ha:aU 84=Ca)(NM:NL cf m)(x0:List Int)(aM:Int→Int→Option (Int))(h:AHeap)(L:Mem)(aA:Nat)(dr:FuncId)(aL:List AV)  (gI:az (.fn dr aL) = .fn dr aL)(gN:∀h K,Has h (K++L)→∀(a0:Int) (a1:Int) r,aM a0 a1=some r→cf dr ([.int .i64 a0,.int .i64 a1]++aL) h=some (.int .i64 r,h))(o:Has h ((aA,.sl x0.length 1 (aa.l x0))::L)){out:(List Int)}(H:eR.f m x0 aM=some out) :
  ∃r h',bc Tryd.prog aU cf m 84 [.rs aA 0 x0.length 1,.fn dr aL] h=some (r,h')∧r = .tup []∧Has h' ((aA,.sl x0.length 1 (aa.l out))::L):=by
 refine aq (fn:=Tryd.f84) ha Tryd.func84 (by kernel_rfl) (by kernel_rfl) ?_
 refine aG (Q:=fun s=>eR.fin L aA x0 aM out s) (fun _ _ ⟨h1,h2,h3⟩=>⟨h1,_,h2,rfl,h3⟩) ?_
 have H:_=some out:=H
 unfold eR.f at H
 show de _ cf Ca m _ ⟨[.rs aA 0 x0.length 1,.fn dr aL],[],h⟩ _
 obtain⟨x1,e0,H⟩:=aI H
 obtain⟨h0,e1,o0⟩:=NM _ _ _ _ e0 h _ _ _ (o) dr aL gI (fun h' K' o'=>gN h' (K'++[]) (by simpa only [XF,XU,X2] using o')) [.rs aA 0 x0.length 1,.int .i64 (x0.length:Int),.fn dr aL] (an (rfl) (an (aP (bE)) (an (gI) (bo))))
 obtain rfl:=oi H
 exact qr [.a 4 e1] <| ⟨.inr rfl,⟨by kernel_rfl,he o0⟩⟩
end
end Go.Proofs.YtmekcfdllhphlaaDoor
namespace Go.Proofs.YtmekcfdllhphlaaDoor
open Go Go.R
open Go.IntKind (i64 u64 u8 u32)
section
variable {m:Nat}{cmp:Int→Int→Option Int}{c:Int→Int→Int}
def NN (c:Int→Int→Int)(d:List Int)(bs n:Nat):Prop:=∀k i j,k*bs≤i→i<j→j<k*bs+bs→j<n→0≤c (gt d j) (gt d i)
theorem FZ (hm:2 ^ 41≤m){n:Nat}{l:List Int}(hn:n=l.length)(hs:l.length<2 ^ 40)(C:Cm cmp c l):∀(f t:Nat) (d:List Int),n - 20*t<f→20*t≤n→Mv 0 (20*t) l d→
  (Ord c l→∀k,k<t→Sg c d (20*k) (20*k+20))→
  ∃d' t' y,bM.l0 m (n:Int) cmp f d ((20*t:Nat):Int) ((20*t+20:Nat):Int)=some (d',((20*t':Nat):Int),y)∧20*t'≤n∧n<20*t'+20∧Mv 0 (20*t') l d'∧(Ord c l→∀k,k<t'→Sg c d' (20*k) (20*k+20))
 | 0,t,d,hf,_,_,_=>absurd hf (by omega)
 | f+1,t,d,hf,h1,M,S=>by
  have nT:(2:Nat) ^ 40=1099511627776:=by decide
  have rE:(2:Nat) ^ 41=2199023255552:=by decide
  have hl:=M.length
  unfold bM.l0
  by_cases h:20*t+20≤n
  ·obtain⟨d1,e1,M1,S1⟩:=yW (a:=20*t) (b:=20*t+20) (cmp:=cmp) (c:=c) hm (l:=d) (by omega) (by omega) (by omega) (C.perm M.perm)
   rw [if_pos (by simp only [decide_eq_true_eq]; omega),e1,Xr,aD (x:=((20*t+20:Nat):Int)+20) (by omega) (by omega)]
   have:=FZ hm hn hs C f (t+1) d1 (by omega) (by omega) ((M.wide (Xv _) (by omega)).trans (M1.wide (by omega) (by omega))) (fun O k hk i j k1 k2 k3=>by
    by_cases HQ:k=t
    ·subst HQ; exact S1 (O.perm M.perm) _ _ k1 k2 k3
    ·rw [M1.out i (by omega),M1.out j (by omega)]; exact S O k (by omega) _ _ k1 k2 k3)
   rw [show ((20*(t+1):Nat):Int)=((20*t+20:Nat):Int) by omega,show ((20*(t+1)+20:Nat):Int)=((20*t+20:Nat):Int)+20 by omega] at this
   exact this
  ·exact⟨d,t,_,by rw [if_neg (by simp only [decide_eq_true_eq]; omega)],h1,by omega,M,S⟩
theorem F0 (hm:2 ^ 41≤m){n bs:Nat}{l:List Int}(hn:n=l.length)(hs:l.length<2 ^ 40)(hb:0<bs)(Qf:bs<n)(C:Cm cmp c l)(B:Ord c l→NN c l bs n):∀(f t:Nat) (d:List Int),n - t*(2*bs)<f→t*(2*bs)≤n→Mv 0 (t*(2*bs)) l d→
  (Ord c l→∀k,k<t→Sg c d (k*(2*bs)) (k*(2*bs)+2*bs))→
  ∃d' t' y,bM.l2 m (n:Int) cmp (bs:Int) f d ((t*(2*bs):Nat):Int) ((t*(2*bs)+2*bs:Nat):Int)=some (d',((t'*(2*bs):Nat):Int),y)∧t'*(2*bs)≤n∧n<t'*(2*bs)+2*bs∧Mv 0 (t'*(2*bs)) l d'∧(Ord c l→∀k,k<t'→Sg c d' (k*(2*bs)) (k*(2*bs)+2*bs))
 | 0,t,d,hf,_,_,_=>absurd hf (by omega)
 | f+1,t,d,hf,h1,M,S=>by
  have nT:(2:Nat) ^ 40=1099511627776:=by decide
  have rE:(2:Nat) ^ 41=2199023255552:=by decide
  have hl:=M.length
  unfold bM.l2
  have ht:(t+1)*(2*bs)=t*(2*bs)+2*bs:=Nat.succ_mul _ _
  have q1:(2*t)*bs=t*(2*bs):=by rw [Nat.mul_assoc,Nat.mul_left_comm]
  have q2:(2*t+1)*bs=t*(2*bs)+bs:=by rw [Nat.succ_mul,q1]
  by_cases h:t*(2*bs)+2*bs≤n
  ·have S0:Ord c l→Sg c d (t*(2*bs)) (t*(2*bs)+bs):=fun O i j k1 k2 k3=>by
    rw [M.out i (by omega),M.out j (by omega)]; exact B O (2*t) i j (by omega) k2 (by omega) (by omega)
   have Vz:Ord c l→Sg c d (t*(2*bs)+bs) (t*(2*bs)+2*bs):=fun O i j k1 k2 k3=>by
    rw [M.out i (by omega),M.out j (by omega)]; exact B O (2*t+1) i j (by omega) k2 (by omega) (by omega)
   have hk:∀k,k<t→k*(2*bs)+2*bs≤t*(2*bs):=fun k hk=>by
    rw [←Nat.succ_mul]; exact Yj _ hk
   generalize hA:t*(2*bs)=A at *
   obtain⟨d1,e1,M1,S1⟩:=oX (cmp:=cmp) (c:=c) hm m d A (A+bs) (A+2*bs) (by omega) (by omega) (by omega) (by omega) (by omega) (C.perm M.perm)
   have e0:i64.wrap ((A:Int)+(bs:Int))=((A+bs:Nat):Int):=by rw [aD (by omega) (by omega)]; omega
   have e2:i64.wrap ((2:Int)*(bs:Int))=((2*bs:Nat):Int):=by rw [aD (by omega) (by omega)]; omega
   have e3:i64.wrap (((A+2*bs:Nat):Int)+((2*bs:Nat):Int))=((A+2*bs+2*bs:Nat):Int):=by rw [aD (by omega) (by omega)]; omega
   rw [if_pos (by simp only [decide_eq_true_eq]; omega),e0,e1,Xr,e2,e3]
   have:=F0 hm hn hs hb Qf C B f (t+1) d1 (by omega) (by omega) (by rw [ht]; exact (M.wide (Xv _) (by omega)).trans (M1.wide (by omega) (by omega))) (fun O k pP i j k1 k2 k3=>by
    by_cases HQ:k=t
    ·subst HQ; rw [hA] at k1 k3; exact S1 (O.perm M.perm) (S0 O) (Vz O) _ _ k1 k2 k3
    ·have:=hk k (by omega)
     rw [M1.out i (by omega),M1.out j (by omega)]; exact S O k (by omega) _ _ k1 k2 k3)
   rw [ht] at this
   exact this
  ·exact⟨d,t,_,by rw [if_neg (by simp only [decide_eq_true_eq]; omega)],h1,by omega,M,S⟩
theorem AN (hm:2 ^ 41≤m){n:Nat}:∀(f bs:Nat) (l:List Int),n=l.length→l.length<2 ^ 40→Cm cmp c l→n - bs<f→0<bs→bs<2 ^ 42→(Ord c l→NN c l bs n)→
  ∃d y,bM.l1 m (n:Int) cmp f l (bs:Int)=some (d,y)∧d.Perm l∧(Ord c l→Sg c d 0 n)
 | 0,bs,l,_,_,_,hf,_,_,_=>absurd hf (by omega)
 | f+1,bs,l,hn,hs,C,hf,hb,hb2,B=>by
  have nT:(2:Nat) ^ 40=1099511627776:=by decide
  have rE:(2:Nat) ^ 41=2199023255552:=by decide
  have NK:(2:Nat) ^ 42=4398046511104:=by decide
  unfold bM.l1
  by_cases h:bs<n
  ·have e2:i64.wrap ((2:Int)*(bs:Int))=((2*bs:Nat):Int):=by rw [aD (by omega) (by omega)]; omega
   have e3:i64.wrap ((bs:Int)*(2:Int))=((2*bs:Nat):Int):=by rw [aD (by omega) (by omega)]; omega
   obtain⟨d1,t,y,k1,k2,k3,M1,S1⟩:=F0 (cmp:=cmp) (c:=c) hm hn hs hb h C B m 0 l (by omega) (by omega) Mv.refl (fun O k hk=>absurd hk (by omega))
   have l1:=M1.length
   simp only [Nat.zero_mul,XS] at k1
   have k1:bM.l2 m (n:Int) cmp (bs:Int) m l (0:Int) ((2*bs:Nat):Int)=_:=k1
   rw [if_pos (by simp only [decide_eq_true_eq]; omega),e2,k1,Xr]
   dsimp only
   rw [e3]
   have q1:(2*t)*bs=t*(2*bs):=by rw [Nat.mul_assoc,Nat.mul_left_comm]
   have q2:(2*t+1)*bs=t*(2*bs)+bs:=by rw [Nat.succ_mul,q1]
   have hk:∀k,k<t→k*(2*bs)+2*bs≤t*(2*bs):=fun k hk=>by
    rw [←Nat.succ_mul]; exact Yj _ hk
   have pP:∀k,t<k→t*(2*bs)+2*bs≤k*(2*bs):=fun k hk=>by
    rw [←Nat.succ_mul]; exact Yj _ hk
   have e0:i64.wrap (((t*(2*bs):Nat):Int)+(bs:Int))=((t*(2*bs)+bs:Nat):Int):=by rw [aD (by omega) (by omega)]; omega
   rw [e0]
   by_cases h2:t*(2*bs)+bs<n
   ·obtain⟨d2,e4,M2,S2⟩:=oX (cmp:=cmp) (c:=c) hm m d1 (t*(2*bs)) (t*(2*bs)+bs) n (by omega) (by omega) (by omega) (by omega) (by omega) (C.perm M1.perm)
    rw [if_pos (by simp only [decide_eq_true_eq]; omega),e4,Xr]
    have P2:=M2.perm.trans M1.perm
    obtain⟨d,y,g1,g2,g3⟩:=AN (n:=n) hm f (2*bs) d2 (by have:=P2.length_eq; omega) (by have:=P2.length_eq; omega) (C.perm P2) (by omega) (by omega) (by omega) (fun O k i j w1 w2 w3 w4=>by
     have O:=O.perm P2.symm
     by_cases u1:k<t
     ·have:=hk k u1
      rw [M2.out i (by omega),M2.out j (by omega)]; exact S1 O k u1 _ _ w1 w2 w3
     ·by_cases u2:k=t
      ·subst u2
       refine S2 (O.perm M1.perm) (fun i j x1 x2 x3=>?_) (fun i j x1 x2 x3=>?_) _ _ w1 w2 w4
       ·rw [M1.out i (by omega),M1.out j (by omega)]; exact B O (2*k) i j (by omega) x2 (by omega) (by omega)
       ·rw [M1.out i (by omega),M1.out j (by omega)]; exact B O (2*k+1) i j (by omega) x2 (by omega) (by omega)
      ·have:=pP k (by omega); omega)
    exact⟨d,y,g1,g2.trans P2,fun O=>g3 (O.perm P2)⟩
   ·rw [if_neg (by simp only [decide_eq_true_eq]; omega)]
    have P2:=M1.perm
    obtain⟨d,y,g1,g2,g3⟩:=AN (n:=n) hm f (2*bs) d1 (by have:=P2.length_eq; omega) (by have:=P2.length_eq; omega) (C.perm P2) (by omega) (by omega) (by omega) (fun O k i j w1 w2 w3 w4=>by
     have O:=O.perm P2.symm
     by_cases u1:k<t
     ·exact S1 O k u1 _ _ w1 w2 w3
     ·by_cases u2:k=t
      ·subst u2
       rw [M1.out i (by omega),M1.out j (by omega)]; exact B O (2*k) i j (by omega) w2 (by omega) (by omega)
      ·have:=pP k (by omega); omega)
    exact⟨d,y,g1,g2.trans P2,fun O=>g3 (O.perm P2)⟩
  ·refine⟨l,bs,by rw [if_neg (by simp only [decide_eq_true_eq]; omega)],List.Perm.refl _,fun O i j w1 w2 w3=>B O 0 i j (by omega) w2 (by omega) w3⟩
theorem DS (hm:2 ^ 41≤m){l:List Int}(hs:l.length<2 ^ 40)(C:Cm cmp c l):∃d,eR.f m l cmp=some d∧d.Perm l∧(Ord c l→Sg c d 0 l.length):=by
 have nT:(2:Nat) ^ 40=1099511627776:=by decide
 have rE:(2:Nat) ^ 41=2199023255552:=by decide
 have NK:(2:Nat) ^ 42=4398046511104:=by decide
 unfold eR.f bM.f
 obtain⟨d1,t,y,k1,k2,k3,M1,S1⟩:=FZ (cmp:=cmp) (c:=c) hm rfl hs C m 0 l (by omega) (by omega) Mv.refl (fun O k hk=>absurd hk (by omega))
 have k1:bM.l0 m (l.length:Int) cmp m l (0:Int) (20:Int)=_:=k1
 have l1:=M1.length
 rw [k1,Xr]
 dsimp only
 obtain⟨d2,e2,M2,S2⟩:=yW (a:=20*t) (b:=l.length) (cmp:=cmp) (c:=c) hm (l:=d1) (by omega) (by omega) (by omega) (C.perm M1.perm)
 rw [e2,Xr]
 have P2:=M2.perm.trans M1.perm
 obtain⟨d,y,g1,g2,g3⟩:=AN (cmp:=cmp) (c:=c) (n:=l.length) hm m 20 d2 P2.length_eq.symm (by rw [P2.length_eq]; exact hs) (C.perm P2) (by omega) (by omega) (by omega) (fun O k i j w1 w2 w3 w4=>by
  have O:=O.perm P2.symm
  by_cases u1:k<t
  ·rw [M2.out i (by omega),M2.out j (by omega)]; exact S1 O k u1 _ _ (by omega) w2 (by omega)
  ·exact S2 (O.perm M1.perm) _ _ (by omega) w2 (by omega))
 have g1:bM.l1 m (l.length:Int) cmp m d2 (20:Int)=_:=g1
 rw [g1]
 exact⟨d,rfl,g2.trans P2,fun O=>g3 (O.perm P2)⟩
end
end Go.Proofs.YtmekcfdllhphlaaDoor
namespace Go.Proofs.YtmekcfdllhphlaaDoor
open Go Go.R
open Go.IntKind (i64 u64 u8 u32)
def Cb:cg:=gK [0,1,2,3] [2] [9,7] [] []
def fI.f (m:Nat)(n0:ab)(x0:ak):Option (Bool):=(ie.f m n0 (x0.nodes.length:Int)).bind fun x1=>some (!x1)
def fI.fin (h:AHeap)(r:Bool)(s:St):Prop:=aH Tryd.prog (s.open Cb) Tryd.f61.results.toList=some (.bool r)∧s.h=h
def Tt (cf:CallF)(m:Nat):Prop:=∀(n0:ab) (x0:ak) (r:Bool),fI.f m n0 x0=some r→∀h L (ez bQ:Nat),Has h L→L[ez]? = some (bQ,.ob [af.fz x0.nodes,.int .i64 x0.root])→cf 61 [.agg [.int .i64 n0.kind,.int .i64 n0.int,.str n0.label,aa.fz n0.args],.ptr bQ 0] h=some (.bool r,h)
section
variable {cf:CallF}{m:Nat}
theorem oZ {aU:FuncId→cg}(ha:aU 61=Cb)(QD:Tk cf m)(n0:ab)(x0:ak)(h:AHeap)(L:Mem)  {ez bQ:Nat}(fQ:L[ez]? = some (bQ,.ob [af.fz x0.nodes,.int .i64 x0.root]))(o:Has h (L)){out:Bool}(H:fI.f m n0 x0=some out) :
  ∃r h',bc Tryd.prog aU cf m 61 [.agg [.int .i64 n0.kind,.int .i64 n0.int,.str n0.label,aa.fz n0.args],.ptr bQ 0] h=some (r,h')∧r=(.bool out)∧h'=h:=by
 refine aq (fn:=Tryd.f61) ha Tryd.func61 (by kernel_rfl) (by kernel_rfl) ?_
 refine aG (Q:=fun s=>fI.fin h out s) (fun _ _ ⟨h1,h2,h3⟩=>⟨h1,_,h2,rfl,h3⟩) ?_
 have H:_=some out:=H
 unfold fI.f at H
 show de _ cf Cb m _ ⟨[.agg [.int .i64 n0.kind,.int .i64 n0.int,.str n0.label,aa.fz n0.args],.ptr bQ 0,.any,.any],[none],h⟩ _
 refine q1 <| qq ?_
 obtain⟨x1,e0,H⟩:=aI H
 obtain rfl:=oi H
 exact qr [.v 2 (show bl Tryd.prog h 29 (.ptr bQ 0)=some (af.fz x0.nodes) from ca (q:=ez) (cs:=[af.fz x0.nodes,.int .i64 x0.root]) o fQ (by kernel_rfl)),.a 4 (QD _ _ _ e0 h _ (hH (ae (dy (ae (aO) (ae (aO) (ae (bY) (ae (db (E:=aa)) (aC)))))) (ae (aO) (aC)))))] <| qt <| ⟨.inl rfl,⟨by kernel_rfl,by kernel_rfl⟩⟩
end
end Go.Proofs.YtmekcfdllhphlaaDoor
namespace Go.Proofs.YtmekcfdllhphlaaDoor
open Go Go.R
open Go.IntKind (i64 u64 u8 u32)
def Cc:cg:=gK [0,1,2] [] [5,3] [] []
def gx.f (m:Nat)(t0:ak):Option (Bool):=if (decide ((t0.nodes.length:Int)≥(1:Int)))=true then (if (decide ((t0.nodes.length:Int)≤(8000:Int)))=true then (if (decide (t0.root≥(0:Int)))=true then (if (decide (t0.root<(t0.nodes.length:Int)))=true then ((fG.f m t0.nodes (fun y0=>fI.f m y0 t0)).bind fun x0=>some (!x0)) else (some false)) else (some false)) else (some false)) else (some false)
def gx.fin (L:Mem)(r:Bool)(s:St):Prop:=∃av,aH Tryd.prog (s.open Cc) Tryd.f45.results.toList=some av∧fW s.h av (.bool r)
def Tu (cf:CallF)(m:Nat):Prop:=∀(t0:ak) (r:Bool),gx.f m t0=some r→∀h xs,eN fi h xs [.agg [af.fz t0.nodes,.int .i64 t0.root]]→cf 45 xs h=some (.bool r,h)
section
variable {cf:CallF}{m:Nat}
theorem rP {aU:FuncId→cg}(ha:aU 45=Cc)(Lb:Qu cf m)(QE:Tt cf m)(t0:ak)(h:AHeap)(L:Mem)  (o:Has h (L)){out:Bool}(H:gx.f m t0=some out) :
  ∃r h',bc Tryd.prog aU cf m 45 [.agg [af.fz t0.nodes,.int .i64 t0.root]] h=some (r,h')∧fW h' r (.bool out):=by
 refine aq (fn:=Tryd.f45) ha Tryd.func45 (by kernel_rfl) (by kernel_rfl) ?_
 refine aG (Q:=fun s=>gx.fin L out s) (fun _ _ h=>h) ?_
 have H:_=some out:=H
 unfold gx.f at H
 show de _ cf Cc m _ ⟨[.agg [af.fz t0.nodes,.int .i64 t0.root],.any,.any],[],h⟩ _
 refine qq ?_
 obtain⟨aA,h0,e0,o0⟩:=ki (cs:=[af.fz t0.nodes,.int .i64 t0.root]) o (by kernel_rfl)
 refine qr [.a 0 e0] <| qq ?_
 rcases dJ H with⟨c0,H⟩| ⟨c0,H⟩
 ·rcases dJ H with⟨c1,H⟩| ⟨c1,H⟩
  ·rcases dJ H with⟨c2,H⟩| ⟨c2,H⟩
   ·rcases dJ H with⟨c3,H⟩| ⟨c3,H⟩
    ·obtain⟨x0,e1,H⟩:=aI H
     refine qr [.v 1 (show bl Tryd.prog h0 29 (.ptr aA 0)=some (af.fz t0.nodes) from ca (q:=0) (cs:=[af.fz t0.nodes,.int .i64 t0.root]) o0 rfl (by kernel_rfl)),.b 4 c0,.v 6 (show bl Tryd.prog h0 29 (.ptr aA 0)=some (af.fz t0.nodes) from ca (q:=0) (cs:=[af.fz t0.nodes,.int .i64 t0.root]) o0 rfl (by kernel_rfl)),.b 10 c1,.v 12 (show bl Tryd.prog h0 3 (.ptr aA 1)=some (.int .i64 t0.root) from ca (q:=0) (cs:=[af.fz t0.nodes,.int .i64 t0.root]) o0 rfl (by kernel_rfl)),.b 15 c2,.v 17 (show bl Tryd.prog h0 3 (.ptr aA 1)=some (.int .i64 t0.root) from ca (q:=0) (cs:=[af.fz t0.nodes,.int .i64 t0.root]) o0 rfl (by kernel_rfl)),.v 19 (show bl Tryd.prog h0 29 (.ptr aA 0)=some (af.fz t0.nodes) from ca (q:=0) (cs:=[af.fz t0.nodes,.int .i64 t0.root]) o0 rfl (by kernel_rfl)),.b 23 c3,.v 25 (show bl Tryd.prog h0 29 (.ptr aA 0)=some (af.fz t0.nodes) from ca (q:=0) (cs:=[af.fz t0.nodes,.int .i64 t0.root]) o0 rfl (by kernel_rfl)),.a 27 (Lb _ _ _ e1 h0 (Has.pos o0) 61 [.ptr aA 0] rfl (fun y0 r hr=>QE y0 _ r hr h0 _ 0 _ o0 rfl) _ (an (aP (iN (E:=af))) (an ((rfl:az (.fn 61 [.ptr aA 0])=_)) (bo))))] ?_
     have o1:Has h0 (L):=Has.del o0 0
     obtain rfl:=oi H
     exact qt <| ⟨.inl rfl,cb (.bool (!x0)) h0 (b9 (au))⟩
    ·refine qr [.v 1 (show bl Tryd.prog h0 29 (.ptr aA 0)=some (af.fz t0.nodes) from ca (q:=0) (cs:=[af.fz t0.nodes,.int .i64 t0.root]) o0 rfl (by kernel_rfl)),.b 4 c0,.v 6 (show bl Tryd.prog h0 29 (.ptr aA 0)=some (af.fz t0.nodes) from ca (q:=0) (cs:=[af.fz t0.nodes,.int .i64 t0.root]) o0 rfl (by kernel_rfl)),.b 10 c1,.v 12 (show bl Tryd.prog h0 3 (.ptr aA 1)=some (.int .i64 t0.root) from ca (q:=0) (cs:=[af.fz t0.nodes,.int .i64 t0.root]) o0 rfl (by kernel_rfl)),.b 15 c2,.v 17 (show bl Tryd.prog h0 3 (.ptr aA 1)=some (.int .i64 t0.root) from ca (q:=0) (cs:=[af.fz t0.nodes,.int .i64 t0.root]) o0 rfl (by kernel_rfl)),.v 19 (show bl Tryd.prog h0 29 (.ptr aA 0)=some (af.fz t0.nodes) from ca (q:=0) (cs:=[af.fz t0.nodes,.int .i64 t0.root]) o0 rfl (by kernel_rfl)),.b 23 c3] ?_
     have o2:Has h0 (L):=Has.del o0 0
     obtain rfl:=oi H
     exact qt <| ⟨.inl rfl,cb (.bool false) h0 (b9 (au))⟩
   ·refine qr [.v 1 (show bl Tryd.prog h0 29 (.ptr aA 0)=some (af.fz t0.nodes) from ca (q:=0) (cs:=[af.fz t0.nodes,.int .i64 t0.root]) o0 rfl (by kernel_rfl)),.b 4 c0,.v 6 (show bl Tryd.prog h0 29 (.ptr aA 0)=some (af.fz t0.nodes) from ca (q:=0) (cs:=[af.fz t0.nodes,.int .i64 t0.root]) o0 rfl (by kernel_rfl)),.b 10 c1,.v 12 (show bl Tryd.prog h0 3 (.ptr aA 1)=some (.int .i64 t0.root) from ca (q:=0) (cs:=[af.fz t0.nodes,.int .i64 t0.root]) o0 rfl (by kernel_rfl)),.b 15 c2] ?_
    have o3:Has h0 (L):=Has.del o0 0
    obtain rfl:=oi H
    exact qt <| ⟨.inl rfl,cb (.bool false) h0 (b9 (au))⟩
  ·refine qr [.v 1 (show bl Tryd.prog h0 29 (.ptr aA 0)=some (af.fz t0.nodes) from ca (q:=0) (cs:=[af.fz t0.nodes,.int .i64 t0.root]) o0 rfl (by kernel_rfl)),.b 4 c0,.v 6 (show bl Tryd.prog h0 29 (.ptr aA 0)=some (af.fz t0.nodes) from ca (q:=0) (cs:=[af.fz t0.nodes,.int .i64 t0.root]) o0 rfl (by kernel_rfl)),.b 10 c1] ?_
   have o4:Has h0 (L):=Has.del o0 0
   obtain rfl:=oi H
   exact qt <| ⟨.inl rfl,cb (.bool false) h0 (b9 (au))⟩
 ·refine qr [.v 1 (show bl Tryd.prog h0 29 (.ptr aA 0)=some (af.fz t0.nodes) from ca (q:=0) (cs:=[af.fz t0.nodes,.int .i64 t0.root]) o0 rfl (by kernel_rfl)),.b 4 c0] ?_
  have o5:Has h0 (L):=Has.del o0 0
  obtain rfl:=oi H
  exact qt <| ⟨.inl rfl,cb (.bool false) h0 (b9 (au))⟩
end
end Go.Proofs.YtmekcfdllhphlaaDoor
namespace Go.Proofs.YtmekcfdllhphlaaDoor
open Go Go.R
open Go.IntKind (i64 u64 u8 u32)
def xl:cg:=gK [0,2] [] [2,1] [] []
def cmp_isNaN_int.f (m:Nat)(x0:Int):Option (Bool):=some (!(x0==x0))
def cmp_isNaN_int.fin (L:Mem)(r:Bool)(s:St):Prop:=∃av,aH Tryd.prog (s.open xl) Tryd.f108.results.toList=some av∧fW s.h av (.bool r)
def NO (cf:CallF)(m:Nat):Prop:=∀(x0:Int) (r:Bool),cmp_isNaN_int.f m x0=some r→∀h xs,eN fi h xs [.int .i64 x0]→cf 108 xs h=some (.bool r,h)
section
variable {cf:CallF}{m:Nat}
theorem nL {aU:FuncId→cg}(ha:aU 108=xl)  (x0:Int)(h:AHeap)(L:Mem)  (o:Has h (L)){out:Bool}(H:cmp_isNaN_int.f m x0=some out) :
  ∃r h',bc Tryd.prog aU cf m 108 [.int .i64 x0] h=some (r,h')∧fW h' r (.bool out):=by
 refine aq (fn:=Tryd.f108) ha Tryd.func108 (by kernel_rfl) (by kernel_rfl) ?_
 refine aG (Q:=fun s=>cmp_isNaN_int.fin L out s) (fun _ _ h=>h) ?_
 have H:_=some out:=H
 unfold cmp_isNaN_int.f at H
 show de _ cf xl m _ ⟨[.int .i64 x0,.any],[],h⟩ _
 obtain rfl:=oi H
 exact q1 <| qq <| q0 <| qt <| ⟨.inl rfl,cb (.bool (!(x0==x0))) h (b9 (au))⟩
end
end Go.Proofs.YtmekcfdllhphlaaDoor
